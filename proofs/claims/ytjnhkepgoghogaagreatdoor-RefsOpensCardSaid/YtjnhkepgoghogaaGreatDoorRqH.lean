/- espalierref08.Set. -/
import Derived.Test.YtjnhkepgoghogaaGreatDoorRqE
namespace Go.Proofs.YtjnhkepgoghogaaGreatDoor
open Go.RowKit Go.ChangeMaps Go.MapKept
set_option linter.unusedSimpArgs false

structure SetS where
  out : IdsL
  wrt : IdsL
/-- The document's Set: what is wrong with a change, else where it stands. -/
def rstep (L pre : IdsL) (c : ByteArray × Nat) : Int :=
  if (pathOf c.1).1 ≠ 0 then (pathOf c.1).1 else if c.1 = ⟨#[]⟩ then 2 else if ∃ x ∈ pre, x.1 = c.1 then 5 else if c.2 = 0 ∧ getL c.1 L = 0 then 4 else 0
def rnext (L : IdsL) (c : ByteArray × Nat) (st : SetS) : SetS := if getL c.1 L ≠ c.2 then ⟨withL st.out c, st.wrt ++ [c]⟩ else st
def rsetGo (L : IdsL) : IdsL → SetS → IdsL → Int × SetS
  | _, st, [] => (0, st)
  | pre, st, c :: l => if rstep L pre c ≠ 0 then (rstep L pre c, st) else rsetGo L (pre ++ [c]) (rnext L c st) l
def rsetEnd (L : IdsL) : Int × SetS → Int × IdsL × IdsL
  | (e, st) => if e ≠ 0 then (e, L, []) else if 64 < st.out.length then (3, L, []) else (0, st.out, st.wrt)
def rsetL (L l : IdsL) : Int × IdsL × IdsL := rsetEnd L (rsetGo L [] ⟨L, []⟩ l)
theorem withGo_len (c : ByteArray × Nat) : ∀ (l : IdsL) (b : Bool) (o : IdsL), (withEnd c (withGo c (b, o) l)).length ≤ o.length + l.length + (if b = true then 0 else 1)
  | [], b, o => by cases b <;> simp [withGo, withEnd]
  | x :: l, b, o => by
    have h := withGo_len c l (b || gtS x.1 c.1) ((if b = false ∧ gtS x.1 c.1 = true then o ++ [c] else o) ++ (if x.1 = c.1 then [] else [x]))
    unfold withGo
    refine Nat.le_trans h ?_
    rw [List.length_append, List.length_cons]
    have hx : (if x.1 = c.1 then ([] : IdsL) else [x]).length ≤ 1 := by split <;> simp
    cases b <;> cases hg : gtS x.1 c.1 <;> simp <;> omega
theorem withL_len (l : IdsL) (c : ByteArray × Nat) : (withL l c).length ≤ l.length + 1 := by
  have h := withGo_len c l (decide (c.2 = 0)) []
  unfold withL
  simp only [List.length_nil] at h
  split at h <;> omega
theorem ne_empty {s : ByteArray} (h0 : s ≠ ⟨#[]⟩) : s.toList.isEmpty = false := by
  have h := (Lib.bytes_beq_false_iff s ⟨#[]⟩).2 h0
  rw [show ByteArray.toList ⟨#[]⟩ = [] from by kernel_rfl] at h
  cases hl : s.toList <;> simp_all
theorem refs3_ret {R : Ending → World → Prop} {W : World} {B : Nat} {v v2 v3 : Value} {t u1 u2 : Tmp} {fn : Func} {a : Act} (hf : fn.results = #[.cell t 32, .tmp u1, .tmp u2]) (ht : a.tmps.getD t undef = .pointer (some ⟨B, 0, none⟩)) (h1 : a.tmps.getD u1 undef = v2) (h2 : a.tmps.getD u2 undef = v3) (hd : a.defers = [])
    (hB : W.heap[B]? = some (.cells #[v] 32 (0, 0))) (hR : R (.returned (.tuple #[.agg #[v], v2, v3])) W) : bodyPost Tryz.prog fn R .ret a W := by
  have hx := run_loadVar_row (P := Tryz.prog) W B 32 32 _ (0, 0) _ hB Tryz.underlying32 rfl (by kernel_rfl)
  have ht2 : a.tmps[t]?.getD undef = .pointer (some ⟨B, 0, none⟩) := by simpa using ht
  have hu1 : a.tmps[u1]?.getD undef = v2 := by simpa using h1
  have hu2 : a.tmps[u2]?.getD undef = v3 := by simpa using h2
  refine bodyPost_ret (v := .tuple #[.agg #[v], v2, v3]) ?_ hd hR
  simp [results, hf, ht2, hu1, hu2, asAddr, Result.andThen, hx]
theorem set_lay (w : World) (v : Value) : ∃ w1, ((w.alloc (.cells #[v] 32)).alloc (.cells #[.slice none 0 0] 32)).alloc (.cells #[v] 32) = w1 ∧ w1.heap[w.heap.size]? = some (.cells #[v] 32 (0, 0)) ∧ w1.heap[w.heap.size + 1]? = some (.cells #[.slice none 0 0] 32 (0, 0)) ∧ w1.heap[w.heap.size + 1 + 1]? = some (.cells #[v] 32 (0, 0)) ∧ Kept (fun _ => False) w w1 ∧ w1.heap.size = w.heap.size + 1 + 1 + 1 := by
  refine ⟨_, rfl, alloc_old (alloc_old (heap_alloc_new _ _)), alloc_old ?_, ?_, (((Kept.refl _ _).alloc _).alloc _).alloc _, by simp⟩
  · have := heap_alloc_new (w.alloc (.cells #[v] 32)) (.cells #[.slice none 0 0] 32)
    rwa [World.size_alloc] at this
  · have := heap_alloc_new ((w.alloc (.cells #[v] 32)).alloc (.cells #[.slice none 0 0] 32)) (.cells #[v] 32)
    rwa [World.size_alloc, World.size_alloc] at this
/-- Where Set's out stands: in a variable of its own, apart from what is written. -/
def SetOut (R : Nat) (v0 wv : Value) (wr : World) (out : IdsL) : Prop :=
  ∃ oa oc, wr.heap[R + 1 + 1]? = some (.cells #[.slice oa out.length oc] 32 (0, 0)) ∧ IsR wr (.slice oa out.length oc) out ∧ (out ≠ [] → ∀ g, (Value.slice oa out.length oc).ownBlock = some g → (g ≠ R + 1 ∧ g ≠ R + 1 + 1) ∧ wv.ownBlock ≠ some g) ∧ ((Value.slice oa out.length oc) = v0 ∨ ∀ g, (Value.slice oa out.length oc).ownBlock = some g → R ≤ g)
theorem SetOut.keptN {R : Nat} {v0 wv : Value} {w w' : World} {out : IdsL} (h : SetOut R v0 wv w out) (hk : Kept (fun _ => False) w w') : SetOut R v0 wv w' out := by
  obtain ⟨oa, oc, h1, h2, h3⟩ := h
  exact ⟨oa, oc, (hk.block _ (Array.getElem?_eq_some_iff.1 h1).1 (fun f => f)).trans h1, h2.keptN hk, h3⟩
set_option maxRecDepth 100000 in
set_option maxHeartbeats 2000000 in
theorem rset_any (w : World) (a b : Option Addr) (c d : Nat) (L l : IdsL) (h : IsR w (.slice a L.length c) L) (h2 : IsR w (.slice b l.length d) l) (hl : L.length ≤ 100000) (hl2 : l.length ≤ 1000) :
    Calls Tryz.prog 10 #[.agg #[.slice a L.length c], .slice b l.length d] w fun e w' => ∃ v v2, e = .returned (.tuple #[.agg #[v], v2, .int .i64 (rsetL L l).1]) ∧ IsR w' v (rsetL L l).2.1 ∧ IsR w' v2 (rsetL L l).2.2 ∧ Kept (fun _ => False) w w' ∧ (v = .slice a L.length c ∨ ∀ g, v.ownBlock = some g → w.heap.size ≤ g) := by
  have HL := Lib.hid h
  have HM := Lib.hid h2
  obtain ⟨n, hn⟩ : ∃ n, L.length = n := ⟨_, rfl⟩
  obtain ⟨m, hm⟩ : ∃ m, l.length = m := ⟨_, rfl⟩
  rw [hn] at HL hl ⊢
  rw [hm] at HM hl2 ⊢
  have HN := Lib.hid hn
  have HMM := Lib.hid hm
  clear h h2 hn hm
  obtain ⟨w1, hw1, hB1, hR1, hO1, hk1, hs1⟩ := set_lay w (.slice a n c)
  have H1 := Lib.hid (And.intro hB1 (And.intro hR1 (And.intro hO1 (And.intro hk1 hs1))))
  have b0 : w1.cell? ⟨w.heap.size, 0, none⟩ = some (.slice a n c) := by simp [World.cell?, hB1]
  clear hB1 hR1 hO1 hk1 hs1
  obtain ⟨bb, hbb⟩ : ∃ b, w1.heap.size = b := ⟨_, rfl⟩
  have HB := Lib.hid hbb
  obtain ⟨R, hR⟩ : ∃ R, w.heap.size = R := ⟨_, rfl⟩
  have HR := Lib.hid hR
  have hRb : R + 1 + 1 + 1 = bb := by rw [← hR, ← hbb]; exact H1.out.2.2.2.2.symm
  have HMO : Hid (∀ g, (Value.slice b m d).ownBlock = some g → l ≠ [] → g < R) := Lib.hid (fun g e hne => by
    obtain ⟨_, _, e1, -, -, h3⟩ := HM.out
    cases e1
    obtain ⟨g', o, rfl, hg, -⟩ := h3.resolve_left hne
    cases e
    show g' < R
    omega)
  have HLO : Hid (∀ g, (Value.slice a n c).ownBlock = some g → L ≠ [] → g < R) := Lib.hid (fun g e hne => by
    obtain ⟨_, _, e1, -, -, h3⟩ := HL.out
    cases e1
    obtain ⟨g', o, rfl, hg, -⟩ := h3.resolve_left hne
    cases e
    show g' < R
    omega)
  clear hbb
  have HINI : Hid (SetOut R (.slice a n c) (.slice none 0 0) w1 L) := Lib.hid (by
    have e := HN.out
    have h4 : IsR w1 (.slice a n c) L := HL.out.keptN H1.out.2.2.2.1
    refine ⟨a, c, ?_, ?_, fun hne g e => ⟨?_, fun f => by cases f⟩, .inl (by rw [e])⟩
    · rw [e, ← hR]; exact H1.out.2.2.1
    · rw [e]; exact h4
    · have := HLO.out g (by rw [← HN.out]; exact e) hne
      omega)
  rw [hR] at b0
  go_enter Tryz.func10, Tryz.ntmps10
  go_wp2_with fail
  clear hR
  have HERR : Hid (∀ (e : Int) (st : SetS) (W : World), e ≠ 0 → rsetGo L [] ⟨L, []⟩ l = (e, st) → Kept (fun i => i = R + 1 ∨ i = R + 1 + 1) w1 W → ∃ v v2, Ending.returned (.tuple #[.agg #[.slice a n c], .slice none 0 0, .int .i64 e]) = Ending.returned (.tuple #[.agg #[v], v2, .int .i64 (rsetL L l).1]) ∧ IsR W v (rsetL L l).2.1 ∧ IsR W v2 (rsetL L l).2.2 ∧ Kept (fun _ => False) w W ∧ (v = .slice a n c ∨ ∀ g, v.ownBlock = some g → w.heap.size ≤ g)) := Lib.hid (fun e st W he hr hk => by
    have h5 : rsetL L l = (e, L, []) := by
      unfold rsetL
      rw [hr]
      show (if e ≠ 0 then (e, L, []) else _) = _
      rw [if_pos he]
    rw [h5]
    refine ⟨_, _, rfl, (HL.out.keptN H1.out.2.2.2.1).keptS hk (fun hne g e f => by have := HLO.out g e hne; omega), ⟨none, 0, rfl, Nat.le_refl _, by simp [maxLen], .inl rfl⟩, H1.out.2.2.2.1.trans hk (fun i hi e => by have := HR.out; omega), .inl rfl⟩)
  have HSC : Hid (∀ (W : World) (v : Value), Kept (fun i => i = R + 1) W (W.setCell ⟨R + 1, 0, none⟩ v)) := Lib.hid (fun W v => (Kept.refl (fun i => i = R + 1) W).setCell (p := ⟨R + 1, 0, none⟩) (fun _ => rfl) _)
  go_loopg [8, 15] m (fun g wv iv wr => ∃ k st, k + g = m ∧ iv = .int .i64 k ∧ Hid (rsetGo L (l.take k) st (l.drop k) = rsetGo L [] ⟨L, []⟩ l) ∧ st.out.length ≤ n + k ∧ st.wrt.length ≤ k ∧ Hid (OwnR bb wr wv st.wrt) ∧ Hid (SetOut R (.slice a n c) wv wr st.out) ∧ Hid (Kept (· = R + 1 + 1) w1 wr))
  case atStart => exact ⟨0, ⟨L, []⟩, by omega, rfl, Lib.hid rfl, by have := HN.out; simp; omega, by simp, Lib.hid (OwnR.nil _ _), HINI, Lib.hid (Kept.refl _ _)⟩
  case round =>
    obtain ⟨k, st, hkg, rfl, HE, hol, hwl, HO, HS, HK⟩ := hrel
    have d0 : wr.cell? ⟨R, 0, none⟩ = some (.slice a n c) := HK.out.cell b0 (fun e => by simp at e; omega)
    rcases Nat.eq_zero_or_pos gk with rfl | hpos
    · obtain rfl : k = m := by omega
      have HG0 : Hid (rsetGo L [] ⟨L, []⟩ l = (0, st)) := Lib.hid (by rw [← HE.out, List.drop_eq_nil_of_le (by rw [HMM.out]; exact Nat.le_refl _)]; rfl)
      obtain ⟨oa, oc, ho1, ho2, ho3⟩ := HS.out
      have t0 : wr.cell? ⟨R + 1 + 1, 0, none⟩ = some (.slice oa st.out.length oc) := by simp [World.cell?, ho1]
      have hRW : wr.heap[R + 1]? = some (.cells #[.slice none 0 0] 32 (0, 0)) := by
        have h7 := H1.out.2.1
        rw [HR.out] at h7
        exact (HK.out.block _ (Array.getElem?_eq_some_iff.1 h7).1 (by omega)).trans h7
      have r0 : wr.cell? ⟨R + 1, 0, none⟩ = some (.slice none 0 0) := by simp [World.cell?, hRW]
      have r1 : wr.frozen? ⟨R + 1, 0, none⟩ = false := by simp [World.frozen?, hRW]
      have HRW := Lib.hid hRW
      have HIO := Lib.hid ho2
      have HOB := Lib.hid ho3
      have hoc : st.out.length ≤ 200000 := by omega
      clear ho1 ho2 ho3 hRW
      have HXW : Hid (∀ W, Kept (fun i => i = R + 1) wr W → Kept (fun i => i = R + 1 ∨ i = R + 1 + 1) w1 W) := Lib.hid (fun W hW => (HK.out.mono (fun _ _ h => .inr h)).trans hW (fun _ _ h => .inl h))
      have HRT : Hid (rsetL L l = if 64 < st.out.length then (3, L, []) else (0, st.out, st.wrt)) := Lib.hid (by
        unfold rsetL
        rw [HG0.out]
        rfl)
      obtain ⟨q, hq⟩ : ∃ q, st.out.length = q := ⟨_, rfl⟩
      rw [hq] at t0 hoc HRT HIO HOB
      clear hq hol
      by_cases h64 : 64 < q
      · have h64b : decide (64 < (q : Int)) = true := by simp; omega
        have HRT2 : Hid (rsetL L l = (3, L, [])) := Lib.hid (by rw [HRT.out, if_pos h64])
        go_wp2_with fail
        refine refs3_ret rfl rfl rfl rfl rfl ((heap_setCell_row HRW.out _).trans rfl) ?_
        rw [HRT2.out]
        have hk := HXW.out _ (HSC.out wr (.slice a n c))
        exact ⟨_, _, rfl, (HL.out.keptN H1.out.2.2.2.1).keptS hk (fun hne g e f => by have := HLO.out g e hne; omega), ⟨none, 0, rfl, Nat.le_refl _, by simp [maxLen], .inl rfl⟩, H1.out.2.2.2.1.trans hk (fun i hi e => by have := HR.out; omega), .inl rfl⟩
      · have h64b : decide (64 < (q : Int)) = false := by simp; omega
        have HRT2 : Hid (rsetL L l = (0, st.out, st.wrt)) := Lib.hid (by rw [HRT.out, if_neg h64])
        go_wp2_with fail
        refine refs3_ret rfl rfl rfl rfl rfl ((heap_setCell_row HRW.out _).trans rfl) ?_
        rw [HRT2.out]
        have hk := HXW.out _ (HSC.out wr (.slice oa q oc))
        exact ⟨_, _, rfl, HIO.out.keptS (HSC.out wr _) (fun hne g e f => absurd f (HOB.out.1 hne g e).1.1), (HO.out.kept (HSC.out wr _) (fun i hi e => by omega)).isR, H1.out.2.2.2.1.trans hk (fun i hi e => by have := HR.out; omega), HOB.out.2.imp id (fun h g e => by rw [HR.out]; exact h g e)⟩
    · have hlt : (k : Int) < (m : Int) := by omega
      have hkl : k < l.length := by rw [HMM.out]; omega
      obtain ⟨ga, go, rfl, hga, hx0, hx1⟩ := ((HM.out.keptN H1.out.2.2.2.1).keptS HK.out (fun hne g e f => by have := HMO.out g e hne; omega)).at (k := k) hkl
      have HD : Hid (l.drop k = l[k] :: l.drop (k + 1)) := Lib.hid (List.drop_eq_getElem_cons hkl)
      have HLW : Hid (bb ≤ wr.heap.size) := Lib.hid (by have h7 := HK.out.size; have h8 := HB.out; omega)
      have HT : Hid (l.take (k + 1) = l.take k ++ [l[k]]) := Lib.hid (List.take_succ_eq_append_getElem hkl)
      have HTW : Hid (∀ W, Kept (· = R + 1 + 1) w1 W → Calls Tryz.prog 30 #[.slice (some ⟨ga, go, none⟩) m d, .int .i64 k] W fun e w' => e = .returned (.bool (decide (∃ x ∈ l.take k, x.1 = l[k].1))) ∧ Kept (fun _ => False) W w') := Lib.hid (fun W hW => by
        have h5 := twice_any W (some ⟨ga, go, none⟩) d l (by rw [HMM.out]; exact (HM.out.keptN H1.out.2.2.2.1).keptS hW (fun hne g e f => by have := HMO.out g e hne; omega)) k hkl
        rwa [HMM.out] at h5)
      have HGT : Hid (∀ W, Kept (· = R + 1 + 1) w1 W → Calls Tryz.prog 31 #[.agg #[.slice a n c], .string l[k].1] W fun e w' => e = .returned (.int .u64 (getL l[k].1 L)) ∧ Kept (fun _ => False) W w') := Lib.hid (fun W hW => by
        have h5 := rget_any W a c L (by rw [HN.out]; exact (HL.out.keptN H1.out.2.2.2.1).keptS hW (fun hne g e f => by have := HLO.out g e hne; omega)) l[k].1
        rwa [HN.out] at h5)
      have HSTEP : Hid (rsetGo L [] ⟨L, []⟩ l = if rstep L (l.take k) l[k] ≠ 0 then (rstep L (l.take k) l[k], st) else rsetGo L (l.take (k + 1)) (rnext L l[k] st) (l.drop (k + 1))) := Lib.hid (by
        rw [← HE.out, HD.out, HT.out]
        rfl)
      generalize hxx : l[k] = x at *
      clear hxx
      obtain ⟨xs, xi⟩ := x
      simp only at hx0 hx1 HTW HGT
      obtain ⟨wA, hwA, hkA, hsA, hbA⟩ := ref_new wr xs xi
      have hA0 : wA.cell? ⟨wr.heap.size, 0, none⟩ = some (.string xs) := by simp [World.cell?, hbA]
      have hA1 : wA.cell? ⟨wr.heap.size, 1, none⟩ = some (.int .u64 xi) := by simp [World.cell?, hbA]
      have HPA := Lib.hid (rpath_any xs wA)
      have HRS : Hid (rstep L (l.take k) (xs, xi) = if (pathOf xs).1 ≠ 0 then (pathOf xs).1 else if xs = ⟨#[]⟩ then 2 else if ∃ x ∈ l.take k, x.1 = xs then 5 else if xi = 0 ∧ getL xs L = 0 then 4 else 0) := Lib.hid rfl
      obtain ⟨⟨C1, C2⟩, hC⟩ : ∃ C, pathOf xs = C := ⟨_, rfl⟩
      rw [hC] at HPA HRS
      simp only at HPA HRS
      have HKA := Lib.hid (HK.out.trans hkA (fun _ _ f => f.elim))
      have HKRA := Lib.hid hkA
      clear hC hbA hkA
      go_wp2_with fail
      refine HPA.out.mono ?_
      rintro e wB ⟨rfl, hkB⟩
      obtain ⟨wC, hwC⟩ : ∃ W, wB.alloc (.cells #[.int .i64 C1, .int .i64 C2] 77) = W := ⟨_, rfl⟩
      have hS6 : wC.heap[wB.heap.size]? = some (.cells #[.int .i64 C1, .int .i64 C2] 77 (0, 0)) := by rw [← hwC]; exact heap_alloc_new _ _
      have hkC : Kept (fun _ => False) wB wC := by rw [← hwC]; exact (Kept.refl _ _).alloc _
      have HSZ : Hid (wr.heap.size ≤ wB.heap.size) := Lib.hid (by have h7 := HKRA.out.size; have h8 := hkB.size; omega)
      have hkAC := hkB.trans hkC (fun _ _ f => f)
      have s0 : wC.cell? ⟨wB.heap.size, 0, none⟩ = some (.int .i64 C1) := by simp [World.cell?, hS6]
      have e0 : wC.cell? ⟨wr.heap.size, 0, none⟩ = some (.string xs) := hkAC.cell hA0 (fun f => f)
      have e1 : wC.cell? ⟨wr.heap.size, 1, none⟩ = some (.int .u64 xi) := hkAC.cell hA1 (fun f => f)
      have f0 : wC.cell? ⟨R, 0, none⟩ = some (.slice a n c) := (HKRA.out.trans hkAC (fun _ _ f => f)).cell d0 (fun f => f)
      have HKC : Hid (Kept (· = R + 1 + 1) w1 wC) := Lib.hid (HKA.out.trans hkAC (fun _ _ f => f.elim))
      have HKRC : Hid (Kept (fun _ => False) wr wC) := Lib.hid (HKRA.out.trans hkAC (fun _ _ f => f))
      have hRC : wC.heap[R + 1]? = some (.cells #[.slice none 0 0] 32 (0, 0)) := by
        have h7 := H1.out.2.1
        rw [HR.out] at h7
        exact (HKC.out.block _ (Array.getElem?_eq_some_iff.1 h7).1 (by omega)).trans h7
      have r0 : wC.cell? ⟨R + 1, 0, none⟩ = some (.slice none 0 0) := by simp [World.cell?, hRC]
      have r1 : wC.frozen? ⟨R + 1, 0, none⟩ = false := by simp [World.frozen?, hRC]
      have HRC := Lib.hid hRC
      clear hkB hkC hkAC hS6 hRC hx0 hx1 hA0 hA1 d0 hwA hsA
      have HX : Hid (∀ W, Kept (fun i => i = R + 1) wC W → Kept (fun i => i = R + 1 ∨ i = R + 1 + 1) w1 W) := Lib.hid (fun W hW => (HKC.out.mono (fun _ _ h => .inr h)).trans hW (fun _ _ h => .inl h))
      by_cases hz : C1 = 0
      · subst hz
        by_cases h0 : xs = ⟨#[]⟩
        · have hst2 : rstep L (l.take k) (xs, xi) = 2 := by rw [HRS.out]; simp [h0]
          have HR2 : Hid (rsetGo L [] ⟨L, []⟩ l = (2, st)) := Lib.hid (by rw [HSTEP.out, hst2]; rfl)
          clear hst2
          subst h0
          go_wp2_with fail
          refine refs3_ret rfl rfl rfl rfl rfl ((heap_setCell_row HRC.out _).trans rfl) ?_
          exact HERR.out 2 st _ (by decide) HR2.out (HX.out _ (HSC.out _ _))
        · have h0b := ne_empty h0
          go_wp2_with fail
          refine (HTW.out wC HKC.out).mono ?_
          rintro e wD ⟨rfl, hkD⟩
          have HKD : Hid (Kept (· = R + 1 + 1) w1 wD) := Lib.hid (HKC.out.trans hkD (fun _ _ f => f.elim))
          have HKRD : Hid (Kept (fun _ => False) wr wD) := Lib.hid (HKRC.out.trans hkD (fun _ _ f => f))
          have e0 : wD.cell? ⟨wr.heap.size, 0, none⟩ = some (.string xs) := hkD.cell e0 (fun f => f)
          have e1 : wD.cell? ⟨wr.heap.size, 1, none⟩ = some (.int .u64 xi) := hkD.cell e1 (fun f => f)
          have f0 : wD.cell? ⟨R, 0, none⟩ = some (.slice a n c) := hkD.cell f0 (fun f => f)
          have hRD := (hkD.block _ (Array.getElem?_eq_some_iff.1 HRC.out).1 (fun f => f)).trans HRC.out
          have r0 : wD.cell? ⟨R + 1, 0, none⟩ = some (.slice none 0 0) := by simp [World.cell?, hRD]
          have r1 : wD.frozen? ⟨R + 1, 0, none⟩ = false := by simp [World.frozen?, hRD]
          have HRD := Lib.hid hRD
          have HXD : Hid (∀ W, Kept (fun i => i = R + 1) wD W → Kept (fun i => i = R + 1 ∨ i = R + 1 + 1) w1 W) := Lib.hid (fun W hW => (HKD.out.mono (fun _ _ h => .inr h)).trans hW (fun _ _ h => .inl h))
          clear hkD hRD HX
          by_cases htw : ∃ x ∈ l.take k, x.1 = xs
          · have hst2 : rstep L (l.take k) (xs, xi) = 5 := by rw [HRS.out, if_neg (by simp), if_neg h0, if_pos htw]
            have HR2 : Hid (rsetGo L [] ⟨L, []⟩ l = (5, st)) := Lib.hid (by rw [HSTEP.out, hst2]; rfl)
            rw [decide_eq_true htw]
            clear hst2 htw
            go_wp2_with fail
            refine refs3_ret rfl rfl rfl rfl rfl ((heap_setCell_row HRD.out _).trans rfl) ?_
            exact HERR.out 5 st _ (by decide) HR2.out (HXD.out _ (HSC.out _ _))
          · rw [decide_eq_false htw]
            have HRS2 : Hid (rstep L (l.take k) (xs, xi) = if xi = 0 ∧ getL xs L = 0 then 4 else 0) := Lib.hid (by rw [HRS.out, if_neg (by simp), if_neg h0, if_neg htw])
            clear htw
            by_cases hi0 : xi = 0
            · have hib : ((xi : Int) == 0) = true := by simp; omega
              go_wp2_with fail
              refine (HGT.out wD HKD.out).mono ?_
              rintro e wE ⟨rfl, hkE⟩
              have HKE : Hid (Kept (· = R + 1 + 1) w1 wE) := Lib.hid (HKD.out.trans hkE (fun _ _ f => f.elim))
              have HKRE : Hid (Kept (fun _ => False) wr wE) := Lib.hid (HKRD.out.trans hkE (fun _ _ f => f))
              have e0 : wE.cell? ⟨wr.heap.size, 0, none⟩ = some (.string xs) := hkE.cell e0 (fun f => f)
              have e1 : wE.cell? ⟨wr.heap.size, 1, none⟩ = some (.int .u64 xi) := hkE.cell e1 (fun f => f)
              have f0 : wE.cell? ⟨R, 0, none⟩ = some (.slice a n c) := hkE.cell f0 (fun f => f)
              have hRE := (hkE.block _ (Array.getElem?_eq_some_iff.1 HRD.out).1 (fun f => f)).trans HRD.out
              have r0 : wE.cell? ⟨R + 1, 0, none⟩ = some (.slice none 0 0) := by simp [World.cell?, hRE]
              have r1 : wE.frozen? ⟨R + 1, 0, none⟩ = false := by simp [World.frozen?, hRE]
              have HRE := Lib.hid hRE
              have HXE : Hid (∀ W, Kept (fun i => i = R + 1) wE W → Kept (fun i => i = R + 1 ∨ i = R + 1 + 1) w1 W) := Lib.hid (fun W hW => (HKE.out.mono (fun _ _ h => .inr h)).trans hW (fun _ _ h => .inl h))
              clear hkE hRE HXD
              by_cases hgz : getL xs L = 0
              · have hst2 : rstep L (l.take k) (xs, xi) = 4 := by rw [HRS2.out, if_pos ⟨hi0, hgz⟩]
                have HR2 : Hid (rsetGo L [] ⟨L, []⟩ l = (4, st)) := Lib.hid (by rw [HSTEP.out, hst2]; rfl)
                have hgb : ((getL xs L : Int) == 0) = true := by simp; omega
                clear hst2
                go_wp2_with fail
                refine refs3_ret rfl rfl rfl rfl rfl ((heap_setCell_row HRE.out _).trans rfl) ?_
                exact HERR.out 4 st _ (by decide) HR2.out (HXE.out _ (HSC.out _ _))
              · have hst2 : rstep L (l.take k) (xs, xi) = 0 := by rw [HRS2.out, if_neg (fun h => hgz h.2)]
                have HGO : Hid (rsetGo L [] ⟨L, []⟩ l = rsetGo L (l.take (k + 1)) (rnext L (xs, xi) st) (l.drop (k + 1))) := Lib.hid (by rw [HSTEP.out, hst2]; rfl)
                have hgb : ((getL xs L : Int) == 0) = false := by simp; omega
                clear hst2
                go_wp2_with fail
                have HI0 := Lib.hid hi0
                clear hi0 hib hgb
                have q0 := ((Kept.refl (fun _ => False) wE).drew).cell f0 (fun f => f)
                have q1 := ((Kept.refl (fun _ => False) wE).drew).cell e0 (fun f => f)
                have q2 := ((Kept.refl (fun _ => False) wE).drew).cell e1 (fun f => f)
                have HS0 := And.intro q0 (And.intro q1 q2)
                have HKV2 := Lib.hid (HKE.out.trans ((Kept.refl (fun _ => False) wE).drew) (fun _ _ f => f.elim))
                have HKRV2 := Lib.hid (HKRE.out.trans ((Kept.refl (fun _ => False) wE).drew) (fun _ _ f => f))
                clear q0 q1 q2
                refine wp_region_phase (fun W => W.cell? ⟨R, 0, none⟩ = some (.slice a n c) ∧ W.cell? ⟨wr.heap.size, 0, none⟩ = some (.string xs) ∧ W.cell? ⟨wr.heap.size, 1, none⟩ = some (.int .u64 xi)) (fun _ => false) (by kernel_rfl) HS0 (fun _ => ?_)
                refine wpAnyG_take (i := 0) (v := ?_) rfl (by kernel_rfl) (by kernel_rfl) (by kernel_rfl) (by kernel_rfl) (fun _ _ _ h => h) (Or.inl ⟨by rfl, ?_⟩) HS0 ?_
                rotate_left
                (intro w' hSw'; have ⟨q0, q1, q2⟩ := hSw'; go_simp; try with_reducible rfl)
                try simp only [Act.put, List.setIfInBounds_toArray, List.set_cons_zero, List.set_cons_succ, List.getElem_toArray, List.getElem_cons_zero, List.getElem_cons_succ]
                refine wpAnyG_take (i := 1) (v := ?_) rfl (by kernel_rfl) (by kernel_rfl) (by kernel_rfl) (by kernel_rfl) (fun _ _ _ h => h) (Or.inl ⟨by rfl, ?_⟩) HS0 ?_
                rotate_left
                (intro w' hSw'; have ⟨q0, q1, q2⟩ := hSw'; go_simp; try with_reducible rfl)
                try simp only [Act.put, List.setIfInBounds_toArray, List.set_cons_zero, List.set_cons_succ, List.getElem_toArray, List.getElem_cons_zero, List.getElem_cons_succ]
                refine wpAnyG_take (i := 2) (v := ?_) rfl (by kernel_rfl) (by kernel_rfl) (by kernel_rfl) (by kernel_rfl) (fun _ _ _ h => h) (Or.inl ⟨by rfl, ?_⟩) HS0 ?_
                rotate_left
                (intro w' hSw'; have ⟨q0, q1, q2⟩ := hSw'; go_simp; try with_reducible rfl)
                try simp only [Act.put, List.setIfInBounds_toArray, List.set_cons_zero, List.set_cons_succ, List.getElem_toArray, List.getElem_cons_zero, List.getElem_cons_succ]
                refine wpAnyG_take (i := 4) (v := ?_) rfl (by kernel_rfl) (by kernel_rfl) (by kernel_rfl) (by kernel_rfl) (fun _ _ _ h => h) (Or.inl ⟨by rfl, ?_⟩) HS0 ?_
                rotate_left
                (intro w' hSw'; have ⟨q0, q1, q2⟩ := hSw'; go_simp; try with_reducible rfl)
                try simp only [Act.put, List.setIfInBounds_toArray, List.set_cons_zero, List.set_cons_succ, List.getElem_toArray, List.getElem_cons_zero, List.getElem_cons_succ]
                refine wpAnyG_take (i := 5) (v := ?_) rfl (by kernel_rfl) (by kernel_rfl) (by kernel_rfl) (by kernel_rfl) (fun _ _ _ h => h) (Or.inl ⟨by rfl, ?_⟩) HS0 ?_
                rotate_left
                (intro w' hSw'; have ⟨q0, q1, q2⟩ := hSw'; go_simp; try with_reducible rfl)
                try simp only [Act.put, List.setIfInBounds_toArray, List.set_cons_zero, List.set_cons_succ, List.getElem_toArray, List.getElem_cons_zero, List.getElem_cons_succ]
                refine wpAnyG_ready (rs := [3]) (by kernel_rfl) (by simp) ?_
                refine AllG.cons rfl (ph' := false) (by kernel_rfl) (fun K hK => ?_) AllG.nil
                go_simp
                go_at_call 31
                refine (HGT.out _ HKV2.out).mono ?_
                rintro e wF ⟨rfl, hkF⟩
                have HS1 := And.intro (hkF.cell HS0.1 (fun f => f)) (And.intro (hkF.cell HS0.2.1 (fun f => f)) (hkF.cell HS0.2.2 (fun f => f)))
                have HKF : Hid (Kept (· = R + 1 + 1) w1 wF) := Lib.hid (HKV2.out.trans hkF (fun _ _ f => f.elim))
                have HKRF : Hid (Kept (fun _ => False) wr wF) := Lib.hid (HKRV2.out.trans hkF (fun _ _ f => f))
                refine hK.out _ _ (fun _ => HS1) ?_
                clear hK K hkF
                try simp only [Act.put, List.setIfInBounds_toArray, List.set_cons_zero, List.set_cons_succ, List.getElem_toArray, List.getElem_cons_zero, List.getElem_cons_succ]
                refine wpAnyG_takeU (i := 6) (v := ?_) rfl (by kernel_rfl) (by kernel_rfl) (by kernel_rfl) (by kernel_rfl) (fun _ _ _ h => h) (Or.inl ⟨by rfl, ?_⟩) (fun _ => HS1) ?_
                rotate_left
                (intro w' hSw'; go_simp; try with_reducible rfl)
                try simp only [Act.put, List.setIfInBounds_toArray, List.set_cons_zero, List.set_cons_succ, List.getElem_toArray, List.getElem_cons_zero, List.getElem_cons_succ]
                refine wpAnyG_done (by kernel_rfl) ?_ _
                obtain ⟨q0, q1, q2⟩ := HS1
                have hgx : ¬ getL xs L = xi := fun e => hgz (e.trans HI0.out)
                have hgb : ((getL xs L : Int) != (xi : Int)) = true := by simp; omega
                have HN2 : Hid (rsetGo L (l.take (k + 1)) ⟨withL st.out (xs, xi), st.wrt ++ [(xs, xi)]⟩ (l.drop (k + 1)) = rsetGo L [] ⟨L, []⟩ l) := Lib.hid (by rw [HGO.out]; unfold rnext; simp [hgx])
                obtain ⟨oa, oc, ho1, ho2, ho3⟩ := HS.out.keptN HKRF.out
                have t0 : wF.cell? ⟨R + 1 + 1, 0, none⟩ = some (.slice oa st.out.length oc) := by simp [World.cell?, ho1]
                have HWI := Lib.hid (rwith_any wF oa oc st.out ho2 (by omega) xs xi)
                have hwl2 := withL_len st.out (xs, xi)
                have HOF : Hid (OwnR bb wF u8 st.wrt) := Lib.hid (HO.out.keptN HKRF.out)
                have HT0 := Lib.hid ho1
                clear ho1 ho2 ho3
                go_wp2_with fail
                clear hgb t0
                refine HWI.out.mono ?_
                rintro e wG ⟨v9, rfl, ho9, hk9⟩
                obtain ⟨a9, c9, rfl, -, -⟩ := ho9.form
                have hT9 := (hk9.block _ (Array.getElem?_eq_some_iff.1 HT0.out).1 (fun f => f)).trans HT0.out
                have t1 : wG.frozen? ⟨R + 1 + 1, 0, none⟩ = false := by simp [World.frozen?, hT9]
                have t2 : wG.cell? ⟨R + 1 + 1, 0, none⟩ = some (.slice oa st.out.length oc) := by simp [World.cell?, hT9]
                obtain ⟨wH, hwH⟩ : ∃ W, wG.setCell ⟨R + 1 + 1, 0, none⟩ (.slice a9 (withL st.out (xs, xi)).length c9) = W := ⟨_, rfl⟩
                have hkH : Kept (· = R + 1 + 1) wG wH := by rw [← hwH]; exact (Kept.refl (· = R + 1 + 1) wG).setCell (p := ⟨R + 1 + 1, 0, none⟩) (fun _ => rfl) _
                have hTH : wH.heap[R + 1 + 1]? = some (.cells #[.slice a9 (withL st.out (xs, xi)).length c9] 32 (0, 0)) := by rw [← hwH]; exact (heap_setCell_row hT9 _).trans rfl
                have g0 : wH.cell? ⟨wr.heap.size, 0, none⟩ = some (.string xs) := hkH.cell (hk9.cell q1 (fun f => f)) (fun e => by have h7 := HLW.out; simp at e; omega)
                have g1 : wH.cell? ⟨wr.heap.size, 1, none⟩ = some (.int .u64 xi) := hkH.cell (hk9.cell q2 (fun f => f)) (fun e => by have h7 := HLW.out; simp at e; omega)
                have hkF0 := HKRF.out.size
                have hk9s := hk9.size
                have hkHs : wH.heap.size = wG.heap.size := by rw [← hwH]; simp
                have HOH : Hid (OwnR bb wH u8 st.wrt) := Lib.hid ((HOF.out.keptN hk9).kept hkH (fun i hi e => by omega))
                have hL9 : OwnR wF.heap.size wH (.slice a9 (withL st.out (xs, xi)).length c9) (withL st.out (xs, xi)) := ho9.kept hkH (fun i hi e => by have := HLW.out; omega)
                obtain ⟨wI, hwI, hkI, hsI, hbI⟩ := ref_new wH xs xi
                have hI0 : wI.cell? ⟨wH.heap.size, 0, none⟩ = some (.string xs) := by simp [World.cell?, hbI]
                have hI1 : wI.cell? ⟨wH.heap.size, 1, none⟩ = some (.int .u64 xi) := by simp [World.cell?, hbI]
                obtain ⟨v2, w2, hrun2, ho2, hg2, hbk2⟩ := (HOH.out.keptN hkI).push (by have := HLW.out; omega) ⟨wH.heap.size, 0, none⟩ (xs, xi) hI0 hI1 (by omega)
                have hkw2 : Kept (fun i => u8.ownBlock = some i) wI w2 := Kept.grown (F := fun i => u8.ownBlock = some i) (Kept.refl _ _) hg2 (fun i hi _ => hi)
                have hu8 : ∀ i, u8.ownBlock = some i → bb ≤ i ∧ i < wr.heap.size := fun i e => World.ownsRow.lt HO.out i e
                have hHI := hkH.trans hkI (fun _ _ f => f.elim)
                have HKN : Hid (Kept (· = R + 1 + 1) w1 w2) := Lib.hid (((HKF.out.trans hk9 (fun _ _ f => f.elim)).trans hHI (fun _ _ e => e)).trans hkw2 (fun i hi e => by have := hu8 i e; have := HB.out; omega))
                have hTN : w2.heap[R + 1 + 1]? = some (.cells #[.slice a9 (withL st.out (xs, xi)).length c9] 32 (0, 0)) := (hkw2.block _ (by have := HLW.out; omega) (fun e => by have := hu8 _ e; omega)).trans ((hkI.block _ (Array.getElem?_eq_some_iff.1 hTH).1 (fun f => f)).trans hTH)
                have HSN : Hid (SetOut R (.slice a n c) v2 w2 (withL st.out (xs, xi))) := Lib.hid (by
                  refine ⟨a9, c9, hTN, ((hL9.keptN hkI).isR).keptS hkw2 (fun _ g e f => ?_), fun _ g e => ⟨?_, fun f => ?_⟩, .inr (fun g e => by have h7 := World.ownsRow.lt hL9 g e; have h8 := HLW.out; omega)⟩
                  · have h7 := World.ownsRow.lt hL9 g e
                    have h8 := hu8 g f
                    omega
                  · have h7 := World.ownsRow.lt hL9 g e
                    have h8 := HLW.out
                    omega
                  · have h7 := World.ownsRow.lt hL9 g e
                    rcases hbk2 with h8 | h8
                    · have h9 := hu8 g (h8 ▸ f)
                      omega
                    · rw [f] at h8
                      injection h8 with h8
                      omega)
                have HON : Hid (OwnR bb w2 v2 (st.wrt ++ [(xs, xi)])) := Lib.hid ho2
                rw [← hwI] at hrun2
                obtain ⟨va, vc, rfl, -, -⟩ := HOH.out.form
                clear hkF0 hk9s hkHs hL9 hwI hkI hsI hbI hI0 hI1 ho2 hg2 hbk2 hkw2 hu8 hHI hTN hTH hkH hk9 hT9 ho9 HS HO
                go_wp2_with (at_builtin; refine wpList_append_run rfl (.tmp 62) (.tmp 64) #[30, 30] rfl _ _ _ _ rfl rfl hrun2 ?_)
                clear hrun2
                go_roundg (gk - 1)
                case measure => omega
                case rel => exact ⟨k + 1, ⟨withL st.out (xs, xi), st.wrt ++ [(xs, xi)]⟩, by omega, by go_num, HN2, by simp only; omega, by simp; omega, HON, HSN, HKN⟩
            · have hib : ((xi : Int) == 0) = false := by simp; omega
              have hst2 : rstep L (l.take k) (xs, xi) = 0 := by rw [HRS2.out, if_neg (fun h => hi0 h.1)]
              have HGO : Hid (rsetGo L [] ⟨L, []⟩ l = rsetGo L (l.take (k + 1)) (rnext L (xs, xi) st) (l.drop (k + 1))) := Lib.hid (by rw [HSTEP.out, hst2]; rfl)
              go_wp2_with fail
              have q0 := ((Kept.refl (fun _ => False) wD).drew).cell f0 (fun f => f)
              have q1 := ((Kept.refl (fun _ => False) wD).drew).cell e0 (fun f => f)
              have q2 := ((Kept.refl (fun _ => False) wD).drew).cell e1 (fun f => f)
              have HS0 := And.intro q0 (And.intro q1 q2)
              have HKV2 := Lib.hid (HKD.out.trans ((Kept.refl (fun _ => False) wD).drew) (fun _ _ f => f.elim))
              have HKRV2 := Lib.hid (HKRD.out.trans ((Kept.refl (fun _ => False) wD).drew) (fun _ _ f => f))
              clear q0 q1 q2
              refine wp_region_phase (fun W => W.cell? ⟨R, 0, none⟩ = some (.slice a n c) ∧ W.cell? ⟨wr.heap.size, 0, none⟩ = some (.string xs) ∧ W.cell? ⟨wr.heap.size, 1, none⟩ = some (.int .u64 xi)) (fun _ => false) (by kernel_rfl) HS0 (fun _ => ?_)
              refine wpAnyG_take (i := 0) (v := ?_) rfl (by kernel_rfl) (by kernel_rfl) (by kernel_rfl) (by kernel_rfl) (fun _ _ _ h => h) (Or.inl ⟨by rfl, ?_⟩) HS0 ?_
              rotate_left
              (intro w' hSw'; have ⟨q0, q1, q2⟩ := hSw'; go_simp; try with_reducible rfl)
              try simp only [Act.put, List.setIfInBounds_toArray, List.set_cons_zero, List.set_cons_succ, List.getElem_toArray, List.getElem_cons_zero, List.getElem_cons_succ]
              refine wpAnyG_take (i := 1) (v := ?_) rfl (by kernel_rfl) (by kernel_rfl) (by kernel_rfl) (by kernel_rfl) (fun _ _ _ h => h) (Or.inl ⟨by rfl, ?_⟩) HS0 ?_
              rotate_left
              (intro w' hSw'; have ⟨q0, q1, q2⟩ := hSw'; go_simp; try with_reducible rfl)
              try simp only [Act.put, List.setIfInBounds_toArray, List.set_cons_zero, List.set_cons_succ, List.getElem_toArray, List.getElem_cons_zero, List.getElem_cons_succ]
              refine wpAnyG_take (i := 2) (v := ?_) rfl (by kernel_rfl) (by kernel_rfl) (by kernel_rfl) (by kernel_rfl) (fun _ _ _ h => h) (Or.inl ⟨by rfl, ?_⟩) HS0 ?_
              rotate_left
              (intro w' hSw'; have ⟨q0, q1, q2⟩ := hSw'; go_simp; try with_reducible rfl)
              try simp only [Act.put, List.setIfInBounds_toArray, List.set_cons_zero, List.set_cons_succ, List.getElem_toArray, List.getElem_cons_zero, List.getElem_cons_succ]
              refine wpAnyG_take (i := 4) (v := ?_) rfl (by kernel_rfl) (by kernel_rfl) (by kernel_rfl) (by kernel_rfl) (fun _ _ _ h => h) (Or.inl ⟨by rfl, ?_⟩) HS0 ?_
              rotate_left
              (intro w' hSw'; have ⟨q0, q1, q2⟩ := hSw'; go_simp; try with_reducible rfl)
              try simp only [Act.put, List.setIfInBounds_toArray, List.set_cons_zero, List.set_cons_succ, List.getElem_toArray, List.getElem_cons_zero, List.getElem_cons_succ]
              refine wpAnyG_take (i := 5) (v := ?_) rfl (by kernel_rfl) (by kernel_rfl) (by kernel_rfl) (by kernel_rfl) (fun _ _ _ h => h) (Or.inl ⟨by rfl, ?_⟩) HS0 ?_
              rotate_left
              (intro w' hSw'; have ⟨q0, q1, q2⟩ := hSw'; go_simp; try with_reducible rfl)
              try simp only [Act.put, List.setIfInBounds_toArray, List.set_cons_zero, List.set_cons_succ, List.getElem_toArray, List.getElem_cons_zero, List.getElem_cons_succ]
              refine wpAnyG_ready (rs := [3]) (by kernel_rfl) (by simp) ?_
              refine AllG.cons rfl (ph' := false) (by kernel_rfl) (fun K hK => ?_) AllG.nil
              go_simp
              go_at_call 31
              refine (HGT.out _ HKV2.out).mono ?_
              rintro e wF ⟨rfl, hkF⟩
              have HS1 := And.intro (hkF.cell HS0.1 (fun f => f)) (And.intro (hkF.cell HS0.2.1 (fun f => f)) (hkF.cell HS0.2.2 (fun f => f)))
              have HKF : Hid (Kept (· = R + 1 + 1) w1 wF) := Lib.hid (HKV2.out.trans hkF (fun _ _ f => f.elim))
              have HKRF : Hid (Kept (fun _ => False) wr wF) := Lib.hid (HKRV2.out.trans hkF (fun _ _ f => f))
              refine hK.out _ _ (fun _ => HS1) ?_
              clear hK K hkF
              try simp only [Act.put, List.setIfInBounds_toArray, List.set_cons_zero, List.set_cons_succ, List.getElem_toArray, List.getElem_cons_zero, List.getElem_cons_succ]
              refine wpAnyG_takeU (i := 6) (v := ?_) rfl (by kernel_rfl) (by kernel_rfl) (by kernel_rfl) (by kernel_rfl) (fun _ _ _ h => h) (Or.inl ⟨by rfl, ?_⟩) (fun _ => HS1) ?_
              rotate_left
              (intro w' hSw'; go_simp; try with_reducible rfl)
              try simp only [Act.put, List.setIfInBounds_toArray, List.set_cons_zero, List.set_cons_succ, List.getElem_toArray, List.getElem_cons_zero, List.getElem_cons_succ]
              refine wpAnyG_done (by kernel_rfl) ?_ _
              obtain ⟨q0, q1, q2⟩ := HS1
              by_cases hgx : getL xs L = xi
              · skip
                have hgb : ((getL xs L : Int) != (xi : Int)) = false := by simp; omega
                have HN2 : Hid (rsetGo L (l.take (k + 1)) st (l.drop (k + 1)) = rsetGo L [] ⟨L, []⟩ l) := Lib.hid (by rw [HGO.out]; unfold rnext; simp [hgx])
                go_wp2_with fail
                go_roundg (gk - 1)
                case measure => omega
                case rel => exact ⟨k + 1, st, by omega, by go_num, HN2, by omega, by omega, Lib.hid (HO.out.keptN HKRF.out), Lib.hid (HS.out.keptN HKRF.out), Lib.hid (HK.out.trans HKRF.out (fun _ _ f => f.elim))⟩
              · skip
                have hgb : ((getL xs L : Int) != (xi : Int)) = true := by simp; omega
                have HN2 : Hid (rsetGo L (l.take (k + 1)) ⟨withL st.out (xs, xi), st.wrt ++ [(xs, xi)]⟩ (l.drop (k + 1)) = rsetGo L [] ⟨L, []⟩ l) := Lib.hid (by rw [HGO.out]; unfold rnext; simp [hgx])
                obtain ⟨oa, oc, ho1, ho2, ho3⟩ := HS.out.keptN HKRF.out
                have t0 : wF.cell? ⟨R + 1 + 1, 0, none⟩ = some (.slice oa st.out.length oc) := by simp [World.cell?, ho1]
                have HWI := Lib.hid (rwith_any wF oa oc st.out ho2 (by omega) xs xi)
                have hwl2 := withL_len st.out (xs, xi)
                have HOF : Hid (OwnR bb wF u8 st.wrt) := Lib.hid (HO.out.keptN HKRF.out)
                have HT0 := Lib.hid ho1
                clear ho1 ho2 ho3
                go_wp2_with fail
                clear hgb t0
                refine HWI.out.mono ?_
                rintro e wG ⟨v9, rfl, ho9, hk9⟩
                obtain ⟨a9, c9, rfl, -, -⟩ := ho9.form
                have hT9 := (hk9.block _ (Array.getElem?_eq_some_iff.1 HT0.out).1 (fun f => f)).trans HT0.out
                have t1 : wG.frozen? ⟨R + 1 + 1, 0, none⟩ = false := by simp [World.frozen?, hT9]
                have t2 : wG.cell? ⟨R + 1 + 1, 0, none⟩ = some (.slice oa st.out.length oc) := by simp [World.cell?, hT9]
                obtain ⟨wH, hwH⟩ : ∃ W, wG.setCell ⟨R + 1 + 1, 0, none⟩ (.slice a9 (withL st.out (xs, xi)).length c9) = W := ⟨_, rfl⟩
                have hkH : Kept (· = R + 1 + 1) wG wH := by rw [← hwH]; exact (Kept.refl (· = R + 1 + 1) wG).setCell (p := ⟨R + 1 + 1, 0, none⟩) (fun _ => rfl) _
                have hTH : wH.heap[R + 1 + 1]? = some (.cells #[.slice a9 (withL st.out (xs, xi)).length c9] 32 (0, 0)) := by rw [← hwH]; exact (heap_setCell_row hT9 _).trans rfl
                have g0 : wH.cell? ⟨wr.heap.size, 0, none⟩ = some (.string xs) := hkH.cell (hk9.cell q1 (fun f => f)) (fun e => by have h7 := HLW.out; simp at e; omega)
                have g1 : wH.cell? ⟨wr.heap.size, 1, none⟩ = some (.int .u64 xi) := hkH.cell (hk9.cell q2 (fun f => f)) (fun e => by have h7 := HLW.out; simp at e; omega)
                have hkF0 := HKRF.out.size
                have hk9s := hk9.size
                have hkHs : wH.heap.size = wG.heap.size := by rw [← hwH]; simp
                have HOH : Hid (OwnR bb wH u8 st.wrt) := Lib.hid ((HOF.out.keptN hk9).kept hkH (fun i hi e => by omega))
                have hL9 : OwnR wF.heap.size wH (.slice a9 (withL st.out (xs, xi)).length c9) (withL st.out (xs, xi)) := ho9.kept hkH (fun i hi e => by have := HLW.out; omega)
                obtain ⟨wI, hwI, hkI, hsI, hbI⟩ := ref_new wH xs xi
                have hI0 : wI.cell? ⟨wH.heap.size, 0, none⟩ = some (.string xs) := by simp [World.cell?, hbI]
                have hI1 : wI.cell? ⟨wH.heap.size, 1, none⟩ = some (.int .u64 xi) := by simp [World.cell?, hbI]
                obtain ⟨v2, w2, hrun2, ho2, hg2, hbk2⟩ := (HOH.out.keptN hkI).push (by have := HLW.out; omega) ⟨wH.heap.size, 0, none⟩ (xs, xi) hI0 hI1 (by omega)
                have hkw2 : Kept (fun i => u8.ownBlock = some i) wI w2 := Kept.grown (F := fun i => u8.ownBlock = some i) (Kept.refl _ _) hg2 (fun i hi _ => hi)
                have hu8 : ∀ i, u8.ownBlock = some i → bb ≤ i ∧ i < wr.heap.size := fun i e => World.ownsRow.lt HO.out i e
                have hHI := hkH.trans hkI (fun _ _ f => f.elim)
                have HKN : Hid (Kept (· = R + 1 + 1) w1 w2) := Lib.hid (((HKF.out.trans hk9 (fun _ _ f => f.elim)).trans hHI (fun _ _ e => e)).trans hkw2 (fun i hi e => by have := hu8 i e; have := HB.out; omega))
                have hTN : w2.heap[R + 1 + 1]? = some (.cells #[.slice a9 (withL st.out (xs, xi)).length c9] 32 (0, 0)) := (hkw2.block _ (by have := HLW.out; omega) (fun e => by have := hu8 _ e; omega)).trans ((hkI.block _ (Array.getElem?_eq_some_iff.1 hTH).1 (fun f => f)).trans hTH)
                have HSN : Hid (SetOut R (.slice a n c) v2 w2 (withL st.out (xs, xi))) := Lib.hid (by
                  refine ⟨a9, c9, hTN, ((hL9.keptN hkI).isR).keptS hkw2 (fun _ g e f => ?_), fun _ g e => ⟨?_, fun f => ?_⟩, .inr (fun g e => by have h7 := World.ownsRow.lt hL9 g e; have h8 := HLW.out; omega)⟩
                  · have h7 := World.ownsRow.lt hL9 g e
                    have h8 := hu8 g f
                    omega
                  · have h7 := World.ownsRow.lt hL9 g e
                    have h8 := HLW.out
                    omega
                  · have h7 := World.ownsRow.lt hL9 g e
                    rcases hbk2 with h8 | h8
                    · have h9 := hu8 g (h8 ▸ f)
                      omega
                    · rw [f] at h8
                      injection h8 with h8
                      omega)
                have HON : Hid (OwnR bb w2 v2 (st.wrt ++ [(xs, xi)])) := Lib.hid ho2
                rw [← hwI] at hrun2
                obtain ⟨va, vc, rfl, -, -⟩ := HOH.out.form
                clear hkF0 hk9s hkHs hL9 hwI hkI hsI hbI hI0 hI1 ho2 hg2 hbk2 hkw2 hu8 hHI hTN hTH hkH hk9 hT9 ho9 HS HO
                go_wp2_with (at_builtin; refine wpList_append_run rfl (.tmp 62) (.tmp 64) #[30, 30] rfl _ _ _ _ rfl rfl hrun2 ?_)
                clear hrun2
                go_roundg (gk - 1)
                case measure => omega
                case rel => exact ⟨k + 1, ⟨withL st.out (xs, xi), st.wrt ++ [(xs, xi)]⟩, by omega, by go_num, HN2, by simp only; omega, by simp; omega, HON, HSN, HKN⟩
      · have hzb : (C1 == 0) = false := by simp [hz]
        have hst2 : rstep L (l.take k) (xs, xi) = C1 := by rw [HRS.out, if_pos hz]
        have HR2 : Hid (rsetGo L [] ⟨L, []⟩ l = (C1, st)) := Lib.hid (by rw [HSTEP.out, hst2, if_pos hz])
        have hsz : ¬ wB.heap.size = R + 1 := by have h7 := HLW.out; have h8 := HSZ.out; omega
        have s9 : (wC.setCell ⟨R + 1, 0, none⟩ (.slice a n c)).cell? ⟨wB.heap.size, 0, none⟩ = some (.int .i64 C1) := (HSC.out wC _).cell s0 hsz
        go_wp2_with fail
        go_region
        go_wp2_with fail
        refine refs3_ret rfl rfl rfl rfl rfl (((heap_setCell_row HRC.out _).trans rfl : (wC.setCell ⟨R + 1, 0, none⟩ (.slice a n c)).heap[R + 1]? = _)) ?_
        exact HERR.out C1 st _ hz HR2.out (HX.out _ ((HSC.out wC _).trans ((Kept.refl (fun _ => False) _).drew) (fun _ _ f => f.elim)))
end Go.Proofs.YtjnhkepgoghogaaGreatDoor
