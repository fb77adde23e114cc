/- espalierlaw18.MemoNone: no disk, no memo, the key 0. -/
import Derived.Test.YtemilbemdlpkaaaGreatDoorPbs
import Derived.Test.YtemilbemdlpkaaaGreatDoorPbl
import Derived.Test.YtemilbemdlpkaaaGreatDoorPaa
import Derived.OwnWalkIn
import Derived.Sort.QuietTacIn
import Derived.Test.YtemilbemdlpkaaaGreatDoorPbf
namespace Go.Proofs.YtemilbemdlpkaaaGreatDoor
open Go.RowKit Go.Shelf
set_option linter.unusedSimpArgs false
attribute [local go_sem] Oper.semAt_some

theorem tabB_of {w W : World} (hT : ∀ W, Kept (fun _ => False) w W → Tab10 W) (hk : Kept (fun _ => False) w W) : TabB W.heap.size W := fun W' hW => hT W' (hk.more hW (fun _ e => Nat.le_trans hk.size e))

set_option maxRecDepth 100000 in
set_option maxHeartbeats 1000000 in
theorem none18_any (w : World) (key pf pt : Nat) (hT : ∀ W, Kept (fun _ => False) w W → Tab10 W) :
    Calls Tryz.prog 6 #[.int .u64 key, .agg #[.int .u64 pf, .int .u64 pt]] w fun e w' => e = .returned (.bool true) ∧ Kept (fun _ => False) w w' := by
  obtain ⟨W1, hW1⟩ : ∃ W, (w.alloc (.cells #[.int .u64 pf, .int .u64 pt] 68)).alloc (.cells #[.bool false] 4) = W := ⟨_, rfl⟩
  have hk1 : Kept (fun _ => False) w W1 := by rw [← hW1]; exact ((Kept.refl _ _).alloc _).alloc _
  have hs1 : W1.heap.size = w.heap.size + 2 := by rw [← hW1]; simp
  have hbp : W1.heap[w.heap.size]? = some (.cells #[.int .u64 pf, .int .u64 pt] 68 (0, 0)) := by rw [← hW1]; exact alloc_old18 (heap_alloc_new _ _)
  have hbr : W1.heap[w.heap.size + 1]? = some (.cells #[.bool false] 4 (0, 0)) := by
    rw [← hW1]
    have h := heap_alloc_new (w.alloc (.cells #[.int .u64 pf, .int .u64 pt] 68)) (.cells #[.bool false] 4)
    rwa [World.size_alloc] at h
  have HW1 := Lib.hid hW1
  have HT := Lib.hid hT
  have HB := Lib.hid (And.intro hk1 (And.intro hs1 (And.intro hbp hbr)))
  clear hW1 hT hk1 hs1 hbp hbr
  refine (callsIn_wide (n := 5)).1 ?_
  refine callsIn_of_wp_marks Tryz.func6 rfl trivial ?_ rfl
  refine (wpIn_wide (n := 5)).2 ?_
  simp only [Tryz.ntmps6, List.size_toArray, List.length_cons, List.length_nil, Nat.reduceAdd, Nat.reduceSub, Array.replicate_succ, Array.replicate_zero, List.push_toArray, List.append_toArray, List.nil_append, List.cons_append]
  go_wp2_with fail
  rw [HW1.out]
  obtain ⟨hk1, hs1, hbp, hbr⟩ := HB.out
  refine (wakes18_any W1 (tabB_of HT.out hk1)).mono ?_
  rintro e W2 ⟨rfl, hk2⟩
  have hk02 := hk1.trans hk2 (fun _ _ f => f)
  have HK02 := Lib.hid hk02
  have HB2 := Lib.hid (And.intro ((hk2.block _ (by omega) (fun f => f)).trans hbp) ((hk2.block _ (by omega) (fun f => f)).trans hbr))
  have HS2 : Hid (w.heap.size + 2 ≤ W2.heap.size) := Lib.hid (by have := hk2.size; omega)
  clear hk1 hs1 hbp hbr hk2 hk02 HB HW1
  go_wp2_with fail
  refine (openNil_any W2 key).mono ?_
  rintro e W3 ⟨rfl, rfl⟩
  go_wp2_with fail
  refine (new_any _).mono ?_
  rintro e W4 ⟨b, m, rfl, -, -, -, hk4⟩
  have HK04 := Lib.hid (HK02.out.trans hk4 (fun _ _ f => f))
  have HS4 := Lib.hid (Nat.le_trans HS2.out hk4.size)
  have hb4 := (hk4.block _ (by have := HS2.out; omega) (fun f => f)).trans HB2.out.1
  have hr4 := (hk4.block _ (by have := HS2.out; omega) (fun f => f)).trans HB2.out.2
  have HB4 := Lib.hid (And.intro hb4 hr4)
  clear hk4 hb4 hr4
  go_wp2_with fail
  refine (openZero_any W4 b).mono ?_
  rintro e W5 ⟨rfl, rfl⟩
  have c0 : W5.cell? ⟨w.heap.size, 0, none⟩ = some (.int .u64 pf) := by have := HB4.out.1; simp [World.cell?, this]
  go_wp2_with fail
  refine (standinNil_any W5 pf).mono ?_
  rintro e W6 ⟨rfl, rfl⟩
  go_wp2_with fail
  refine (each_any18 W6 none).mono ?_
  rintro e W7 ⟨rfl, hW7⟩
  have hk7 : Kept (fun _ => False) W6 W7 := by rw [hW7]; exact (Kept.refl _ _).alloc _
  have hbs : W7.heap[W6.heap.size]? = some (.cells #[.pointer none] 29 (0, 0)) := by rw [hW7]; exact World.alloc_heap_new _ _
  have hs7 : W7.heap.size = W6.heap.size + 1 := by rw [hW7]; simp
  have HSEQ := Lib.hid (nilSeq18 4 W6.heap.size hbs (fun _ _ => True))
  have HB7 := Lib.hid (And.intro ((hk7.block _ (by have := HS4.out; omega) (fun f => f)).trans HB4.out.1) ((hk7.block _ (by have := HS4.out; omega) (fun f => f)).trans HB4.out.2))
  have HK07 := Lib.hid (HK04.out.trans hk7 (fun _ _ f => f))
  have HS7 : Hid (w.heap.size + 2 ≤ W7.heap.size) := Lib.hid (by have := HS4.out; omega)
  clear hW7 hk7 hbs hs7 c0
  go_wp2_with fail
  refine nameAct18 ?_
  intro A0 hA0
  refine (wpIn_wide (n := 5)).1 ?_
  refine wpIn_rangeV (by omega) (gf := 67) (lb := #[.pointer (some ⟨W6.heap.size, 0, none⟩)]) (by rw [hA0]; simp [Act.eval]) (enters_of Tryz.func67 (by kernel_rfl) rfl) HSEQ.out (fun _ _ => trivial) (fun _ _ _ _ _ _ _ _ => trivial) (fun _ => rfl)
    (fun _ W => Kept (fun _ => False) W7 W)
    (fun _ _ _ => False) ?hI (fun _ _ _ _ _ hs _ _ => hs) (Kept.refl _ _) (fun _ _ _ _ _ _ _ => trivial) (fun x a' _ => True) (fun _ _ _ _ _ _ h _ _ => h) ?assign ?body ?done ?stop
  case hI =>
    rintro pre A B row hk hg hr
    exact hk.grown hg (fun k e hk => absurd (hr k e).1 (by omega))
  case assign =>
    rintro l' pre x W K hi hv hK
    have HK := Lib.hid hK
    have HI := Lib.hid hi
    clear hK hi hv
    subst hA0
    unfold pairArgs18 valP
    gi_wp2
    exact HK.out _ W (KeepsFrom.refl _ _) trivial HI.out trivial trivial
  case body =>
    intro l' pre x a' W hl' hi hv ha hpre
    exact hpre.elim
  case stop =>
    rintro D cc pre W hD hS hf
    exact hf.elim
  case done =>
    rintro D xs W hD rfl hk hK
    have hb := (hk.block _ (by have := HS7.out; omega) (fun f => f)).trans HB7.out.1
    have hr := (hk.block _ (by have := HS7.out; omega) (fun f => f)).trans HB7.out.2
    have c0 : W.cell? ⟨w.heap.size, 0, none⟩ = some (.int .u64 pf) := by simp [World.cell?, hb]
    have c1 : W.cell? ⟨w.heap.size, 1, none⟩ = some (.int .u64 pt) := by simp [World.cell?, hb]
    have HK0 := Lib.hid (HK07.out.trans hk (fun _ _ f => f))
    have HF := Lib.hid (And.intro hr (And.intro hK hD))
    obtain ⟨WA, hWA⟩ : ∃ X, W.alloc (.cells #[.int .u64 pf, .int .u64 pt] 68) = X := ⟨_, rfl⟩
    have hkA : Kept (fun _ => False) W WA := by rw [← hWA]; exact (Kept.refl _ _).alloc _
    have c2 := hkA.cell c1 (fun f => f)
    have HKA := Lib.hid hkA
    have HAD := Lib.hid (addNil_any WA)
    have HSR := Lib.hid (sourcesNil_any WA pt)
    clear hk hK hb hr hkA
    subst hA0
    go_wp2_with (first
      | (go_at_call 12; refine (HAD.out _).mono ?_; rintro e w2 ⟨rfl, rfl⟩)
      | (go_at_call 31; refine HSR.out.mono ?_; rintro e w3 ⟨rfl, hk3⟩)
      | (go_at_call 32; refine (lenNil_any _).mono ?_; rintro e w4 ⟨rfl, rfl⟩)
      | (go_at_call 15; refine (runsNil_any _).mono ?_; rintro e w5 ⟨rfl, rfl⟩)
      | (go_at_call 33; refine (keysNil_any _).mono ?_; rintro e w6 ⟨rfl, hk6⟩))
    refine (wakes18_any _ (tabB_of HT.out (((HK0.out.trans HKA.out (fun _ _ f => f)).trans hk3 (fun _ _ f => f)).trans hk6 (fun _ _ f => f)))).mono ?_
    rintro e w7 ⟨rfl, hk7⟩
    have hkA7 := Lib.hid (((HKA.out.trans hk3 (fun _ _ f => f)).trans hk6 (fun _ _ f => f)).trans hk7 (fun _ _ f => f))
    have hr7 := Lib.hid ((hkA7.out.block _ (Array.getElem?_eq_some_iff.1 HF.out.1).1 (fun f => f)).trans HF.out.1)
    have cr : w7.cell? ⟨w.heap.size + 1, 0, none⟩ = some (.bool false) := by have := hr7.out; simp [World.cell?, this]
    have fr : w7.frozen? ⟨w.heap.size + 1, 0, none⟩ = false := by have := hr7.out; simp [World.frozen?, this]
    go_wp2_with fail
    obtain ⟨hr, hK, hD⟩ := HF.out
    have hkS := (Kept.refl (· = w.heap.size + 1) w7).setCell (p := ⟨w.heap.size + 1, 0, none⟩) (fun _ => rfl) (.bool true)
    have hb9 : (w7.setCell ⟨w.heap.size + 1, 0, none⟩ (.bool true)).heap[w.heap.size + 1]? = some (.cells #[.bool true] 4 (0, 0)) := (heap_setCell_row hr7.out _).trans rfl
    have hK7 := (hkS.block D (Nat.lt_of_lt_of_le (Array.getElem?_eq_some_iff.1 hK).1 hkA7.out.size) (by show ¬ D = w.heap.size + 1; have := HS7.out; omega)).trans ((hkA7.out.block D (Array.getElem?_eq_some_iff.1 hK).1 (fun f => f)).trans hK)
    refine leaves_taken18 [D] _ (by simp) (fun E hE => by rw [List.mem_singleton.1 hE]; exact hK7) (fun W' hk => ?_)
    have hbW := (hk.block _ (Array.getElem?_eq_some_iff.1 hb9).1 (by simp; have := HS7.out; omega)).trans hb9
    have hcW : W'.cell? ⟨w.heap.size + 1, 0, none⟩ = some (.bool true) := by simp [World.cell?, hbW]
    refine ⟨.bool true, by simp [results, Tryz.f6, go_sem, hcW], rfl, ?_⟩
    refine (((HK0.out.trans hkA7.out (fun _ _ f => f)).more hkS (fun i (e : i = _) => by omega)).more hk (fun i hi => ?_))
    have h8 := List.mem_singleton.1 hi
    have := HS7.out
    omega
end Go.Proofs.YtemilbemdlpkaaaGreatDoor

/- memo: Runs. -/
namespace Go.Proofs.YtemilbemdlpkaaaGreatDoor
open Go.RowKit Go.ChangeMaps Go.MapKept
set_option linter.unusedSimpArgs false

set_option maxRecDepth 100000 in
theorem mruns_any {w : World} {p : Nat} {jp dp : Value} {km : Nat} {kes : Array MapEntry} {kclk : Nat} {tv : Value} {ps : List PtM} {M : MP} (h : MemI w p jp dp km kes kclk tv ps M) :
    Calls Tryz.prog 15 #[.pointer (some ⟨p, 0, none⟩)] w fun e w' => ∃ v, e = .returned v ∧ OwnZ w.heap.size w' v (M.parts.map (·.n)) ∧ Kept (fun _ => False) w w' := by
  obtain ⟨-, -, -, -, c4, -⟩ := h.fields
  obtain ⟨ta, tc, rfl, -, -⟩ := h.tvForm
  have HN : Hid (M.parts.map (·.n) = ps.map (·.n)) := Lib.hid (by rw [h.runs, List.map_map]; rfl)
  have hp4 := h.small.1
  have HR := Lib.hid h.row
  have HB : Hid (∀ x ∈ ps, ∃ a n c, x.v = .slice a n c) := Lib.hid (fun x hx => by obtain ⟨a, c, e, -⟩ := (h.bytes x hx).form; exact ⟨a, _, c, e⟩)
  obtain ⟨n, hn⟩ : ∃ n, ps.length = n := ⟨_, rfl⟩
  have HL := Lib.hid hn
  rw [hn] at c4 hp4 HR
  clear h hn
  go_enter Tryz.func15, Tryz.ntmps15
  go_wp2_with fail
  go_loopg [3, 13] n (fun g rv iv wr => ∃ (k rl : Nat) (ra : Option Addr) (rc : Nat), k + g = n ∧ iv = .int .i64 k ∧ rv = .slice ra rl rc ∧ rl = k ∧ Hid (OwnZ w.heap.size wr (.slice ra rl rc) ((ps.map (·.n)).take k)) ∧ Hid (Kept (fun _ => False) w wr))
  case atStart => exact ⟨0, 0, none, 0, by omega, rfl, rfl, rfl, Lib.hid (by simpa using OwnZ.nil _ _), Lib.hid (Kept.refl _ _)⟩
  case round =>
    obtain ⟨k, rl, ra, rc, hkg, rfl, rfl, rfl, HO, HK⟩ := hrel
    rcases Nat.eq_zero_or_pos gk with rfl | hpos
    · obtain rfl : rl = n := by omega
      go_wp2
      go_ret
      refine ⟨_, rfl, ?_, HK.out⟩
      rw [HN.out]
      have := HO.out
      rwa [List.take_of_length_le (by rw [List.length_map, HL.out]; exact Nat.le_refl _)] at this
    · have hlt : rl < n := by omega
      have hkl : rl < ps.length := by rw [HL.out]; exact hlt
      have hrow := rowKept18 HR.out HK.out (fun _ _ f => f)
      rw [← HL.out] at hrow
      obtain ⟨g, rfl, hg, -, e0, e1⟩ := parts_at hrow hkl
      obtain ⟨xn, hxn⟩ : ∃ x, ps[rl].n = x := ⟨_, rfl⟩
      obtain ⟨xa, xl, xc, hxv⟩ := HB.out ps[rl] (List.getElem_mem hkl)
      have HT : Hid ((ps.map (·.n)).take (rl + 1) = (ps.map (·.n)).take rl ++ [xn]) := Lib.hid (by
        rw [List.take_succ_eq_append_getElem (by rw [List.length_map]; exact hkl), List.getElem_map, hxn])
      have HTL : Hid (((ps.map (·.n)).take rl).length = rl) := Lib.hid (by rw [List.length_take, List.length_map]; omega)
      rw [hxn] at e0
      rw [hxv] at e1
      obtain ⟨W1, hW1⟩ : ∃ X, wr.alloc (.cells #[.int .i64 (xn : Int), .slice xa xl xc] 109) = X := ⟨_, rfl⟩
      have hk1 : Kept (fun _ => False) wr W1 := by rw [← hW1]; exact (Kept.refl _ _).alloc _
      have hs1 : W1.heap.size = wr.heap.size + 1 := by rw [← hW1]; simp
      have d0 : W1.cell? ⟨wr.heap.size, 0, none⟩ = some (.int .i64 (xn : Int)) := by rw [← hW1, World.cell?_alloc_new]; rfl
      obtain ⟨W2, hW2⟩ : ∃ X, W1.alloc (.cells #[.int .i64 (xn : Int)] 3) = X := ⟨_, rfl⟩
      have hk2 : Kept (fun _ => False) W1 W2 := by rw [← hW2]; exact (Kept.refl _ _).alloc _
      have d1 : W2.cell? ⟨W1.heap.size, 0, none⟩ = some (.int .i64 (xn : Int)) := by rw [← hW2, World.cell?_alloc_new]; rfl
      have hk12 := hk1.trans hk2 (fun _ _ f => f)
      have hsz := HK.out.size
      have hO := HO.out.kept hk12 (fun _ _ _ f => f)
      have hb := fun g e => (OwnZ.base HO.out (g := g) e).1
      obtain ⟨v', w', hrun, ho', hg', -⟩ := hO.push (by have := hk12.size; omega) ⟨W1.heap.size, 0, none⟩ xn d1 (by rw [HTL.out]; omega)
      rw [← HT.out] at ho'
      rw [hs1] at hrun
      obtain ⟨oa, oc, hov, -, -⟩ := ho'.form
      have hl1 : ((ps.map (·.n)).take (rl + 1)).length = rl + 1 := by rw [List.length_take, List.length_map]; omega
      rw [hl1] at hov
      subst hov
      have HF := Lib.hid (And.intro ho' ((HK.out.trans hk12 (fun _ _ f => f)).more (Kept.grown (F := fun i => (Value.slice ra rl rc).ownBlock = some i) (Kept.refl _ _) hg' (fun i hi _ => hi)) (fun i e => hb i e)))
      clear hrow hk1 hk2 hk12 hO hg' ho' hb hl1 hsz hxn hxv hkl
      go_wp2_with (at_builtin; refine wpList_append_run rfl (.tmp 17) (.tmp 20) #[23, 23] rfl _ _ _ _ rfl rfl hrun ?_)
      go_roundg (gk - 1)
      case measure => omega
      case rel => exact ⟨rl + 1, rl + 1, oa, oc, by omega, by go_num, rfl, rfl, Lib.hid HF.out.1, Lib.hid HF.out.2⟩
end Go.Proofs.YtemilbemdlpkaaaGreatDoor

/- rows of ids. -/
namespace Go.Proofs.YtemilbemdlpkaaaGreatDoor
open Go.RowKit
theorem ownsRow_keptI {b : Nat} {w w' : World} {t k : Nat} {v : Value} {n : Nat} {l : List Value} {F : Nat → Prop} (h : w.ownsRow b t k v n l) (hk : Kept F w w') (hF : ∀ g, b ≤ g → v.ownBlock = some g → ¬ F g) : w'.ownsRow b t k v n l := by
  refine ⟨h.1, ?_⟩
  rcases h.2 with h2 | ⟨g, cap, cur, rfl, h3, h4, h5⟩
  · exact .inl h2
  · exact .inr ⟨g, cap, cur, rfl, h3, (hk.block g (Array.getElem?_eq_some_iff.1 h4).1 (hF g h3 rfl)).trans h4, h5⟩

def idsV (l : List Nat) : List Value := l.map fun x : Nat => Value.int .u64 (x : Int)
def OwnI (b : Nat) (w : World) (v : Value) (l : List Nat) : Prop := w.ownsRow b 35 1 v l.length (idsV l)
theorem OwnI.form {b : Nat} {w : World} {v : Value} {l : List Nat} (h : OwnI b w v l) : ∃ a c, v = .slice a l.length c ∧ l.length ≤ c ∧ c ≤ maxLen := by
  rcases h.2 with ⟨rfl, h0⟩ | ⟨g, cap, cur, rfl, _, _, hn, hm, _⟩
  · exact ⟨none, 0, by rw [h0], by omega, by simp [maxLen]⟩
  · exact ⟨_, cap, rfl, hn, hm⟩
theorem Tryz.info35 : (Tryz.prog.info? 35).map (fun i => (i.zero, i.size, i.bytes)) = some (some (.int .u64 0), 1, 8) := by kernel_rfl
theorem OwnI.push {b : Nat} {w : World} {v : Value} {l : List Nat} (h : OwnI b w v l) (hk0 : b ≤ w.heap.size) (a : Addr) (p : Nat) (h0 : w.cell? a = some (.int .u64 p)) (hl : l.length + 1 ≤ 1000000000000) :
    ∃ v' w', (Builtin.append_ #[75, 75] 75 #[v, .slice (some a) 1 1]).run Tryz.prog w = .ok v' w' ∧ OwnI b w' v' (l ++ [p]) ∧ w.grownBy w' v.ownBlock ∧ (v'.ownBlock = v.ownBlock ∨ v'.ownBlock = some w.heap.size) := by
  obtain ⟨i0, hi, hz0, hz1, hz2⟩ := info_parts Tryz.info35
  obtain ⟨v', w', hrun, ho2, hg2, -, hb2⟩ := run_append_own_at (P := Tryz.prog) w b 75 75 35 i0 _ 1 8 Tryz.underlying75 hi hz0 hz1 hz2 rfl (by decide) _ _ _ h a 1 1 [.int .u64 (p : Int)] rfl (by
    intro j u hu
    match j, hu with
    | 0, hu => cases hu; exact h0
    | j + 1, hu => simp at hu) (by intro u hu; simp at hu; subst hu; rfl) (by unfold maxLen; omega) (by omega) hk0
  refine ⟨v', w', hrun, ?_, hg2, hb2⟩
  unfold OwnI idsV
  rw [List.map_append, List.length_append]
  exact ho2

theorem OwnI.at {b : Nat} {w : World} {a : Option Addr} {n c : Nat} {l : List Nat} (h : OwnI b w (.slice a n c) l) {k : Nat} (hk : k < l.length) : ∃ g, a = some ⟨g, 0, none⟩ ∧ g < w.heap.size ∧ ∀ j (hj : j < l.length), w.cell? ⟨g, j, none⟩ = some (.int .u64 l[j]) := by
  rcases h.2 with ⟨e, h0⟩ | ⟨g, cap, cur, e, hb, hg, hn, hm, hs, ht⟩
  · rw [h0] at hk; omega
  · cases e
    refine ⟨g, rfl, (Array.getElem?_eq_some_iff.1 hg).1, fun j hj => ?_⟩
    rw [cell_of_row w g j cur 35 (0, 0) hg]
    have h1 : (idsV l)[j]? = some (.int .u64 (l[j] : Int)) := by simp [idsV, hj]
    rw [← ht, List.getElem?_take, if_pos (by omega)] at h1
    simpa using h1
theorem OwnI.kept {b : Nat} {w w' : World} {v : Value} {l : List Nat} {F : Nat → Prop} (h : OwnI b w v l) (hk : Kept F w w') (hF : ∀ g, b ≤ g → v.ownBlock = some g → ¬ F g) : OwnI b w' v l := ownsRow_keptI h hk hF
theorem OwnI.mono {b b' : Nat} {w : World} {v : Value} {l : List Nat} (h : OwnI b w v l) (hb : b' ≤ b) : OwnI b' w v l := by
  refine ⟨h.1, ?_⟩
  rcases h.2 with h2 | ⟨g, cap, cur, rfl, h3, h4⟩
  · exact .inl h2
  · exact .inr ⟨g, cap, cur, rfl, by omega, h4⟩
end Go.Proofs.YtemilbemdlpkaaaGreatDoor

/- A region that draws its order and only reads, in a round of a range over a function. -/
namespace Go.Proofs.YtemilbemdlpkaaaGreatDoor
open Go.RowKit

theorem uponIn_inRound {F : Fence} {n : Nat} {P : Program} {o : Oper} {a : Act} {next : Act → World → Prop} {Q : Exit → Act → World → Prop} {r : Result Next} (l : Nat) (h : o.uponIn F n P a next Q r) : o.uponIn (F.inRound l) n P a next Q r := by
  cases r with
  | ok x w => cases x <;> exact h
  | halt x w => cases x <;> exact h
theorem wpIn_inRound {F : Fence} {n : Nat} {P : Program} {o : Oper} {a : Act} {w : World} {next : Act → World → Prop} {Q : Exit → Act → World → Prop} (l : Nat) (hro : F.round = none) (hnd : ∀ c, o.op ≠ .defer c) (h : o.wpIn F n P a w next Q) : o.wpIn (F.inRound l) n P a w next Q := by
  refine ⟨h.1, ?_⟩
  have h2 := h.2
  rw [hro, Oper.semAt_none] at h2
  show o.uponIn (F.inRound l) n P a next Q ((o.semAt (some l) a.eval).run P w)
  rw [Oper.semAt_some l a.eval o hnd]
  exact uponIn_inRound l h2
theorem wpOpIn_inRound {F : Fence} {n : Nat} {P : Program} {ops : Array Oper} {i : Nat} {a : Act} {w : World} {K : Act → World → Prop} {Q : Exit → Act → World → Prop} (l : Nat) (hro : F.round = none) (hnd : ∀ (i : Nat) o, ops[i]? = some o → ∀ c, o.op ≠ .defer c) (h : wpOpIn F n P ops Q i K a w) : wpOpIn (F.inRound l) n P ops Q i K a w := by
  unfold wpOpIn at *
  split
  · rename_i ho; simp only [ho] at h; exact h
  · rename_i o ho
    simp only [ho] at h
    split
    · rename_i hw; simp only [hw, if_true] at h; exact wpIn_inRound l hro (hnd i o ho) h
    · rename_i hw; simp only [hw] at h; exact h
theorem wpAnyIn_inRound {F : Fence} {n : Nat} {P : Program} {md : Region.Mode} {ops : Array Oper} {Q : Exit → Act → World → Prop} (l : Nat) (hro : F.round = none) (hnd : ∀ (i : Nat) o, ops[i]? = some o → ∀ c, o.op ≠ .defer c) : ∀ (fuel : Nat) (listed : Array Bool) (a : Act) (w : World), wpAnyIn F n P md ops Q fuel listed a w → wpAnyIn (F.inRound l) n P md ops Q fuel listed a w
  | 0, _, _, _, h => h
  | fuel + 1, _, _, _, h => ⟨h.1, fun i hi => wpOpIn_mono (fun a w hh => wpAnyIn_inRound l hro hnd fuel _ a w hh) (wpOpIn_inRound l hro hnd (h.2 i hi))⟩

/-- A region that only reads, in a round: one walk in the lexical order serves every order. -/
theorem wpIn_region_quiet_round {F : Fence} {n : Nat} {P : Program} (l₀ : Nat) {id : Nat} {Q : Exit → Act → World → Prop} {a : Act} {w : World} {l : List Oper} (hro : F.round = none) (hnd : ∀ (i : Nat) o, l.toArray[i]? = some o → ∀ c, o.op ≠ .defer c) (hm : P.follows .mixedOrders = true) (hB : Region.lexB .any l.toArray = true)
    (h : wpQuietIn F n P l.toArray (fun w' => ∃ n, w' = w.drewN n) (fun a' => ∀ w', (∃ n, w' = w.drewN n) → Q .normal a' w') l a) : (Code.region id l.toArray true).wpIn (F.inRound l₀) n P Q a w := by
  simp only [Region.lexB, Bool.and_eq_true] at hB
  refine wpIn_region_any hm (wpAnyIn_inRound l₀ hro hnd _ _ _ _ (wpAnyIn_of_quiet (C := fun w' => ∃ n, w' = w.drewN n) (Q := fun a' => ∀ w', (∃ n, w' = w.drewN n) → Q .normal a' w') hro (fun _ w' hw' h => h w' hw') _ _ _ _ ⟨1, rfl⟩ ?_))
  have := wpAnyQIn_lex (F := F) (n := n) (C := fun w' => ∃ n, w' = w.drewN n) (md := .any) hB.1 l.toArray.toList 0 (Array.replicate l.toArray.size false) a (by simp) (by simpa using hB.2) (by simpa using h)
  simpa using this

def noDeferB (ops : Array Oper) : Bool := ops.all fun o => match o.op with | .defer _ => false | _ => true
theorem noDefer {ops : Array Oper} (h : noDeferB ops = true) (i : Nat) (o : Oper) (ho : ops[i]? = some o) : ∀ c, o.op ≠ .defer c := by
  intro c e
  have := Array.all_eq_true'.1 h o (Array.mem_of_getElem? ho)
  rw [e] at this
  cases this

theorem wpListIn_append_run {F : Fence} {n : Nat} {P : Program} {w : World} {ops : Array Oper} {rest : List Oper} {o : Oper} {a : Act} {Q : Exit → Act → World → Prop} (hg : o.guard = none) (s x : Operand) (ts : Array TypeId)
    (hop : o.op = Op.call { callee := Callee.builtin Builtin.append, args := #[s, x], argTypes := ts }) (v u v' : Value) (w' : World) (hs : a.eval s = v) (hx : a.eval x = u) (hrun : (Builtin.append_ ts o.type #[v, u]).run P w = .ok v' w')
    (h : wpListIn F n P ops Q rest (a.put o.dst v') w') : wpListIn F n P ops Q (o :: rest) a w := by
  refine wpListIn_plain hg fun K hK' => ?_
  unfold Oper.wpIn
  refine ⟨?_, ?_⟩
  · simp [Oper.about, hop, resolve, Target.leads, Sem.run_pure]
  · rw [Oper.semAt_plain F _ _ (by rw [hop]; intro c hc'; cases hc')]
    simp [execOp, hop, resolve, invoke, builtin, hs, hx, hrun, Result.andThen]
    exact hK' _ _ h
end Go.Proofs.YtemilbemdlpkaaaGreatDoor
