/- espalierref03.Read. -/
import Derived.Test.YtjnhkepgoghogaaGreatDoorRqP
import Derived.Test.YtjnhkepgoghogaaGreatDoorRqN
namespace Go.Proofs.YtjnhkepgoghogaaGreatDoor
open Go.RowKit Go.ChangeMaps Go.MapKept
set_option linter.unusedSimpArgs false

theorem ob_add (a : Option Addr) (z n c n' c' : Nat) : (Value.slice (a.map fun x => x.add z) n c).ownBlock = (Value.slice a n' c').ownBlock := by
  cases a with
  | none => rfl
  | some v =>
    show some (v.add z).block = some v.block
    unfold Addr.add
    split <;> rfl
theorem info_rows : (Tryz.prog.info? 33).map (fun i => (i.zero, i.size, i.bytes)) = some (some (.slice none 0 0), 1, 24) := by kernel_rfl
/-- A row of our own of rows of bytes that lie below n0. -/
def OwnV (n0 : Nat) (w : World) (v : Value) (recs : List (List UInt8)) : Prop :=
  ∃ us : List Value, w.ownsRow n0 33 1 v us.length us ∧ us.length = recs.length ∧ ∀ (i : Nat) (u : Value) (bs : List UInt8), us[i]? = some u → recs[i]? = some bs → IsB w u bs ∧ (bs ≠ [] → ∀ g, u.ownBlock = some g → g < n0) ∧ ∃ a c, u = .slice a bs.length c ∧ bs.length < c
theorem OwnV.nil (n0 : Nat) (w : World) : OwnV n0 w (.slice none 0 0) [] := ⟨[], World.ownsRow_nil _ _ _ _, rfl, fun i u bs h => by simp at h⟩
theorem OwnV.form {n0 : Nat} {w : World} {v : Value} {recs : List (List UInt8)} (h : OwnV n0 w v recs) : ∃ a c, v = .slice a recs.length c ∧ recs.length ≤ c ∧ c ≤ maxLen := by
  obtain ⟨us, h1, h2, -⟩ := h
  rcases h1.2 with ⟨rfl, h0⟩ | ⟨g, cap, cur, rfl, _, _, hn, hm, _⟩
  · exact ⟨none, 0, by rw [← h2, h0], by omega, by simp [maxLen]⟩
  · exact ⟨_, cap, by rw [h2], by omega, hm⟩
theorem OwnV.lt {n0 : Nat} {w : World} {v : Value} {recs : List (List UInt8)} (h : OwnV n0 w v recs) : ∀ k, v.ownBlock = some k → n0 ≤ k ∧ k < w.heap.size := by
  obtain ⟨us, h1, -⟩ := h
  exact fun k e => World.ownsRow.lt h1 k e
theorem OwnV.kept {n0 : Nat} {w w' : World} {v : Value} {recs : List (List UInt8)} {F : Nat → Prop} (h : OwnV n0 w v recs) (hk : Kept F w w') (hF : ∀ k, F k → n0 ≤ k ∧ v.ownBlock ≠ some k) : OwnV n0 w' v recs := by
  obtain ⟨us, h1, h2, h3⟩ := h
  refine ⟨us, rowKeptF h1 hk (fun g _ e f => (hF g f).2 e), h2, fun i u bs hu hb => ?_⟩
  obtain ⟨h4, h5, h6⟩ := h3 i u bs hu hb
  exact ⟨h4.keptS hk (fun hne g e f => by have := h5 hne g e; have := (hF g f).1; omega), h5, h6⟩
theorem OwnV.keptN {n0 : Nat} {w w' : World} {v : Value} {recs : List (List UInt8)} (h : OwnV n0 w v recs) (hk : Kept (fun _ => False) w w') : OwnV n0 w' v recs := h.kept hk (fun _ f => f.elim)
theorem OwnV.at {n0 : Nat} {w : World} {a : Option Addr} {n c : Nat} {recs : List (List UInt8)} (h : OwnV n0 w (.slice a n c) recs) {i : Nat} (hi : i < recs.length) : ∃ g u, a = some ⟨g, 0, none⟩ ∧ n0 ≤ g ∧ g < w.heap.size ∧ w.cell? ⟨g, i, none⟩ = some u ∧ IsB w u recs[i] ∧ (recs[i] ≠ [] → ∀ g, u.ownBlock = some g → g < n0) ∧ ∃ a c, u = .slice a recs[i].length c ∧ recs[i].length < c := by
  obtain ⟨us, h1, h2, h3⟩ := h
  rcases h1.2 with ⟨e, h0⟩ | ⟨g, cap, cur, e, hb, hg, hn, hm, hs, ht⟩
  · omega
  · cases e
    have hiu : i < us.length := by omega
    have h4 := h3 i us[i] recs[i] (List.getElem?_eq_getElem hiu) (List.getElem?_eq_getElem hi)
    refine ⟨g, us[i], rfl, hb, (Array.getElem?_eq_some_iff.1 hg).1, ?_, h4⟩
    have h5 : us[i]? = some us[i] := List.getElem?_eq_getElem hiu
    have h6 : (cur.toList.take (us.length * 1))[i]? = some us[i] := by rw [ht]; exact h5
    rw [List.getElem?_take, if_pos (by omega), Array.getElem?_toList] at h6
    simp [World.cell?, hg, h6]
theorem OwnV.push {n0 : Nat} {w : World} {v : Value} {recs : List (List UInt8)} (h : OwnV n0 w v recs) (hk0 : n0 ≤ w.heap.size) (a : Addr) (u : Value) (bs : List UInt8) (h0 : w.cell? a = some u) (hI : IsB w u bs) (hB : bs ≠ [] → ∀ g, u.ownBlock = some g → g < n0) (hC : ∃ a c, u = .slice a bs.length c ∧ bs.length < c) (hl : recs.length + 1 ≤ 1000000000) :
    ∃ v' w', (Builtin.append_ #[93, 93] 93 #[v, .slice (some a) 1 1]).run Tryz.prog w = .ok v' w' ∧ OwnV n0 w' v' (recs ++ [bs]) ∧ Kept (fun k => v.ownBlock = some k) w w' ∧ (v'.ownBlock = v.ownBlock ∨ v'.ownBlock = some w.heap.size) := by
  obtain ⟨us, h1, h2, h3⟩ := h
  obtain ⟨i0, hi, hz0, hz1, hz2⟩ := info_parts info_rows
  have hone : u.oneCell' = true := by obtain ⟨a, c, rfl, -⟩ := hI; rfl
  obtain ⟨v', w', hrun, ho2, hg2, -, hb2⟩ := run_append_own_at (P := Tryz.prog) w n0 93 93 33 i0 _ 1 24 Tryz.underlying93 hi hz0 hz1 hz2 rfl (by decide) _ _ _ h1 a 1 1 [u] rfl (by
    intro j x hx
    match j, hx with
    | 0, hx => cases hx; exact h0
    | j + 1, hx => simp at hx) (by intro x hx; simp at hx; subst hx; exact hone) (by unfold maxLen; omega) (by omega) hk0
  have hk : Kept (fun k => v.ownBlock = some k) w w' := Kept.grown (F := fun k => v.ownBlock = some k) (Kept.refl _ _) hg2 (fun k hk _ => hk)
  refine ⟨v', w', hrun, ⟨us ++ [u], by rw [List.length_append]; exact ho2, by simp [h2], fun i x bs' hx hb => ?_⟩, hk, hb2⟩
  have hIW : ∀ x bs', IsB w x bs' → (bs' ≠ [] → ∀ g, x.ownBlock = some g → g < n0) → IsB w' x bs' := fun x bs' h h' => h.keptS hk (fun hne g e f => by have := h' hne g e; have := (World.ownsRow.lt h1 g f).1; omega)
  by_cases hiu : i < us.length
  · rw [List.getElem?_append_left hiu] at hx
    rw [List.getElem?_append_left (by omega)] at hb
    obtain ⟨h4, h5, h6⟩ := h3 i x bs' hx hb
    exact ⟨hIW _ _ h4 h5, h5, h6⟩
  · have hil := (List.getElem?_eq_some_iff.1 hx).1
    simp only [List.length_append, List.length_singleton] at hil
    obtain rfl : i = us.length := by omega
    simp at hx
    rw [h2] at hb
    simp at hb
    subst hx hb
    exact ⟨hIW _ _ hI hB, hB, hC⟩

/-- The document's File. -/
def fileV (v : Value) (sz : Nat) (wr : Bool) : Value := .agg #[v, .int .i64 sz, .bool wr]
theorem file_ret {R : Ending → World → Prop} {W : World} {B : Nat} {v : Value} {sz : Nat} {b : Bool} {t : Tmp} {fn : Func} {a : Act} (hf : fn.results = #[.cell t 95]) (ht : a.tmps.getD t undef = .pointer (some ⟨B, 0, none⟩)) (hd : a.defers = [])
    (hB : W.heap[B]? = some (.cells #[v, .int .i64 sz, .bool b] 95 (0, 0))) (hv : ∃ a n c, v = .slice a n c) (hR : R (.returned (fileV v sz b)) W) : bodyPost Tryz.prog fn R .ret a W := by
  obtain ⟨va, vn, vc, rfl⟩ := hv
  have hx := run_loadVar_row (P := Tryz.prog) W B 95 95 _ (0, 0) _ hB Tryz.underlying95 rfl (by kernel_rfl)
  have ht2 : a.tmps[t]?.getD undef = .pointer (some ⟨B, 0, none⟩) := by simpa using ht
  refine bodyPost_ret (v := fileV (.slice va vn vc) sz b) ?_ hd hR
  simp [results, hf, ht2, asAddr, Result.andThen, hx, fileV]
/-- A File is stored. -/
theorem file_store {W : World} {B : Nat} {x0 x1 x2 : Value} (hB : W.heap[B]? = some (.cells #[x0, x1, x2] 95 (0, 0))) (y0 y1 y2 : Value) :
    ∃ W', ((W.setCell ⟨B, 0, none⟩ y0).setCell ⟨B, 1, none⟩ y1).setCell ⟨B, 2, none⟩ y2 = W' ∧ W'.heap[B]? = some (.cells #[y0, y1, y2] 95 (0, 0)) ∧ Kept (· = B) W W' ∧ (∀ o x, W.frozen? ⟨B, o, none⟩ = false ∧ (W.setCell ⟨B, 0, none⟩ x).frozen? ⟨B, o, none⟩ = false ∧ ∀ y, ((W.setCell ⟨B, 0, none⟩ x).setCell ⟨B, 1, none⟩ y).frozen? ⟨B, o, none⟩ = false) ∧
      (W.cell? ⟨B, 0, none⟩ = some x0 ∧ W.cell? ⟨B, 1, none⟩ = some x1 ∧ W.cell? ⟨B, 2, none⟩ = some x2) := by
  have h0 := fun x => (heap_setCell_row (o := 0) hB x).trans rfl
  have h1 := fun x y => (heap_setCell_row (o := 1) (h0 x) y).trans rfl
  have h2 := fun x y z => (heap_setCell_row (o := 2) (h1 x y) z).trans rfl
  refine ⟨_, rfl, h2 _ _ _, (((Kept.refl (· = B) W).setCell (p := ⟨B, 0, none⟩) (fun _ => rfl) _).setCell (p := ⟨B, 1, none⟩) (fun _ => rfl) _).setCell (p := ⟨B, 2, none⟩) (fun _ => rfl) _, fun o x => ⟨?_, ?_, fun y => ?_⟩, ?_, ?_, ?_⟩
  · simp [World.frozen?, hB]
  · simp [World.frozen?, h0 x]
  · simp [World.frozen?, h1 x y]
  · simp [World.cell?, hB]
  · simp [World.cell?, hB]
  · simp [World.cell?, hB]
theorem rfGo_end (recs : List (List UInt8)) (sz : Nat) : ∀ f, rfGo f [] recs sz = (recs, sz, false)
  | 0 => rfl
  | f + 1 => by unfold rfGo; rw [if_pos rfl]
set_option maxRecDepth 100000 in
set_option maxHeartbeats 2000000 in
theorem rfile_any (w : World) (a : Option Addr) (c : Nat) (b : List UInt8) (h : IsB w (.slice a b.length c) b) (hl : b.length ≤ 100000) :
    Calls Tryz.prog 45 #[.slice a b.length c] w fun e w' => ∃ v, e = .returned (fileV v (rfOf b).2.1 (rfOf b).2.2) ∧ OwnV w.heap.size w' v (rfOf b).1 ∧ Kept (fun _ => False) w w' := by
  have HB := Lib.hid h
  obtain ⟨_, _, he, hlc, hcm, -⟩ := id h
  cases he
  obtain ⟨n, hn⟩ : ∃ n, b.length = n := ⟨_, rfl⟩
  have HN := Lib.hid hn
  rw [hn] at HB hl hlc ⊢
  have HR : Hid (rfOf b = rfGo n b [] 0) := Lib.hid (by rw [← hn]; rfl)
  generalize rfOf b = O at HR ⊢
  have HBN : Hid (b ≠ [] → ∀ g, (Value.slice a n c).ownBlock = some g → g < w.heap.size) := Lib.hid (fun hne => HB.out.block_lt hne)
  clear h hn
  obtain ⟨w1, hw1⟩ : ∃ W, (w.alloc (.cells #[.slice none 0 0, .int .i64 0, .bool false] 95)).alloc (.cells #[.slice none 0 0, .int .i64 0, .bool false] 95) = W := ⟨_, rfl⟩
  have hk1 : Kept (fun _ => False) w w1 := by rw [← hw1]; exact ((Kept.refl _ _).alloc _).alloc _
  have hs1 : w1.heap.size = w.heap.size + 1 + 1 := by rw [← hw1]; simp
  have hb0 : w1.heap[w.heap.size]? = some (.cells #[.slice none 0 0, .int .i64 0, .bool false] 95 (0, 0)) := by rw [← hw1]; exact alloc_old (heap_alloc_new _ _)
  have hb1 : w1.heap[w.heap.size + 1]? = some (.cells #[.slice none 0 0, .int .i64 0, .bool false] 95 (0, 0)) := by
    have h7 := heap_alloc_new (w.alloc (.cells #[.slice none 0 0, .int .i64 0, .bool false] 95)) (.cells #[.slice none 0 0, .int .i64 0, .bool false] 95)
    rw [World.size_alloc] at h7
    rw [← hw1]; exact h7
  obtain ⟨w2, hw2, hB2, hk2, hf2, c0, c1, c2⟩ := file_store hb1 (.slice none 0 0) (.int .i64 0) (.bool false)
  have f0 := (hf2 0 (.slice none 0 0)).1
  have f1 := (hf2 1 (.slice none 0 0)).2.1
  have f2 := (hf2 2 (.slice none 0 0)).2.2 (.int .i64 0)
  have H1 := Lib.hid (And.intro hb0 (And.intro hb1 (And.intro hk1 hs1)))
  have HB2 := Lib.hid hB2
  have HK2 : Hid (Kept (fun _ => False) w w2) := Lib.hid (hk1.more hk2 (fun g (e : g = _) => by omega))
  have HB0 : Hid (w2.heap[w.heap.size]? = some (.cells #[.slice none 0 0, .int .i64 0, .bool false] 95 (0, 0))) := Lib.hid ((hk2.block _ (by omega) (by show ¬ w.heap.size = w.heap.size + 1; omega)).trans hb0)
  have HS2 : Hid (w.heap.size + 1 + 1 ≤ w2.heap.size) := Lib.hid (by have := hk2.size; omega)
  clear hb0 hb1 hk1 hs1 hB2 hk2 hf2
  go_enter Tryz.func45, Tryz.ntmps45
  go_wp2_with fail
  clear c0 c1 c2 f0 f1 f2 hw1 hw2
  obtain ⟨R, hR⟩ : ∃ R, w.heap.size = R := ⟨_, rfl⟩
  rw [hR] at HB2 HB0 HS2 HBN ⊢
  have HR2 := Lib.hid hR
  clear hR H1
  go_loopg [] n (fun g wr => ∃ recs sz v, n - sz ≤ g ∧ sz ≤ n ∧ recs.length ≤ sz ∧ Hid (rfGo g (b.drop sz) recs sz = O) ∧ Hid (wr.heap[R + 1]? = some (.cells #[v, .int .i64 sz, .bool false] 95 (0, 0))) ∧ Hid (OwnV R wr v recs) ∧ Hid (∀ g, v.ownBlock = some g → R + 1 < g) ∧ Hid (Kept (fun k => R + 1 ≤ k) w2 wr) ∧ Hid (R + 1 + 1 ≤ wr.heap.size))
  case atStart => exact ⟨[], 0, .slice none 0 0, by omega, by omega, by simp, Lib.hid (by rw [HR.out]; rfl), HB2, Lib.hid (OwnV.nil _ _), Lib.hid (fun g e => by cases e), Lib.hid (Kept.refl _ _), HS2⟩
  case round =>
    obtain ⟨recs, sz, v, hg, hsn, hrl, HG, HF, HV, HVB, HK, HS⟩ := hrel
    obtain ⟨va, vc, rfl, -, -⟩ := HV.out.form
    obtain ⟨nr, hnr⟩ : ∃ x, recs.length = x := ⟨_, rfl⟩
    rw [hnr] at HF HV HVB hrl
    have d0 : wr.cell? ⟨R + 1, 0, none⟩ = some (.slice va nr vc) := by simp [World.cell?, HF.out]
    have d1 : wr.cell? ⟨R + 1, 1, none⟩ = some (.int .i64 sz) := by simp [World.cell?, HF.out]
    have d2 : wr.cell? ⟨R + 1, 2, none⟩ = some (.bool false) := by simp [World.cell?, HF.out]
    have hr0 := (HK.out.block R (by have := HS2.out; omega) (by show ¬ R + 1 ≤ R; omega)).trans HB0.out
    by_cases hlt : sz < n
    · have hlt2 : (sz : Int) < (n : Int) := by omega
      obtain ⟨ra, hra⟩ : ∃ x, a.map (fun x => x.add sz) = x := ⟨_, rfl⟩
      obtain ⟨rc, hrc⟩ : ∃ x, c - sz = x := ⟨_, rfl⟩
      obtain ⟨m, hm⟩ : ∃ x, n - sz = x := ⟨_, rfl⟩
      have hBW : IsB wr (.slice a n c) b := (HB.out.keptF HK2.out (fun _ _ f => f)).keptS HK.out (fun hne g e f => by have := HBN.out hne g e; omega)
      have hrest : IsB wr (.slice ra m rc) (b.drop sz) := by
        have h7 := hBW.drop (k := sz) (by rw [HN.out]; omega)
        rwa [if_neg (by omega), Nat.mul_one, hra, hm, hrc] at h7
      have hlen : (b.drop sz).length = m := by rw [List.length_drop, HN.out, hm]
      obtain ⟨bs, hbs⟩ : ∃ x, b.drop sz = x := ⟨_, rfl⟩
      rw [hbs] at hrest hlen HG
      have HNU := Lib.hid (rnumber_any wr ra rc bs (by rw [hlen]; exact hrest))
      rw [hlen] at HNU
      have hbn : bs ≠ [] := fun e => by rw [e] at hlen; simp at hlen; omega
      obtain ⟨⟨x, k, e⟩, hnu⟩ : ∃ y, numB bs = y := ⟨_, rfl⟩
      rw [hnu] at HNU
      simp only at HNU
      obtain ⟨f, hf⟩ : ∃ f, gk = f + 1 := ⟨gk - 1, by omega⟩
      have HG2 : Hid (O = if (x, k, e).2.2 = 110 then (recs, sz, false) else if (x, k, e).2.2 ≠ 0 ∨ 262144 < (x, k, e).1 then (recs, sz, true) else if bs.length - (x, k, e).2.1 < (x, k, e).1 + 8 then (recs, sz, false) else if recB (payAt bs) ≠ bs.take (recB (payAt bs)).length then (recs, sz, true) else rfGo f (bs.drop (recB (payAt bs)).length) (recs ++ [payAt bs]) (sz + (recB (payAt bs)).length)) := Lib.hid (by
        rw [← HG.out, hf]
        rw [rfGo, if_neg hbn, hnu])
      have HBS := Lib.hid hbs
      have HNM := Lib.hid hnu
      have HRE := Lib.hid hrest
      clear hbs hnu hrest hBW
      simp only at HG2
      have HR0' := Lib.hid hr0
      clear hr0
      go_wp2_with fail
      refine HNU.out.mono ?_
      rintro e9 w5 ⟨rfl, rfl⟩
      by_cases h110 : e = 110
      · subst h110
        have hO : Hid (O = (recs, sz, false)) := Lib.hid (by rw [HG2.out, if_pos rfl])
        clear HG2
        have HR0 := Lib.hid HR0'.out
        obtain ⟨w9, hw9, hB9, hk9, hf9, e0, e1, e2⟩ := file_store HR0'.out (.slice va nr vc) (.int .i64 sz) (.bool false)
        have f0 := (hf9 0 (.slice va nr vc)).1
        have f1 := (hf9 1 (.slice va nr vc)).2.1
        have f2 := (hf9 2 (.slice va nr vc)).2.2 (.int .i64 sz)
        have HB9 := Lib.hid hB9
        have HK9 := Lib.hid hk9
        clear hB9 hk9 hf9
        go_wp2_with fail
        refine file_ret rfl rfl rfl HB9.out ⟨_, _, _, rfl⟩ ?_
        rw [hO.out]
        have hs2 := HS2.out
        have hs3 := HS.out
        exact ⟨_, rfl, by rw [HR2.out]; exact HV.out.kept HK9.out (fun k (e : k = R) => ⟨by omega, fun e2 => by have := HVB.out k e2; omega⟩), (HK2.out.more HK.out (fun i hi => by have := HR2.out; omega)).more HK9.out (fun i (e : i = R) => by have := HR2.out; omega)⟩
      · have h110b : (e == 110) = false := by simp [h110]
        by_cases he0 : e = 0
        · subst he0
          obtain ⟨hcan, hk0, hkm⟩ := numB_canon HNM.out
          rw [hlen] at hkm
          by_cases hx : 262144 < x
          · have hxb : decide ((262144 : Int) < (x : Int)) = true := by simp; omega
            have hxc : decide ((x : Int) > 262144) = true := by simp; omega
            have hO : Hid (O = (recs, sz, true)) := Lib.hid (by rw [HG2.out, if_neg (by decide), if_pos (Or.inr hx)])
            clear HG2 hcan
            have hFw := (heap_setCell_row (o := 2) HF.out (.bool true)).trans rfl
            have hrw : (wr.setCell ⟨R + 1, 2, none⟩ (.bool true)).heap[R]? = some (.cells #[.slice none 0 0, .int .i64 0, .bool false] 95 (0, 0)) := (heap_setCell_ne (by omega) _).trans HR0'.out
            have f9 : wr.frozen? ⟨R + 1, 2, none⟩ = false := by simp [World.frozen?, HF.out]
            have d9 : wr.cell? ⟨R + 1, 2, none⟩ = some (.bool false) := by simp [World.cell?, HF.out]
            obtain ⟨wq, hwq⟩ : ∃ W, wr.setCell ⟨R + 1, 2, none⟩ (.bool true) = W := ⟨_, rfl⟩
            have hkq : Kept (· = R + 1) wr wq := by rw [← hwq]; exact (Kept.refl (· = R + 1) wr).setCell (p := ⟨R + 1, 2, none⟩) (fun _ => rfl) _
            rw [hwq] at hFw hrw
            have g0 : wq.cell? ⟨R + 1, 0, none⟩ = some (.slice va nr vc) := by simp [World.cell?, hFw]
            have g1 : wq.cell? ⟨R + 1, 1, none⟩ = some (.int .i64 sz) := by simp [World.cell?, hFw]
            have g2 : wq.cell? ⟨R + 1, 2, none⟩ = some (.bool true) := by simp [World.cell?, hFw]
            obtain ⟨w9, hw9, hB9, hk9, hf9, e0, e1, e2⟩ := file_store hrw (.slice va nr vc) (.int .i64 sz) (.bool true)
            have f0 := (hf9 0 (.slice va nr vc)).1
            have f1 := (hf9 1 (.slice va nr vc)).2.1
            have f2 := (hf9 2 (.slice va nr vc)).2.2 (.int .i64 sz)
            have HB9 := Lib.hid hB9
            have HK9 : Hid (Kept (fun i => R ≤ i ∧ i ≤ R + 1) wr w9) := Lib.hid ((hkq.mono (fun i _ (e : i = R + 1) => (show R ≤ i ∧ i ≤ R + 1 by omega))).trans hk9 (fun i _ (e : i = R) => (show R ≤ i ∧ i ≤ R + 1 by omega)))
            clear hB9 hk9 hf9 hFw hrw hkq
            go_wp2_with fail
            refine file_ret rfl rfl rfl HB9.out ⟨_, _, _, rfl⟩ ?_
            rw [hO.out]
            have hs2 := HS2.out
            have hs3 := HS.out
            exact ⟨_, rfl, by rw [HR2.out]; exact HV.out.kept HK9.out (fun k e => ⟨e.1, fun e2 => by have := HVB.out k e2; omega⟩), (HK2.out.more HK.out (fun i hi => by have := HR2.out; omega)).more HK9.out (fun i e => by have := HR2.out; omega)⟩
          · have hxb : decide ((262144 : Int) < (x : Int)) = false := by simp; omega
            have hxc : decide ((x : Int) > 262144) = false := by simp; omega
            by_cases hfew : m - k < x + 8
            · have hfb : ((m : Int) - (k : Int)) < (x : Int) + 8 := by omega
              have hO : Hid (O = (recs, sz, false)) := Lib.hid (by rw [HG2.out, if_neg (by decide), if_neg (by simp [hx]), if_pos (by omega)])
              clear HG2 hcan
              have HR0 := Lib.hid HR0'.out
              obtain ⟨w9, hw9, hB9, hk9, hf9, e0, e1, e2⟩ := file_store HR0'.out (.slice va nr vc) (.int .i64 sz) (.bool false)
              have f0 := (hf9 0 (.slice va nr vc)).1
              have f1 := (hf9 1 (.slice va nr vc)).2.1
              have f2 := (hf9 2 (.slice va nr vc)).2.2 (.int .i64 sz)
              have HB9 := Lib.hid hB9
              have HK9 := Lib.hid hk9
              clear hB9 hk9 hf9
              go_wp2_with fail
              refine file_ret rfl rfl rfl HB9.out ⟨_, _, _, rfl⟩ ?_
              rw [hO.out]
              have hs2 := HS2.out
              have hs3 := HS.out
              exact ⟨_, rfl, by rw [HR2.out]; exact HV.out.kept HK9.out (fun k (e : k = R) => ⟨by omega, fun e2 => by have := HVB.out k e2; omega⟩), (HK2.out.more HK.out (fun i hi => by have := HR2.out; omega)).more HK9.out (fun i (e : i = R) => by have := HR2.out; omega)⟩
            · have hfb : ¬ ((m : Int) - (k : Int)) < (x : Int) + 8 := by omega
              obtain ⟨hpl, hrl9, hiff⟩ := rec_split HNM.out (by rw [hlen]; omega)
              obtain ⟨pa, hpa⟩ : ∃ z, ra.map (fun x => x.add k) = z := ⟨_, rfl⟩
              obtain ⟨pc, hpc⟩ : ∃ z, rc - k = z := ⟨_, rfl⟩
              have hpay : IsB wr (.slice pa x pc) (payAt bs) := by
                have h7 := (HRE.out.drop (k := k) (by rw [hlen]; omega)).take (k := x) (by rw [List.length_drop, hlen]; omega)
                rw [if_neg (by omega), Nat.mul_one, hpa, hpc] at h7
                have h8 : payAt bs = (bs.drop k).take x := by unfold payAt; rw [HNM.out]
                rwa [h8]
              have hpb : ∀ g, (Value.slice pa x pc).ownBlock = some g → g < R := fun g e => by
                refine HBN.out (fun e2 => ?_) g ?_
                · rw [e2] at HN; have := HN.out; simp at this; omega
                · rwa [← hpa, ob_add ra k x pc m rc, ← hra, ob_add a sz m rc n c] at e
              have HREC := Lib.hid (rrecord_any wr pa pc (payAt bs) (by rw [hpl]; exact hpay) (by rw [hpl]; omega))
              rw [hpl] at HREC
              obtain ⟨p, hp⟩ : ∃ z, payAt bs = z := ⟨_, rfl⟩
              rw [hp] at HREC hpay hiff hrl9 HG2 hpl
              have HPAY := Lib.hid hpay
              have HPB := Lib.hid hpb
              have HIF := Lib.hid hiff
              have HPL := Lib.hid hpl
              clear hpay hpb hiff hcan hp
              have hkx : k + x - k = x := by omega
              go_wp2_with fail
              refine HREC.out.mono ?_
              rintro e8 w5 ⟨v5, rfl, hf5⟩
              obtain ⟨a5, c5, h5e, -, -, -⟩ := id hf5.own.isB
              subst h5e
              obtain ⟨L9, hL9⟩ : ∃ z, (recB p).length = z := ⟨_, rfl⟩
              rw [hL9] at hrl9
              have HL9 := Lib.hid hrl9
              have hL9m : L9 ≤ m := by omega
              clear hrl9
              have hB5 := hf5.own.isB
              rw [hL9] at hB5 ⊢
              have hR5 := (HRE.out.keptF hf5.kept (fun _ _ f => f)).take (k := L9) (by rw [hlen]; exact hL9m)
              have hc1 : ∀ z, (convert 33 9 (.slice a5 L9 c5)).run Tryz.prog (w5.drewN z) = .ok (.string (strB (recB p))) (w5.drewN z) := fun z => conv_any (hB5.keptF ((Kept.refl (fun _ => False) _).drewN z) (fun _ _ f => f))
              have hc2 : ∀ z, (convert 33 9 (.slice ra L9 rc)).run Tryz.prog (w5.drewN z) = .ok (.string (strB (bs.take L9))) (w5.drewN z) := fun z => conv_any (hR5.keptF ((Kept.refl (fun _ => False) _).drewN z) (fun _ _ f => f))
              have HF5 := Lib.hid hf5.kept
              have hlm : (L9 : Int) ≤ (rc : Int) := by omega
              clear hf5 hB5 hR5
              by_cases heq : recB p = bs.take L9
              · rw [← heq] at hc2
                have HG3 : Hid (rfGo f (bs.drop L9) (recs ++ [p]) (sz + L9) = O) := Lib.hid (by rw [HG2.out, if_neg (by decide), if_neg (by simp [hx]), if_neg (by omega), hL9, if_neg (by simpa using heq)])
                clear heq HG2
                go_wp2_with fail
                go_quiet (fail)
                obtain ⟨w6, hw6⟩ : ∃ W, w5.drewN nq = W := ⟨_, rfl⟩
                have hk6 : Kept (fun _ => False) wr w6 := by rw [← hw6]; exact HF5.out.drewN nq
                rw [hw6]
                clear hw6 hc1 hc2
                obtain ⟨wA, hwA⟩ : ∃ W, w6.alloc (.cells #[.slice pa x pc] 33) = W := ⟨_, rfl⟩
                have hkA : Kept (fun _ => False) w6 wA := by rw [← hwA]; exact (Kept.refl _ _).alloc _
                have hbA : wA.heap[w6.heap.size]? = some (.cells #[.slice pa x pc] 33 (0, 0)) := by rw [← hwA]; exact heap_alloc_new _ _
                have hA0 : wA.cell? ⟨w6.heap.size, 0, none⟩ = some (.slice pa x pc) := by simp [World.cell?, hbA]
                have hk6A := hk6.trans hkA (fun _ _ f => f)
                obtain ⟨v', w7, hrun, hov, hk7, hb7⟩ := (HV.out.keptN hk6A).push (by have := HS.out; have := hk6A.size; omega) ⟨w6.heap.size, 0, none⟩ (.slice pa x pc) p hA0 (HPAY.out.keptF hk6A (fun _ _ f => f)) (fun _ => HPB.out) ⟨pa, pc, by rw [HPL.out], by rw [HPL.out]; omega⟩ (by rw [hnr]; omega)
                obtain ⟨v'a, v'c, hv'e, -, -⟩ := hov.form
                subst hv'e
                have hnr1 : (recs ++ [p]).length = nr + 1 := by simp [hnr]
                rw [hnr1] at hov hrun hb7
                have hvR : ∀ g, (Value.slice v'a (nr + 1) v'c).ownBlock = some g → R + 1 < g := fun g e => by
                  rcases hb7 with h7 | h7
                  · exact HVB.out g (h7 ▸ e)
                  · rw [h7] at e
                    cases e
                    have := HS.out
                    have := hk6A.size
                    omega
                have hk67 : Kept (fun i => R + 1 ≤ i) wr w7 := (hk6A.mono (fun _ _ f => f.elim)).trans hk7 (fun i _ e => by have := HVB.out i e; omega)
                have hF6 := (hk6.block _ (Array.getElem?_eq_some_iff.1 HF.out).1 (fun f => f)).trans HF.out
                have hF7 := (hk7.block _ (by have := HS.out; have := hk6A.size; omega) (fun e => by have := HVB.out _ e; omega)).trans ((hkA.block _ (Array.getElem?_eq_some_iff.1 hF6).1 (fun f => f)).trans hF6)
                have a0 : w6.cell? ⟨R + 1, 0, none⟩ = some (.slice va nr vc) := by simp [World.cell?, hF6]
                have a1 : w7.cell? ⟨R + 1, 0, none⟩ = some (.slice va nr vc) := by simp [World.cell?, hF7]
                have a2 : w7.frozen? ⟨R + 1, 0, none⟩ = false := by simp [World.frozen?, hF7]
                have hF8 := (heap_setCell_row (o := 0) hF7 (.slice v'a (nr + 1) v'c)).trans rfl
                obtain ⟨w8, hw8⟩ : ∃ W, w7.setCell ⟨R + 1, 0, none⟩ (.slice v'a (nr + 1) v'c) = W := ⟨_, rfl⟩
                rw [hw8] at hF8
                have a3 : w8.cell? ⟨R + 1, 1, none⟩ = some (.int .i64 sz) := by simp [World.cell?, hF8]
                have a4 : w8.frozen? ⟨R + 1, 1, none⟩ = false := by simp [World.frozen?, hF8]
                have hF9 := (heap_setCell_row (o := 1) hF8 (.int .i64 ((sz + L9 : Nat) : Int))).trans rfl
                have hkS : Kept (· = R + 1) w7 (w8.setCell ⟨R + 1, 1, none⟩ (.int .i64 ((sz + L9 : Nat) : Int))) := by rw [← hw8]; exact ((Kept.refl (· = R + 1) w7).setCell (p := ⟨R + 1, 0, none⟩) (fun _ => rfl) _).setCell (p := ⟨R + 1, 1, none⟩) (fun _ => rfl) _
                have HFN : Hid ((w8.setCell ⟨R + 1, 1, none⟩ (.int .i64 ((sz + L9 : Nat) : Int))).heap[R + 1]? = some (.cells #[.slice v'a (nr + 1) v'c, .int .i64 (sz + L9 : Nat), .bool false] 95 (0, 0))) := Lib.hid hF9
                have HVN : Hid (OwnV R (w8.setCell ⟨R + 1, 1, none⟩ (.int .i64 ((sz + L9 : Nat) : Int))) (.slice v'a (nr + 1) v'c) (recs ++ [p])) := Lib.hid (hov.kept hkS (fun g (e : g = R + 1) => ⟨by omega, fun e2 => by have := hvR g e2; omega⟩))
                have HVBN := Lib.hid hvR
                have HKN : Hid (Kept (fun i => R + 1 ≤ i) w2 (w8.setCell ⟨R + 1, 1, none⟩ (.int .i64 ((sz + L9 : Nat) : Int)))) := Lib.hid ((HK.out.trans hk67 (fun _ _ e => e)).trans hkS (fun i _ (e : i = R + 1) => by omega))
                have HSN : Hid (R + 1 + 1 ≤ (w8.setCell ⟨R + 1, 1, none⟩ (.int .i64 ((sz + L9 : Nat) : Int))).heap.size) := Lib.hid (by have := hkS.size; have := hk67.size; have := HS.out; omega)
                have hG3 := HG3.out
                rw [← HBS.out, List.drop_drop] at hG3
                have HG4 := Lib.hid hG3
                rw [← hwA] at hrun
                have hcast : ((sz + L9 : Nat) : Int) = (sz : Int) + (L9 : Int) := by omega
                have hnsz : n - (sz + L9) ≤ f := by have := HL9.out; omega
                have hszn : sz + L9 ≤ n := by omega
                have hrl2 : (recs ++ [p]).length ≤ sz + L9 := by rw [hnr1]; have := HL9.out; omega
                have hsz100 : (sz : Int) + (L9 : Int) ≤ 100000 := by omega
                clear hkA hbA hA0 hk6A hov hk7 hb7 hvR hk67 hF6 hF7 hF8 hF9 hkS hG3 hk6 hwA hnr1 d0 d1 d2
                go_wp2_with (at_builtin; refine wpList_append_run rfl (.tmp 66) (.tmp 68) #[93, 93] rfl _ _ _ _ rfl rfl hrun ?_)
                rw [← hcast]
                go_roundg f
                case measure => omega
                case rel => exact ⟨recs ++ [p], sz + L9, .slice v'a (nr + 1) v'c, hnsz, hszn, hrl2, HG4, HFN, HVN, HVBN, HKN, HSN⟩
              · have hne : ¬ (strB (recB p)).toList = (strB (bs.take L9)).toList := toList_ne (fun e => heq (by have := congrArg txB e; rwa [txB_strB, txB_strB] at this))
                have hneb : ((strB (recB p)).toList == (strB (bs.take L9)).toList) = false := by simpa using hne
                have hO : Hid (O = (recs, sz, true)) := Lib.hid (by rw [HG2.out, if_neg (by decide), if_neg (by simp [hx]), if_neg (by omega), hL9, if_pos heq])
                clear heq HG2
                go_wp2_with fail
                go_quiet (fail)
                obtain ⟨w6, hw6⟩ : ∃ W, w5.drewN nq = W := ⟨_, rfl⟩
                have hk6 : Kept (fun _ => False) wr w6 := by rw [← hw6]; exact HF5.out.drewN nq
                rw [hw6]
                clear hw6 hc1 hc2 d0 d1 d2
                have HF6 := Lib.hid ((hk6.block _ (Array.getElem?_eq_some_iff.1 HF.out).1 (fun f => f)).trans HF.out)
                have HV6 := Lib.hid (HV.out.keptN hk6)
                have HK6 : Hid (Kept (fun i => R + 1 ≤ i) w2 w6) := Lib.hid (HK.out.trans hk6 (fun _ _ f => f.elim))
                have HS6 : Hid (R + 1 + 1 ≤ w6.heap.size) := Lib.hid (Nat.le_trans HS.out hk6.size)
                have HR6 := Lib.hid ((hk6.block _ (Array.getElem?_eq_some_iff.1 HR0'.out).1 (fun f => f)).trans HR0'.out)
                clear hk6 HREC HNU HRE HPAY HF5
                have hFw := (heap_setCell_row (o := 2) HF6.out (.bool true)).trans rfl
                have hrw : (w6.setCell ⟨R + 1, 2, none⟩ (.bool true)).heap[R]? = some (.cells #[.slice none 0 0, .int .i64 0, .bool false] 95 (0, 0)) := (heap_setCell_ne (by omega) _).trans HR6.out
                have f9 : w6.frozen? ⟨R + 1, 2, none⟩ = false := by simp [World.frozen?, HF6.out]
                have d9 : w6.cell? ⟨R + 1, 2, none⟩ = some (.bool false) := by simp [World.cell?, HF6.out]
                obtain ⟨wq, hwq⟩ : ∃ W, w6.setCell ⟨R + 1, 2, none⟩ (.bool true) = W := ⟨_, rfl⟩
                have hkq : Kept (· = R + 1) w6 wq := by rw [← hwq]; exact (Kept.refl (· = R + 1) w6).setCell (p := ⟨R + 1, 2, none⟩) (fun _ => rfl) _
                rw [hwq] at hFw hrw
                have g0 : wq.cell? ⟨R + 1, 0, none⟩ = some (.slice va nr vc) := by simp [World.cell?, hFw]
                have g1 : wq.cell? ⟨R + 1, 1, none⟩ = some (.int .i64 sz) := by simp [World.cell?, hFw]
                have g2 : wq.cell? ⟨R + 1, 2, none⟩ = some (.bool true) := by simp [World.cell?, hFw]
                obtain ⟨w9, hw9, hB9, hk9, hf9, e0, e1, e2⟩ := file_store hrw (.slice va nr vc) (.int .i64 sz) (.bool true)
                have f0 := (hf9 0 (.slice va nr vc)).1
                have f1 := (hf9 1 (.slice va nr vc)).2.1
                have f2 := (hf9 2 (.slice va nr vc)).2.2 (.int .i64 sz)
                have HB9 := Lib.hid hB9
                have HK9 : Hid (Kept (fun i => R ≤ i ∧ i ≤ R + 1) w6 w9) := Lib.hid ((hkq.mono (fun i _ (e : i = R + 1) => (show R ≤ i ∧ i ≤ R + 1 by omega))).trans hk9 (fun i _ (e : i = R) => (show R ≤ i ∧ i ≤ R + 1 by omega)))
                clear hB9 hk9 hf9 hFw hrw hkq
                go_wp2_with fail
                refine file_ret rfl rfl rfl HB9.out ⟨_, _, _, rfl⟩ ?_
                rw [hO.out]
                have hs2 := HS2.out
                have hs3 := HS6.out
                exact ⟨_, rfl, by rw [HR2.out]; exact HV6.out.kept HK9.out (fun k e => ⟨e.1, fun e2 => by have := HVB.out k e2; omega⟩), (HK2.out.more HK6.out (fun i hi => by have := HR2.out; omega)).more HK9.out (fun i e => by have := HR2.out; omega)⟩
        · have he0b : (e != 0) = true := by simp [he0]
          have hO : Hid (O = (recs, sz, true)) := Lib.hid (by rw [HG2.out, if_neg h110, if_pos (Or.inl he0)])
          clear HG2
          have hFw := (heap_setCell_row (o := 2) HF.out (.bool true)).trans rfl
          have hrw : (wr.setCell ⟨R + 1, 2, none⟩ (.bool true)).heap[R]? = some (.cells #[.slice none 0 0, .int .i64 0, .bool false] 95 (0, 0)) := (heap_setCell_ne (by omega) _).trans HR0'.out
          have f9 : wr.frozen? ⟨R + 1, 2, none⟩ = false := by simp [World.frozen?, HF.out]
          have d9 : wr.cell? ⟨R + 1, 2, none⟩ = some (.bool false) := by simp [World.cell?, HF.out]
          obtain ⟨wq, hwq⟩ : ∃ W, wr.setCell ⟨R + 1, 2, none⟩ (.bool true) = W := ⟨_, rfl⟩
          have hkq : Kept (· = R + 1) wr wq := by rw [← hwq]; exact (Kept.refl (· = R + 1) wr).setCell (p := ⟨R + 1, 2, none⟩) (fun _ => rfl) _
          rw [hwq] at hFw hrw
          have g0 : wq.cell? ⟨R + 1, 0, none⟩ = some (.slice va nr vc) := by simp [World.cell?, hFw]
          have g1 : wq.cell? ⟨R + 1, 1, none⟩ = some (.int .i64 sz) := by simp [World.cell?, hFw]
          have g2 : wq.cell? ⟨R + 1, 2, none⟩ = some (.bool true) := by simp [World.cell?, hFw]
          obtain ⟨w9, hw9, hB9, hk9, hf9, e0, e1, e2⟩ := file_store hrw (.slice va nr vc) (.int .i64 sz) (.bool true)
          have f0 := (hf9 0 (.slice va nr vc)).1
          have f1 := (hf9 1 (.slice va nr vc)).2.1
          have f2 := (hf9 2 (.slice va nr vc)).2.2 (.int .i64 sz)
          have HB9 := Lib.hid hB9
          have HK9 : Hid (Kept (fun i => R ≤ i ∧ i ≤ R + 1) wr w9) := Lib.hid ((hkq.mono (fun i _ (e : i = R + 1) => (show R ≤ i ∧ i ≤ R + 1 by omega))).trans hk9 (fun i _ (e : i = R) => (show R ≤ i ∧ i ≤ R + 1 by omega)))
          clear hB9 hk9 hf9 hFw hrw hkq
          go_wp2_with fail
          refine file_ret rfl rfl rfl HB9.out ⟨_, _, _, rfl⟩ ?_
          rw [hO.out]
          have hs2 := HS2.out
          have hs3 := HS.out
          exact ⟨_, rfl, by rw [HR2.out]; exact HV.out.kept HK9.out (fun k e => ⟨e.1, fun e2 => by have := HVB.out k e2; omega⟩), (HK2.out.more HK.out (fun i hi => by have := HR2.out; omega)).more HK9.out (fun i e => by have := HR2.out; omega)⟩
    · obtain rfl : sz = n := by omega
      have hO : Hid (O = (recs, sz, false)) := Lib.hid (by rw [← HG.out, List.drop_eq_nil_of_le (by rw [HN.out]; exact Nat.le_refl _), rfGo_end])
      have HR0 := Lib.hid hr0
      obtain ⟨w9, hw9, hB9, hk9, hf9, e0, e1, e2⟩ := file_store hr0 (.slice va nr vc) (.int .i64 sz) (.bool false)
      have f0 := (hf9 0 (.slice va nr vc)).1
      have f1 := (hf9 1 (.slice va nr vc)).2.1
      have f2 := (hf9 2 (.slice va nr vc)).2.2 (.int .i64 sz)
      have HB9 := Lib.hid hB9
      have HK9 := Lib.hid hk9
      clear hB9 hk9 hf9
      go_wp2_with fail
      refine file_ret rfl rfl rfl HB9.out ⟨_, _, _, rfl⟩ ?_
      rw [hO.out]
      have hs2 := HS2.out
      have hs3 := HS.out
      exact ⟨_, rfl, by rw [HR2.out]; exact HV.out.kept HK9.out (fun k (e : k = R) => ⟨by omega, fun e2 => by have := HVB.out k e2; omega⟩), (HK2.out.more HK.out (fun i hi => by have := HR2.out; omega)).more HK9.out (fun i (e : i = R) => by have := HR2.out; omega)⟩
end Go.Proofs.YtjnhkepgoghogaaGreatDoor
