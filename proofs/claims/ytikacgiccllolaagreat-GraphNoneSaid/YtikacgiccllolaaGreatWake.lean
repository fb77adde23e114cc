/- espalierlaw11: wakes. -/
import Derived.Test.YtikacgiccllolaaGreatHead
set_option linter.unusedSimpArgs false
namespace Go.Proofs.YtikacgiccllolaaGreat
open Go.RowKit Go.ChangeMaps Go.MapKept

theorem isZ_new {W : World} {g : Nat} (l : List Int) (vs : Array Value) (hb : W.heap[g]? = some (.cells vs 3 (0, 0))) (hv : vs = (l.map (Value.int .i64)).toArray) (hm : l.length ≤ maxLen) : IsZ W (.slice (some ⟨g, 0, none⟩) l.length l.length) l := by
  subst hv
  refine ⟨_, _, rfl, Nat.le_refl _, hm, .inr ⟨g, 0, rfl, (Array.getElem?_eq_some_iff.1 hb).1, fun k hk => ?_⟩⟩
  simp [World.cell?, hb, hk]
set_option maxRecDepth 100000 in
set_option maxHeartbeats 1000000 in
theorem wakes_any (w : World) : Calls Tryz.prog 5 #[] w fun e w' => e = .returned (.bool true) ∧ Kept (fun _ => False) w w' := by
  obtain ⟨st, hst, h4, ho, o1, ho1⟩ := wake_st
  have HST := Lib.hid (And.intro hst (And.intro h4 (And.intro ho ho1)))
  clear hst h4 ho ho1
  go_enter Tryz.func5, Tryz.ntmps5
  go_wp2_with fail
  refine callsAt ?_
  intro W hW
  have hW2 : W = allocs w [.cells #[.int .i64 0] 3, .cells #[.int .i64 1] 3, .cells #[.int .i64 1, .int .i64 0] 3, .cells #[.slice none 0 0, .int .i64 0, .bool false, .bool false, .bool false, .slice (some ⟨w.heap.size, 0, none⟩) 1 1, .int .i64 0, .bool false, .bool false, .bool false, .slice (some ⟨w.heap.size + 1, 0, none⟩) 1 1, .int .i64 1, .bool false, .bool false, .bool false, .slice (some ⟨w.heap.size + 2, 0, none⟩) 2 2, .int .i64 0, .bool false, .bool false, .bool false] 52] := hW
  have hkW : Kept (fun _ => False) w W := by rw [hW2]; exact allocs_kept _ _
  have hb0 : W.heap[w.heap.size]? = some (.cells #[.int .i64 0] 3 (0, 0)) := by rw [hW2]; exact allocs_heap _ _ 0 _ rfl
  have hb1 : W.heap[w.heap.size + 1]? = some (.cells #[.int .i64 1] 3 (0, 0)) := by rw [hW2]; exact allocs_heap _ _ 1 _ rfl
  have hb2 : W.heap[w.heap.size + 2]? = some (.cells #[.int .i64 1, .int .i64 0] 3 (0, 0)) := by rw [hW2]; exact allocs_heap _ _ 2 _ rfl
  have hb3 : W.heap[w.heap.size + 3]? = some (.cells #[.slice none 0 0, .int .i64 0, .bool false, .bool false, .bool false, .slice (some ⟨w.heap.size, 0, none⟩) 1 1, .int .i64 0, .bool false, .bool false, .bool false, .slice (some ⟨w.heap.size + 1, 0, none⟩) 1 1, .int .i64 1, .bool false, .bool false, .bool false, .slice (some ⟨w.heap.size + 2, 0, none⟩) 2 2, .int .i64 0, .bool false, .bool false, .bool false] 52 (0, 0)) := by rw [hW2]; exact allocs_heap _ _ 3 _ rfl
  have hB : IsBn W (.slice (some ⟨w.heap.size + 3, 0, none⟩) 4 4) wakeL := by
    refine ⟨_, _, rfl, Nat.le_refl _, by simp [maxLen], ?_, .inr ⟨_, 0, rfl, (Array.getElem?_eq_some_iff.1 hb3).1, fun k hk => ?_⟩⟩
    · intro b hb
      simp only [wakeL, List.mem_cons, List.not_mem_nil, or_false] at hb
      rcases hb with rfl | rfl | rfl | rfl <;> (refine ⟨by decide, by decide, fun n hn => ?_⟩; simp at hn; try omega)
    · match k, hk with
      | 0, _ => exact ⟨none, 0, ⟨none, 0, rfl, Nat.le_refl _, by simp [maxLen], .inl rfl⟩, by simp [World.cell?, hb3, wakeL], by simp [World.cell?, hb3, wakeL], by simp [World.cell?, hb3, wakeL], by simp [World.cell?, hb3, wakeL], by simp [World.cell?, hb3, wakeL]⟩
      | 1, _ => exact ⟨some ⟨w.heap.size, 0, none⟩, 1, isZ_new [0] _ hb0 rfl (by simp [maxLen]), by simp [World.cell?, hb3, wakeL], by simp [World.cell?, hb3, wakeL], by simp [World.cell?, hb3, wakeL], by simp [World.cell?, hb3, wakeL], by simp [World.cell?, hb3, wakeL]⟩
      | 2, _ => exact ⟨some ⟨w.heap.size + 1, 0, none⟩, 1, isZ_new [1] _ hb1 rfl (by simp [maxLen]), by simp [World.cell?, hb3, wakeL], by simp [World.cell?, hb3, wakeL], by simp [World.cell?, hb3, wakeL], by simp [World.cell?, hb3, wakeL], by simp [World.cell?, hb3, wakeL]⟩
      | 3, _ => exact ⟨some ⟨w.heap.size + 2, 0, none⟩, 2, isZ_new [1, 0] _ hb2 rfl (by simp [maxLen]), by simp [World.cell?, hb3, wakeL], by simp [World.cell?, hb3, wakeL], by simp [World.cell?, hb3, wakeL], by simp [World.cell?, hb3, wakeL], by simp [World.cell?, hb3, wakeL]⟩
  have HBO := Lib.hid (born_is W _ _ _ _ hB)
  have HKW := Lib.hid hkW
  rw [HST.out.1] at HBO
  clear hW hW2 hkW hb0 hb1 hb2 hb3 hB
  refine HBO.out.mono ?_
  rintro e w1 ⟨⟨Hb, s, F, na, ia, ta, nc, ic, tc, S, rfl, hH⟩, hk1⟩
  have HH := Lib.hid hH
  have HK1 : Hid (Kept (fun _ => False) w w1) := Lib.hid (HKW.out.more hk1 (fun _ f => f.elim))
  have c0 := hH.c0
  have c2 := hH.c2
  rw [HST.out.2.1] at c2
  obtain ⟨ig, io, rfl, hig, hi3⟩ := hH.ids.at (k := 3) (by rw [HST.out.2.1]; omega)
  obtain ⟨ig', io', he, -, hi0⟩ := hH.ids.at (k := 0) (by rw [HST.out.2.1]; omega)
  cases he
  obtain ⟨y3, hy3⟩ : ∃ y, st.ids[3]'(by rw [HST.out.2.1]; omega) = y := ⟨_, rfl⟩
  obtain ⟨y0, hy0⟩ : ∃ y, st.ids[0]'(by rw [HST.out.2.1]; omega) = y := ⟨_, rfl⟩
  rw [hy3] at hi3
  rw [hy0] at hi0
  have hg3 : st.ids.getD 3 0 = y3 := by rw [List.getD_eq_getElem?_getD, List.getElem?_eq_getElem (by rw [HST.out.2.1]; omega)]; exact hy3
  have hg0 : st.ids.getD 0 0 = y0 := by rw [List.getD_eq_getElem?_getD, List.getElem?_eq_getElem (by rw [HST.out.2.1]; omega)]; exact hy0
  have HM0 : Hid (y0 ∈ st.ids ∧ y3 ∈ st.ids) := Lib.hid ⟨by rw [← hy0]; exact List.getElem_mem _, by rw [← hy3]; exact List.getElem_mem _⟩
  have HOR : Hid (orderR (nodesO st.os) st.os.length [y3] = .ok st.ids ∧ orderR (nodesO st.os) st.os.length [y0, y3] = .ok o1) := Lib.hid (by rw [← hg3, ← hg0]; exact HST.out.2.2)
  have h64 : y0 < 18446744073709551616 ∧ y3 < 18446744073709551616 := ⟨(HH.out.ok.ids _ HM0.out.1).2.2, (HH.out.ok.ids _ HM0.out.2).2.2⟩
  have hos : st.os.length ≤ 100000 := by have := hH.sl.2.1; omega
  have HCA : Hid (∀ W, Kept (fun _ => False) w1 W → Calls Tryz.prog 12 #[.pointer (some ⟨s, 0, none⟩), .slice (some ⟨W.heap.size, 0, none⟩) 1 1] (W.alloc (.cells #[.int .u64 y3] 37)) fun e w' => orderE w' (W.heap.size + 1) e (.ok st.ids) ∧ Kept (fun _ => False) W w') := Lib.hid (fun W hk => by
    have hkA : Kept (fun _ => False) W (W.alloc (.cells #[.int .u64 y3] 37)) := (Kept.refl _ _).alloc _
    have h9 := order_any (((HH.out.kept hk).kept hkA).ob) hos _ _ [y3] (ids_new W [y3] (by simp [h64.2]) (by simp [maxLen]) _ rfl)
    rw [HOR.out.1] at h9
    refine h9.mono ?_
    rintro e w' ⟨h1, h2⟩
    rw [show (W.alloc (.cells #[.int .u64 y3] 37)).heap.size = W.heap.size + 1 from by simp] at h1
    exact ⟨h1, hkA.more h2 (fun _ f => f.elim)⟩)
  have HCB : Hid (∀ W, Kept (fun _ => False) w1 W → Calls Tryz.prog 13 #[.pointer (some ⟨s, 0, none⟩), .int .u64 y0, .int .u64 y3] W fun e w' => e = .returned (.tuple #[.bool true, .int .i64 0]) ∧ Kept (fun _ => False) W w') := Lib.hid (fun W hk => by
    have h9 := ancestor_any ((HH.out.kept hk).ob) hos y0 y3 h64.1 h64.2
    rw [HOR.out.2] at h9
    refine h9.mono ?_
    rintro e w' ⟨⟨o, h1, rfl⟩, h2⟩
    rw [HOR.out.1] at h1
    cases h1
    refine ⟨?_, h2⟩
    rw [show decide (y0 ∈ st.ids) = true from by simpa using HM0.out.1])
  clear hy3 hy0 hg3 hg0 h64 hH hk1 hos hig
  go_wp2_with fail
  have HS0 : w1.drew.cell? ⟨Hb, 0, none⟩ = some (.pointer (some ⟨s, 0, none⟩)) ∧ w1.drew.cell? ⟨Hb, 2, none⟩ = some (.slice (some ⟨ig, io, none⟩) 4 ic) ∧ w1.drew.cell? ⟨ig, io + 3, none⟩ = some (.int .u64 y3) := ⟨c0, c2, hi3⟩
  have hkd : Kept (fun _ => False) w1 w1.drew := (Kept.refl _ _).drew
  have hkA : Kept (fun _ => False) w1.drew (w1.drew.alloc (.cells #[.int .u64 y3] 37)) := (Kept.refl _ _).alloc _
  have HS1 : (w1.drew.alloc (.cells #[.int .u64 y3] 37)).cell? ⟨Hb, 0, none⟩ = some (.pointer (some ⟨s, 0, none⟩)) ∧ (w1.drew.alloc (.cells #[.int .u64 y3] 37)).cell? ⟨Hb, 2, none⟩ = some (.slice (some ⟨ig, io, none⟩) 4 ic) ∧ (w1.drew.alloc (.cells #[.int .u64 y3] 37)).cell? ⟨ig, io + 3, none⟩ = some (.int .u64 y3) := ⟨hkA.cell HS0.1 (fun f => f), hkA.cell HS0.2.1 (fun f => f), hkA.cell HS0.2.2 (fun f => f)⟩
  refine wp_region_phase (fun w' => w'.cell? ⟨Hb, 0, none⟩ = some (.pointer (some ⟨s, 0, none⟩)) ∧ w'.cell? ⟨Hb, 2, none⟩ = some (.slice (some ⟨ig, io, none⟩) 4 ic) ∧ w'.cell? ⟨ig, io + 3, none⟩ = some (.int .u64 y3)) (fun _ => false) (by kernel_rfl) HS0 (fun _ => ?_)
  refine wpAnyG_take (i := 0) (v := ?_) rfl (by kernel_rfl) (by kernel_rfl) (by kernel_rfl) (by kernel_rfl) (fun _ _ _ h => h) (Or.inl ⟨by rfl, ?_⟩) HS0 ?_
  rotate_left
  (intro w' hSw'; have ⟨_, _, _⟩ := hSw'; go_simp; try with_reducible rfl)
  try simp only [Act.put, List.setIfInBounds_toArray, List.set_cons_zero, List.set_cons_succ, List.getElem_toArray, List.getElem_cons_zero, List.getElem_cons_succ]
  refine wpAnyG_take (i := 1) (v := ?_) rfl (by kernel_rfl) (by kernel_rfl) (by kernel_rfl) (by kernel_rfl) (fun _ _ _ h => h) (Or.inl ⟨by rfl, ?_⟩) HS0 ?_
  rotate_left
  (intro w' hSw'; have ⟨_, _, _⟩ := hSw'; go_simp; try with_reducible rfl)
  try simp only [Act.put, List.setIfInBounds_toArray, List.set_cons_zero, List.set_cons_succ, List.getElem_toArray, List.getElem_cons_zero, List.getElem_cons_succ]
  refine wpAnyG_take (i := 2) (v := ?_) rfl (by kernel_rfl) (by kernel_rfl) (by kernel_rfl) (by kernel_rfl) (fun _ _ _ h => h) (Or.inl ⟨by rfl, ?_⟩) HS0 ?_
  rotate_left
  (intro w' hSw'; have ⟨_, _, _⟩ := hSw'; go_simp; try with_reducible rfl)
  try simp only [Act.put, List.setIfInBounds_toArray, List.set_cons_zero, List.set_cons_succ, List.getElem_toArray, List.getElem_cons_zero, List.getElem_cons_succ]
  refine wpAnyG_take (i := 3) (v := ?_) rfl (by kernel_rfl) (by kernel_rfl) (by kernel_rfl) (by kernel_rfl) (fun _ _ _ h => h) (Or.inl ⟨by rfl, ?_⟩) HS0 ?_
  rotate_left
  (intro w' hSw'; have ⟨_, _, _⟩ := hSw'; go_simp; try with_reducible rfl)
  try simp only [Act.put, List.setIfInBounds_toArray, List.set_cons_zero, List.set_cons_succ, List.getElem_toArray, List.getElem_cons_zero, List.getElem_cons_succ]
  refine wpAnyG_take (i := 4) (v := ?_) rfl (by kernel_rfl) (by kernel_rfl) (by kernel_rfl) (by kernel_rfl) (fun _ _ _ h => h) (Or.inl ⟨by rfl, ?_⟩) HS0 ?_
  rotate_left
  (intro w' hSw'; have ⟨_, _, _⟩ := hSw'; go_simp; try with_reducible rfl)
  try simp only [Act.put, List.setIfInBounds_toArray, List.set_cons_zero, List.set_cons_succ, List.getElem_toArray, List.getElem_cons_zero, List.getElem_cons_succ]
  refine wpAnyG_take (i := 5) (v := ?_) rfl (by kernel_rfl) (by kernel_rfl) (by kernel_rfl) (by kernel_rfl) (fun _ _ _ h => h) (Or.inl ⟨by rfl, ?_⟩) HS0 ?_
  rotate_left
  (intro w' hSw'; have ⟨_, _, _⟩ := hSw'; go_simp; try with_reducible rfl)
  try simp only [Act.put, List.setIfInBounds_toArray, List.set_cons_zero, List.set_cons_succ, List.getElem_toArray, List.getElem_cons_zero, List.getElem_cons_succ]
  refine wpAnyG_take (i := 6) (v := ?_) rfl (by kernel_rfl) (by kernel_rfl) (by kernel_rfl) (by kernel_rfl) (fun _ _ _ h => h) (Or.inl ⟨by rfl, ?_⟩) HS0 ?_
  rotate_left
  (intro w' hSw'; have ⟨_, _, _⟩ := hSw'; go_simp; try with_reducible rfl)
  try simp only [Act.put, List.setIfInBounds_toArray, List.set_cons_zero, List.set_cons_succ, List.getElem_toArray, List.getElem_cons_zero, List.getElem_cons_succ]
  refine wpAnyG_take (i := 7) (v := ?_) rfl (by kernel_rfl) (by kernel_rfl) (by kernel_rfl) (by kernel_rfl) (fun _ _ _ h => h) (Or.inl ⟨by rfl, ?_⟩) HS0 ?_
  rotate_left
  (intro w' hSw'; have ⟨_, _, _⟩ := hSw'; go_simp; try with_reducible rfl)
  try simp only [Act.put, List.setIfInBounds_toArray, List.set_cons_zero, List.set_cons_succ, List.getElem_toArray, List.getElem_cons_zero, List.getElem_cons_succ]
  refine wpAnyG_take (i := 8) (v := ?_) rfl (by kernel_rfl) (by kernel_rfl) (by kernel_rfl) (by kernel_rfl) (fun _ _ _ h => h) (Or.inl ⟨by rfl, ?_⟩) HS0 ?_
  rotate_left
  (intro w' hSw'; have ⟨_, _, _⟩ := hSw'; go_simp; try with_reducible rfl)
  try simp only [Act.put, List.setIfInBounds_toArray, List.set_cons_zero, List.set_cons_succ, List.getElem_toArray, List.getElem_cons_zero, List.getElem_cons_succ]
  refine wpAnyG_take (i := 9) (v := ?_) rfl (by kernel_rfl) (by kernel_rfl) (by kernel_rfl) (by kernel_rfl) (fun _ _ _ h => h) (Or.inl ⟨by rfl, ?_⟩) HS0 ?_
  rotate_left
  (intro w' hSw'; have ⟨_, _, _⟩ := hSw'; go_simp; try with_reducible rfl)
  try simp only [Act.put, List.setIfInBounds_toArray, List.set_cons_zero, List.set_cons_succ, List.getElem_toArray, List.getElem_cons_zero, List.getElem_cons_succ]
  refine wpAnyG_ready (rs := [10]) (by kernel_rfl) (by simp) ?_
  refine AllG.cons rfl (ph' := false) (by kernel_rfl) (fun K hK => ?_) AllG.nil
  go_simp
  refine hK.out _ _ (fun _ => HS1) ?_
  clear hK K
  try simp only [Act.put, List.setIfInBounds_toArray, List.set_cons_zero, List.set_cons_succ, List.getElem_toArray, List.getElem_cons_zero, List.getElem_cons_succ]
  have HCA2 := Lib.hid (HCA.out w1.drew hkd)
  refine wpAnyG_ready (rs := [11]) (by kernel_rfl) (by simp) ?_
  refine AllG.cons rfl (ph' := false) (by kernel_rfl) (fun K hK => ?_) AllG.nil
  go_simp
  go_at_call 12
  refine HCA2.out.mono ?_
  rintro e w5 ⟨⟨v, rfl, ho⟩, hk5⟩
  obtain ⟨va, vc, hv, -, -⟩ := ho.form
  rw [HST.out.2.1] at hv
  subst hv
  have HOV := Lib.hid ho
  have HS5 : w5.cell? ⟨Hb, 0, none⟩ = some (.pointer (some ⟨s, 0, none⟩)) ∧ w5.cell? ⟨Hb, 2, none⟩ = some (.slice (some ⟨ig, io, none⟩) 4 ic) ∧ w5.cell? ⟨ig, io + 3, none⟩ = some (.int .u64 y3) := ⟨hk5.cell HS0.1 (fun f => f), hk5.cell HS0.2.1 (fun f => f), hk5.cell HS0.2.2 (fun f => f)⟩
  have HK5 : Hid (Kept (fun _ => False) w1 w5) := Lib.hid (hkd.more hk5 (fun _ f => f.elim))
  refine hK.out _ _ (fun _ => HS5) ?_
  clear hK K
  try simp only [Act.put, List.setIfInBounds_toArray, List.set_cons_zero, List.set_cons_succ, List.getElem_toArray, List.getElem_cons_zero, List.getElem_cons_succ]
  refine wpAnyG_takeU (i := 12) (v := ?_) rfl (by kernel_rfl) (by kernel_rfl) (by kernel_rfl) (by kernel_rfl) (fun _ _ _ h => h) (Or.inl ⟨by rfl, ?_⟩) (fun _ => HS5) ?_
  rotate_left
  (intro w' hSw'; go_simp; try with_reducible rfl)
  try simp only [Act.put, List.setIfInBounds_toArray, List.set_cons_zero, List.set_cons_succ, List.getElem_toArray, List.getElem_cons_zero, List.getElem_cons_succ]
  refine wpAnyG_takeU (i := 13) (v := ?_) rfl (by kernel_rfl) (by kernel_rfl) (by kernel_rfl) (by kernel_rfl) (fun _ _ _ h => h) (Or.inl ⟨by rfl, ?_⟩) (fun _ => HS5) ?_
  rotate_left
  (intro w' hSw'; go_simp; try with_reducible rfl)
  try simp only [Act.put, List.setIfInBounds_toArray, List.set_cons_zero, List.set_cons_succ, List.getElem_toArray, List.getElem_cons_zero, List.getElem_cons_succ]
  refine wpAnyG_takeU (i := 14) (v := ?_) rfl (by kernel_rfl) (by kernel_rfl) (by kernel_rfl) (by kernel_rfl) (fun _ _ _ h => h) (Or.inl ⟨by rfl, ?_⟩) (fun _ => HS5) ?_
  rotate_left
  (intro w' hSw'; go_simp; try with_reducible rfl)
  try simp only [Act.put, List.setIfInBounds_toArray, List.set_cons_zero, List.set_cons_succ, List.getElem_toArray, List.getElem_cons_zero, List.getElem_cons_succ]
  refine wpAnyG_ready (rs := [15]) (by kernel_rfl) (by simp) ?_
  refine AllG.cons rfl (ph' := false) (by kernel_rfl) (fun K hK => ?_) AllG.nil
  go_simp
  refine hK.out _ _ (fun _ => HS5) ?_
  clear hK K
  try simp only [Act.put, List.setIfInBounds_toArray, List.set_cons_zero, List.set_cons_succ, List.getElem_toArray, List.getElem_cons_zero, List.getElem_cons_succ]
  refine wpAnyG_ready (rs := [16]) (by kernel_rfl) (by simp) ?_
  refine AllG.cons rfl (ph' := false) (by kernel_rfl) (fun K hK => ?_) AllG.nil
  go_simp
  refine hK.out _ _ (fun _ => HS5) ?_
  clear hK K
  try simp only [Act.put, List.setIfInBounds_toArray, List.set_cons_zero, List.set_cons_succ, List.getElem_toArray, List.getElem_cons_zero, List.getElem_cons_succ]
  refine wpAnyG_done (by kernel_rfl) ?_ _
  clear HS0 HS1 hkA hkd c0 c2 hi3 HCA2 ho hk5
  have hi0' : w5.cell? ⟨ig, io + 0, none⟩ = some (.int .u64 y0) := HK5.out.cell hi0 (fun f => f)
  rw [Nat.add_zero] at hi0'
  clear hi0
  go_wp2_with fail
  have HT0 : w5.drew.cell? ⟨Hb, 0, none⟩ = some (.pointer (some ⟨s, 0, none⟩)) ∧ w5.drew.cell? ⟨Hb, 2, none⟩ = some (.slice (some ⟨ig, io, none⟩) 4 ic) ∧ w5.drew.cell? ⟨ig, io + 3, none⟩ = some (.int .u64 y3) ∧ w5.drew.cell? ⟨ig, io, none⟩ = some (.int .u64 y0) := ⟨HS5.1, HS5.2.1, HS5.2.2, hi0'⟩
  have hkd : Kept (fun _ => False) w5 w5.drew := (Kept.refl _ _).drew
  have HCB2 := Lib.hid (HCB.out w5.drew (HK5.out.trans hkd (fun _ _ f => f)))
  refine wp_region_phase (fun w' => w'.cell? ⟨Hb, 0, none⟩ = some (.pointer (some ⟨s, 0, none⟩)) ∧ w'.cell? ⟨Hb, 2, none⟩ = some (.slice (some ⟨ig, io, none⟩) 4 ic) ∧ w'.cell? ⟨ig, io + 3, none⟩ = some (.int .u64 y3) ∧ w'.cell? ⟨ig, io, none⟩ = some (.int .u64 y0)) (fun _ => false) (by kernel_rfl) HT0 (fun _ => ?_)
  refine wpAnyG_take (i := 0) (v := ?_) rfl (by kernel_rfl) (by kernel_rfl) (by kernel_rfl) (by kernel_rfl) (fun _ _ _ h => h) (Or.inl ⟨by rfl, ?_⟩) HT0 ?_
  rotate_left
  (intro w' hSw'; have ⟨_, _, _, _⟩ := hSw'; go_simp; try with_reducible rfl)
  try simp only [Act.put, List.setIfInBounds_toArray, List.set_cons_zero, List.set_cons_succ, List.getElem_toArray, List.getElem_cons_zero, List.getElem_cons_succ]
  refine wpAnyG_take (i := 1) (v := ?_) rfl (by kernel_rfl) (by kernel_rfl) (by kernel_rfl) (by kernel_rfl) (fun _ _ _ h => h) (Or.inl ⟨by rfl, ?_⟩) HT0 ?_
  rotate_left
  (intro w' hSw'; have ⟨_, _, _, _⟩ := hSw'; go_simp; try with_reducible rfl)
  try simp only [Act.put, List.setIfInBounds_toArray, List.set_cons_zero, List.set_cons_succ, List.getElem_toArray, List.getElem_cons_zero, List.getElem_cons_succ]
  refine wpAnyG_take (i := 2) (v := ?_) rfl (by kernel_rfl) (by kernel_rfl) (by kernel_rfl) (by kernel_rfl) (fun _ _ _ h => h) (Or.inl ⟨by rfl, ?_⟩) HT0 ?_
  rotate_left
  (intro w' hSw'; have ⟨_, _, _, _⟩ := hSw'; go_simp; try with_reducible rfl)
  try simp only [Act.put, List.setIfInBounds_toArray, List.set_cons_zero, List.set_cons_succ, List.getElem_toArray, List.getElem_cons_zero, List.getElem_cons_succ]
  refine wpAnyG_take (i := 3) (v := ?_) rfl (by kernel_rfl) (by kernel_rfl) (by kernel_rfl) (by kernel_rfl) (fun _ _ _ h => h) (Or.inl ⟨by rfl, ?_⟩) HT0 ?_
  rotate_left
  (intro w' hSw'; have ⟨_, _, _, _⟩ := hSw'; go_simp; try with_reducible rfl)
  try simp only [Act.put, List.setIfInBounds_toArray, List.set_cons_zero, List.set_cons_succ, List.getElem_toArray, List.getElem_cons_zero, List.getElem_cons_succ]
  refine wpAnyG_take (i := 4) (v := ?_) rfl (by kernel_rfl) (by kernel_rfl) (by kernel_rfl) (by kernel_rfl) (fun _ _ _ h => h) (Or.inl ⟨by rfl, ?_⟩) HT0 ?_
  rotate_left
  (intro w' hSw'; have ⟨_, _, _, _⟩ := hSw'; go_simp; try with_reducible rfl)
  try simp only [Act.put, List.setIfInBounds_toArray, List.set_cons_zero, List.set_cons_succ, List.getElem_toArray, List.getElem_cons_zero, List.getElem_cons_succ]
  refine wpAnyG_take (i := 5) (v := ?_) rfl (by kernel_rfl) (by kernel_rfl) (by kernel_rfl) (by kernel_rfl) (fun _ _ _ h => h) (Or.inl ⟨by rfl, ?_⟩) HT0 ?_
  rotate_left
  (intro w' hSw'; have ⟨_, _, _, _⟩ := hSw'; go_simp; try with_reducible rfl)
  try simp only [Act.put, List.setIfInBounds_toArray, List.set_cons_zero, List.set_cons_succ, List.getElem_toArray, List.getElem_cons_zero, List.getElem_cons_succ]
  refine wpAnyG_take (i := 6) (v := ?_) rfl (by kernel_rfl) (by kernel_rfl) (by kernel_rfl) (by kernel_rfl) (fun _ _ _ h => h) (Or.inl ⟨by rfl, ?_⟩) HT0 ?_
  rotate_left
  (intro w' hSw'; have ⟨_, _, _, _⟩ := hSw'; go_simp; try with_reducible rfl)
  try simp only [Act.put, List.setIfInBounds_toArray, List.set_cons_zero, List.set_cons_succ, List.getElem_toArray, List.getElem_cons_zero, List.getElem_cons_succ]
  refine wpAnyG_take (i := 7) (v := ?_) rfl (by kernel_rfl) (by kernel_rfl) (by kernel_rfl) (by kernel_rfl) (fun _ _ _ h => h) (Or.inl ⟨by rfl, ?_⟩) HT0 ?_
  rotate_left
  (intro w' hSw'; have ⟨_, _, _, _⟩ := hSw'; go_simp; try with_reducible rfl)
  try simp only [Act.put, List.setIfInBounds_toArray, List.set_cons_zero, List.set_cons_succ, List.getElem_toArray, List.getElem_cons_zero, List.getElem_cons_succ]
  refine wpAnyG_take (i := 8) (v := ?_) rfl (by kernel_rfl) (by kernel_rfl) (by kernel_rfl) (by kernel_rfl) (fun _ _ _ h => h) (Or.inl ⟨by rfl, ?_⟩) HT0 ?_
  rotate_left
  (intro w' hSw'; have ⟨_, _, _, _⟩ := hSw'; go_simp; try with_reducible rfl)
  try simp only [Act.put, List.setIfInBounds_toArray, List.set_cons_zero, List.set_cons_succ, List.getElem_toArray, List.getElem_cons_zero, List.getElem_cons_succ]
  refine wpAnyG_take (i := 9) (v := ?_) rfl (by kernel_rfl) (by kernel_rfl) (by kernel_rfl) (by kernel_rfl) (fun _ _ _ h => h) (Or.inl ⟨by rfl, ?_⟩) HT0 ?_
  rotate_left
  (intro w' hSw'; have ⟨_, _, _, _⟩ := hSw'; go_simp; try with_reducible rfl)
  try simp only [Act.put, List.setIfInBounds_toArray, List.set_cons_zero, List.set_cons_succ, List.getElem_toArray, List.getElem_cons_zero, List.getElem_cons_succ]
  refine wpAnyG_take (i := 10) (v := ?_) rfl (by kernel_rfl) (by kernel_rfl) (by kernel_rfl) (by kernel_rfl) (fun _ _ _ h => h) (Or.inl ⟨by rfl, ?_⟩) HT0 ?_
  rotate_left
  (intro w' hSw'; have ⟨_, _, _, _⟩ := hSw'; go_simp; try with_reducible rfl)
  try simp only [Act.put, List.setIfInBounds_toArray, List.set_cons_zero, List.set_cons_succ, List.getElem_toArray, List.getElem_cons_zero, List.getElem_cons_succ]
  refine wpAnyG_take (i := 11) (v := ?_) rfl (by kernel_rfl) (by kernel_rfl) (by kernel_rfl) (by kernel_rfl) (fun _ _ _ h => h) (Or.inl ⟨by rfl, ?_⟩) HT0 ?_
  rotate_left
  (intro w' hSw'; have ⟨_, _, _, _⟩ := hSw'; go_simp; try with_reducible rfl)
  try simp only [Act.put, List.setIfInBounds_toArray, List.set_cons_zero, List.set_cons_succ, List.getElem_toArray, List.getElem_cons_zero, List.getElem_cons_succ]
  refine wpAnyG_take (i := 12) (v := ?_) rfl (by kernel_rfl) (by kernel_rfl) (by kernel_rfl) (by kernel_rfl) (fun _ _ _ h => h) (Or.inl ⟨by rfl, ?_⟩) HT0 ?_
  rotate_left
  (intro w' hSw'; have ⟨_, _, _, _⟩ := hSw'; go_simp; try with_reducible rfl)
  try simp only [Act.put, List.setIfInBounds_toArray, List.set_cons_zero, List.set_cons_succ, List.getElem_toArray, List.getElem_cons_zero, List.getElem_cons_succ]
  refine wpAnyG_take (i := 13) (v := ?_) rfl (by kernel_rfl) (by kernel_rfl) (by kernel_rfl) (by kernel_rfl) (fun _ _ _ h => h) (Or.inl ⟨by rfl, ?_⟩) HT0 ?_
  rotate_left
  (intro w' hSw'; have ⟨_, _, _, _⟩ := hSw'; go_simp; try with_reducible rfl)
  try simp only [Act.put, List.setIfInBounds_toArray, List.set_cons_zero, List.set_cons_succ, List.getElem_toArray, List.getElem_cons_zero, List.getElem_cons_succ]
  refine wpAnyG_take (i := 14) (v := ?_) rfl (by kernel_rfl) (by kernel_rfl) (by kernel_rfl) (by kernel_rfl) (fun _ _ _ h => h) (Or.inl ⟨by rfl, ?_⟩) HT0 ?_
  rotate_left
  (intro w' hSw'; have ⟨_, _, _, _⟩ := hSw'; go_simp; try with_reducible rfl)
  try simp only [Act.put, List.setIfInBounds_toArray, List.set_cons_zero, List.set_cons_succ, List.getElem_toArray, List.getElem_cons_zero, List.getElem_cons_succ]
  refine wpAnyG_take (i := 15) (v := ?_) rfl (by kernel_rfl) (by kernel_rfl) (by kernel_rfl) (by kernel_rfl) (fun _ _ _ h => h) (Or.inl ⟨by rfl, ?_⟩) HT0 ?_
  rotate_left
  (intro w' hSw'; have ⟨_, _, _, _⟩ := hSw'; go_simp; try with_reducible rfl)
  try simp only [Act.put, List.setIfInBounds_toArray, List.set_cons_zero, List.set_cons_succ, List.getElem_toArray, List.getElem_cons_zero, List.getElem_cons_succ]
  refine wpAnyG_ready (rs := [16]) (by kernel_rfl) (by simp) ?_
  refine AllG.cons rfl (ph' := false) (by kernel_rfl) (fun K hK => ?_) AllG.nil
  go_simp
  go_at_call 13
  refine HCB2.out.mono ?_
  rintro e w6 ⟨rfl, hk6⟩
  have HT6 : w6.cell? ⟨Hb, 0, none⟩ = some (.pointer (some ⟨s, 0, none⟩)) ∧ w6.cell? ⟨Hb, 2, none⟩ = some (.slice (some ⟨ig, io, none⟩) 4 ic) ∧ w6.cell? ⟨ig, io + 3, none⟩ = some (.int .u64 y3) ∧ w6.cell? ⟨ig, io, none⟩ = some (.int .u64 y0) := ⟨hk6.cell HT0.1 (fun f => f), hk6.cell HT0.2.1 (fun f => f), hk6.cell HT0.2.2.1 (fun f => f), hk6.cell HT0.2.2.2 (fun f => f)⟩
  have HK6 : Hid (Kept (fun _ => False) w5 w6) := Lib.hid (hkd.more hk6 (fun _ f => f.elim))
  refine hK.out _ _ (fun _ => HT6) ?_
  clear hK K
  try simp only [Act.put, List.setIfInBounds_toArray, List.set_cons_zero, List.set_cons_succ, List.getElem_toArray, List.getElem_cons_zero, List.getElem_cons_succ]
  refine wpAnyG_takeU (i := 17) (v := ?_) rfl (by kernel_rfl) (by kernel_rfl) (by kernel_rfl) (by kernel_rfl) (fun _ _ _ h => h) (Or.inl ⟨by rfl, ?_⟩) (fun _ => HT6) ?_
  rotate_left
  (intro w' hSw'; go_simp; try with_reducible rfl)
  try simp only [Act.put, List.setIfInBounds_toArray, List.set_cons_zero, List.set_cons_succ, List.getElem_toArray, List.getElem_cons_zero, List.getElem_cons_succ]
  refine wpAnyG_takeU (i := 18) (v := ?_) rfl (by kernel_rfl) (by kernel_rfl) (by kernel_rfl) (by kernel_rfl) (fun _ _ _ h => h) (Or.inl ⟨by rfl, ?_⟩) (fun _ => HT6) ?_
  rotate_left
  (intro w' hSw'; go_simp; try with_reducible rfl)
  try simp only [Act.put, List.setIfInBounds_toArray, List.set_cons_zero, List.set_cons_succ, List.getElem_toArray, List.getElem_cons_zero, List.getElem_cons_succ]
  refine wpAnyG_takeU (i := 19) (v := ?_) rfl (by kernel_rfl) (by kernel_rfl) (by kernel_rfl) (by kernel_rfl) (fun _ _ _ h => h) (Or.inl ⟨by rfl, ?_⟩) (fun _ => HT6) ?_
  rotate_left
  (intro w' hSw'; go_simp; try with_reducible rfl)
  try simp only [Act.put, List.setIfInBounds_toArray, List.set_cons_zero, List.set_cons_succ, List.getElem_toArray, List.getElem_cons_zero, List.getElem_cons_succ]
  refine wpAnyG_ready (rs := [20]) (by kernel_rfl) (by simp) ?_
  refine AllG.cons rfl (ph' := false) (by kernel_rfl) (fun K hK => ?_) AllG.nil
  go_simp
  refine hK.out _ _ (fun _ => HT6) ?_
  clear hK K
  try simp only [Act.put, List.setIfInBounds_toArray, List.set_cons_zero, List.set_cons_succ, List.getElem_toArray, List.getElem_cons_zero, List.getElem_cons_succ]
  refine wpAnyG_ready (rs := [21]) (by kernel_rfl) (by simp) ?_
  refine AllG.cons rfl (ph' := false) (by kernel_rfl) (fun K hK => ?_) AllG.nil
  go_simp
  refine hK.out _ _ (fun _ => HT6) ?_
  clear hK K
  try simp only [Act.put, List.setIfInBounds_toArray, List.set_cons_zero, List.set_cons_succ, List.getElem_toArray, List.getElem_cons_zero, List.getElem_cons_succ]
  refine wpAnyG_done (by kernel_rfl) ?_ _
  obtain ⟨-, c2, -, -⟩ := HT6
  have hids := (HH.out.kept (HK5.out.trans HK6.out (fun _ _ f => f))).ids
  rw [HST.out.2.1] at hids
  have HSA := Lib.hid (same_any w6 va (some ⟨ig, io, none⟩) 4 vc 4 ic st.ids st.ids ((HOV.out.keptF HK6.out (fun _ _ f => f)).isI (fun x hx => (HH.out.ok.ids x hx).2.2)) hids)
  rw [show decide (st.ids = st.ids) = true from by simp] at HSA
  clear HS5 HT0 hids hkd HCB2 hi0' hk6
  go_wp2_with fail
  refine HSA.out.mono ?_
  rintro e w7 ⟨rfl, hk7⟩
  go_wp2_with fail
  go_ret
  exact ⟨rfl, (HK1.out.more HK5.out (fun _ f => f.elim)).more (HK6.out.more hk7 (fun _ f => f.elim)) (fun _ f => f.elim)⟩
end Go.Proofs.YtikacgiccllolaaGreat
