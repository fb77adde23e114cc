/- espalierlaw11.GraphNone. -/
import Derived.Test.YtikacgiccllolaaGreatNil
import Derived.Test.YtikacgiccllolaaGreatWake
import Derived.Test.YtikacgiccllolaaGreatPhase
namespace Go.Proofs.YtikacgiccllolaaGreat
open Go.RowKit Go.ChangeMaps Go.MapKept

theorem wf_id {n : Int} (h : (Lit.int .u64 n).wf = true) : ∃ x : Nat, n = (x : Int) ∧ x < 18446744073709551616 := by
  simp only [Lit.wf, Bool.and_eq_true, decide_eq_true_eq] at h
  have h' : 0 ≤ n ∧ n ≤ 18446744073709551615 := h
  exact ⟨n.toNat, by omega, by omega⟩
theorem one_id (W : World) (a : Nat) (ha : a < 18446744073709551616) : IsI (W.alloc (.cells #[.int .u64 a] 37)) (.slice (some ⟨W.heap.size, 0, none⟩) 1 1) [a] := ids_new W [a] (by simp [ha]) (by simp [maxLen]) _ rfl
set_option maxRecDepth 100000 in
set_option maxHeartbeats 2000000 in
theorem none_law (w : World) (a b : Nat) (ha : a < 18446744073709551616) (hb : b < 18446744073709551616) :
    Calls Tryz.prog 4 #[.int .u64 a, .int .u64 b] w fun e w' => e = .returned (.bool true) ∧ Kept (fun _ => False) w w' := by
  go_enter Tryz.func4, Tryz.ntmps4
  go_wp2_with fail
  refine (wakes_any w).mono ?_
  rintro e w1 ⟨rfl, hk1⟩
  have HK1 := Lib.hid hk1
  clear hk1
  go_wp2_with fail
  refine (order_nil _ _).mono ?_
  rintro e w2 ⟨rfl, rfl⟩
  go_wp2_with fail
  refine (ancestor_nil _ a b).mono ?_
  rintro e w3 ⟨rfl, hk3⟩
  have HK3 : Hid (Kept (fun _ => False) w w3) := Lib.hid (HK1.out.trans (((Kept.refl _ _).alloc _).trans hk3 (fun _ _ f => f)) (fun _ _ f => f))
  clear hk3
  have HBT := Lib.hid (between_nil _ _ _ 1 1 1 1 [a] [b] ((one_id w3 a ha).keptN ((Kept.refl _ _).alloc (.cells #[.int .u64 b] 37))) (one_id (w3.alloc (.cells #[.int .u64 a] 37)) b hb) (by simp))
  rw [show (w3.alloc (.cells #[.int .u64 a] 37)).heap.size = w3.heap.size + 1 from by simp] at HBT
  go_wp2_with fail
  refine HBT.out.mono ?_
  rintro e w4 ⟨rfl, hk4⟩
  have HK4 : Hid (Kept (fun _ => False) w w4) := Lib.hid (HK3.out.trans (((((Kept.refl _ _).alloc _).alloc _)).trans hk4 (fun _ _ f => f)) (fun _ _ f => f))
  clear hk4 HBT
  go_wp2_with fail
  refine (roots_nil _ _).mono ?_
  rintro e w5 ⟨rfl, hk5⟩
  have HK5 : Hid (Kept (fun _ => False) w w5) := Lib.hid (HK4.out.trans (((Kept.refl _ _).alloc _).trans hk5 (fun _ _ f => f)) (fun _ _ f => f))
  clear hk5
  go_wp2_with fail
  refine (depth_nil _ a).mono ?_
  rintro e w6 ⟨rfl, hk6⟩
  have HK6 : Hid (Kept (fun _ => False) w w6) := Lib.hid (HK5.out.trans hk6 (fun _ _ f => f))
  clear hk6
  go_wp2_with fail
  refine (lines_nil _ a b).mono ?_
  rintro e w7 ⟨rfl, hk7⟩
  have HK7 : Hid (Kept (fun _ => False) w w7) := Lib.hid (HK6.out.trans hk7 (fun _ _ f => f))
  clear hk7
  go_wp2_with fail
  refine (reach_nil _ _).mono ?_
  rintro e w8 ⟨rfl, hk8⟩
  have HK8 : Hid (Kept (fun _ => False) w w8) := Lib.hid (HK7.out.trans (((Kept.refl _ _).alloc _).trans hk8 (fun _ _ f => f)) (fun _ _ f => f))
  clear hk8
  go_wp2_with fail
  refine (whole_nil _ a).mono ?_
  rintro e w9 ⟨rfl, hk9⟩
  have HK9 : Hid (Kept (fun _ => False) w w9) := Lib.hid (HK8.out.trans hk9 (fun _ _ f => f))
  clear hk9
  go_wp2_with fail
  refine (wakes_any w9).mono ?_
  rintro e w10 ⟨rfl, hk10⟩
  have HK10 : Hid (Kept (fun _ => False) w w10) := Lib.hid (HK9.out.trans hk10 (fun _ _ f => f))
  clear hk10
  go_wp2_with fail
  go_ret
  exact ⟨rfl, HK10.out⟩
end Go.Proofs.YtikacgiccllolaaGreat
