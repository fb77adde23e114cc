/- graph: a store that is not there. -/
import Derived.Test.YtikacgiccllolaaGreatIdsB
import Derived.Test.YtikacgiccllolaaGreatWalkA
namespace Go.Proofs.YtikacgiccllolaaGreat
open Go.RowKit Go.ChangeMaps Go.MapKept

theorem walk_nil (w : World) (v : Value) : Calls Tryz.prog 30 #[.pointer none, v] w fun e w' => e = .returned (.tuple #[.pointer none, .int .i64 1]) ∧ w = w' := by
  go_enter Tryz.func30, Tryz.ntmps30
  go_wp2
  go_ret2
  exact ⟨rfl, rfl⟩
theorem order_nil (w : World) (v : Value) : Calls Tryz.prog 12 #[.pointer none, v] w fun e w' => e = .returned (.tuple #[.slice none 0 0, .int .i64 1]) ∧ w = w' := by
  go_enter Tryz.func12, Tryz.ntmps12
  go_wp2_with fail
  refine (walk_nil _ _).mono ?_
  rintro e w' ⟨rfl, rfl⟩
  go_wp2
  go_ret2
  exact ⟨rfl, rfl⟩
theorem ancestor_nil (w : World) (a b : Nat) : Calls Tryz.prog 13 #[.pointer none, .int .u64 a, .int .u64 b] w fun e w' => e = .returned (.tuple #[.bool false, .int .i64 1]) ∧ Kept (fun _ => False) w w' := by
  go_enter Tryz.func13, Tryz.ntmps13
  go_wp2_with fail
  refine (walk_nil _ _).mono ?_
  rintro e w' ⟨rfl, rfl⟩
  go_wp2
  go_ret2
  exact ⟨rfl, (Kept.refl _ _).alloc _⟩
theorem roots_nil (w : World) (v : Value) : Calls Tryz.prog 15 #[.pointer none, v] w fun e w' => e = .returned (.tuple #[.slice none 0 0, .int .i64 1]) ∧ Kept (fun _ => False) w w' := by
  go_enter Tryz.func15, Tryz.ntmps15
  go_wp2_with fail
  refine (order_nil _ _).mono ?_
  rintro e w' ⟨rfl, rfl⟩
  go_wp2
  go_ret2
  exact ⟨rfl, (Kept.refl _ _).alloc _⟩
theorem depth_nil (w : World) (a : Nat) : Calls Tryz.prog 16 #[.pointer none, .int .u64 a] w fun e w' => e = .returned (.tuple #[.int .i64 0, .int .i64 1]) ∧ Kept (fun _ => False) w w' := by
  go_enter Tryz.func16, Tryz.ntmps16
  go_wp2_with fail
  refine (order_nil _ _).mono ?_
  rintro e w' ⟨rfl, rfl⟩
  go_wp2
  go_ret2
  exact ⟨rfl, (Kept.refl _ _).alloc _⟩
theorem lines_nil (w : World) (a b : Nat) : Calls Tryz.prog 17 #[.pointer none, .int .u64 a, .int .u64 b] w fun e w' => e = .returned (.tuple #[.int .i64 0, .int .i64 1]) ∧ Kept (fun _ => False) w w' := by
  go_enter Tryz.func17, Tryz.ntmps17
  go_wp2_with fail
  refine (walk_nil _ _).mono ?_
  rintro e w' ⟨rfl, rfl⟩
  go_wp2
  go_ret2
  exact ⟨rfl, (Kept.refl _ _).alloc _⟩
theorem reach_nil (w : World) (v : Value) : Calls Tryz.prog 9 #[.pointer none, v] w fun e w' => e = .returned (.tuple #[.slice none 0 0, .int .i64 1]) ∧ Kept (fun _ => False) w w' := by
  go_enter Tryz.func9, Tryz.ntmps9
  go_wp2_with fail
  refine (order_nil _ _).mono ?_
  rintro e w' ⟨rfl, rfl⟩
  go_wp2
  go_ret2
  exact ⟨rfl, Kept.refl _ _⟩
theorem whole_nil (w : World) (a : Nat) : Calls Tryz.prog 10 #[.pointer none, .int .u64 a] w fun e w' => e = .returned (.int .i64 1) ∧ Kept (fun _ => False) w w' := by
  go_enter Tryz.func10, Tryz.ntmps10
  go_wp2_with fail
  refine (order_nil _ _).mono ?_
  rintro e w' ⟨rfl, rfl⟩
  go_wp2
  go_ret
  exact ⟨rfl, (Kept.refl _ _).alloc _⟩
set_option maxRecDepth 100000 in
theorem between_nil (w : World) (a b : Option Addr) (n c n2 c2 : Nat) (hs ws : List Nat) (hI : IsI w (.slice a n c) hs) (hJ : IsI w (.slice b n2 c2) ws) (hl : hs.length + ws.length ≤ 1000) :
    Calls Tryz.prog 14 #[.pointer none, .slice a n c, .slice b n2 c2] w fun e w' => e = .returned (.tuple #[.slice none 0 0, .int .i64 1]) ∧ Kept (fun _ => False) w w' := by
  obtain ⟨rfl, -, -⟩ := hI.len
  obtain ⟨rfl, -, -⟩ := hJ.len
  obtain ⟨an, han⟩ : ∃ n, hs.length = n := ⟨_, rfl⟩
  obtain ⟨bn, hbn⟩ : ∃ n, ws.length = n := ⟨_, rfl⟩
  obtain ⟨w1, hw1⟩ : ∃ w1, w.alloc (.cells #[.slice a hs.length c, .slice b ws.length c2] 28) = w1 := ⟨_, rfl⟩
  have hk1 : Kept (fun _ => False) w w1 := by rw [← hw1]; exact (Kept.refl _ _).alloc _
  have hC := concat_any w1 w.heap.size 2 2 [hs, ws] rfl (by omega) (by simp; omega) (fun k hk => by
    match k, hk with
    | 0, _ => exact ⟨a, c, by rw [← hw1, World.cell?_alloc_new]; rfl, hI.keptN hk1⟩
    | 1, _ => exact ⟨b, c2, by rw [← hw1, World.cell?_alloc_new]; rfl, hJ.keptN hk1⟩)
  have HC := Lib.hid hC
  have HK1 := Lib.hid hk1
  rw [han, hbn] at hw1 ⊢
  clear hI hJ hC hk1 han hbn
  go_enter Tryz.func14, Tryz.ntmps14
  go_wp2_with fail
  refine HC.out.mono ?_
  rintro e w2 ⟨v2, rfl, -, hk2⟩
  have HK2 : Hid (Kept (fun _ => False) w w2) := Lib.hid (HK1.out.trans hk2 (fun _ _ f => f))
  clear hk2 hw1
  go_wp2_with fail
  refine (walk_nil _ _).mono ?_
  rintro e w' ⟨rfl, rfl⟩
  go_wp2
  go_ret2
  exact ⟨rfl, HK2.out⟩
end Go.Proofs.YtikacgiccllolaaGreat
