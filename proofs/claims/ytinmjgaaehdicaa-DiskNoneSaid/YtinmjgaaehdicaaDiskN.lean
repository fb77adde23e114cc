/- disk: every call of a nil disk; espalierlaw02.DiskNone. -/
import Derived.Test.YtinmjgaaehdicaaLaw02A
namespace Go.Proofs.Ytinmjgaaehdicaa
open Go.RowKit Go.ChangeMaps Go.MapKept

def NoneEnd (w : World) (v : Value) (e : Ending) (w' : World) : Prop := e = .returned v ∧ Kept (fun _ => False) w w'

theorem none_read (s : ByteArray) (w : World) : Calls Try.prog 16 #[.pointer none, .string s] w (NoneEnd w (.tuple #[.slice none 0 0, .int .i64 1])) := by
  go_enter Try.func16, Try.ntmps16
  go_wp2
  go_ret2
  exact ⟨rfl, Kept.refl _ _⟩
theorem none_size (s : ByteArray) (w : World) : Calls Try.prog 24 #[.pointer none, .string s] w (NoneEnd w (.tuple #[.int .i64 0, .int .i64 1])) := by
  go_enter Try.func24, Try.ntmps24
  go_wp2
  go_ret2
  exact ⟨rfl, Kept.refl _ _⟩
theorem none_append (s : ByteArray) (v : Value) (w : World) : Calls Try.prog 13 #[.pointer none, .string s, v] w (NoneEnd w (.int .i64 1)) := by
  go_enter Try.func13, Try.ntmps13
  go_wp2_with fail
  go_step3
  go_wp2_with fail
  (try rw [Exit.noGoto_ret])
  go_ret
  exact ⟨rfl, ((Kept.refl _ _).alloc _).alloc _⟩
theorem none_truncate (s : ByteArray) (n : Int) (w : World) : Calls Try.prog 25 #[.pointer none, .string s, .int .i64 n] w (NoneEnd w (.int .i64 1)) := by
  go_enter Try.func25, Try.ntmps25
  go_wp2
  go_ret
  exact ⟨rfl, (((Kept.refl _ _).alloc _).alloc _).alloc _⟩
theorem none_rename (s t : ByteArray) (w : World) : Calls Try.prog 26 #[.pointer none, .string s, .string t] w (NoneEnd w (.int .i64 1)) := by
  go_enter Try.func26, Try.ntmps26
  go_wp2
  go_ret
  exact ⟨rfl, (((Kept.refl _ _).alloc _).alloc _).alloc _⟩
theorem none_remove (s : ByteArray) (w : World) : Calls Try.prog 27 #[.pointer none, .string s] w (NoneEnd w (.int .i64 1)) := by
  go_enter Try.func27, Try.ntmps27
  go_wp2
  go_ret
  exact ⟨rfl, ((Kept.refl _ _).alloc _).alloc _⟩
theorem none_cut (n : Int) (w : World) : Calls Try.prog 18 #[.pointer none, .int .i64 n] w (NoneEnd w (.int .i64 1)) := by
  go_enter Try.func18, Try.ntmps18
  go_wp2
  go_ret
  exact ⟨rfl, Kept.refl _ _⟩
theorem none_mend (w : World) : Calls Try.prog 23 #[.pointer none] w (NoneEnd w (.int .i64 1)) := by
  go_enter Try.func23, Try.ntmps23
  go_wp2
  go_ret
  exact ⟨rfl, Kept.refl _ _⟩
theorem none_cutting (w : World) : Calls Try.prog 22 #[.pointer none] w (NoneEnd w (.tuple #[.int .i64 0, .bool false])) := by
  go_enter Try.func22, Try.ntmps22
  go_wp2
  go_ret2
  exact ⟨rfl, Kept.refl _ _⟩
theorem none_copy (w : World) : Calls Try.prog 15 #[.pointer none] w (NoneEnd w (.pointer none)) := by
  go_enter Try.func15, Try.ntmps15
  go_wp2
  go_ret
  exact ⟨rfl, Kept.refl _ _⟩
theorem none_names (w : World) : Calls Try.prog 28 #[.pointer none] w (NoneEnd w (.slice none 0 0)) := by
  go_enter Try.func28, Try.ntmps28
  go_wp2
  go_ret
  exact ⟨rfl, Kept.refl _ _⟩
theorem none_writes (w : World) : Calls Try.prog 14 #[.pointer none] w (NoneEnd w (.int .i64 0)) := by
  go_enter Try.func14, Try.ntmps14
  go_wp2
  go_ret
  exact ⟨rfl, Kept.refl _ _⟩

theorem index_eight (k : Nat) (h : k < 8) (w : World) : (Instr.index 50 (.agg #[.int .i64 1, .int .i64 1, .int .i64 1, .int .i64 1, .int .i64 1, .int .i64 1, .int .i64 1, .int .i64 1]) (.int .i64 k)).run Try.prog w = .ok (.int .i64 1) w := by
  obtain rfl | rfl | rfl | rfl | rfl | rfl | rfl | rfl : k = 0 ∨ k = 1 ∨ k = 2 ∨ k = 3 ∨ k = 4 ∨ k = 5 ∨ k = 6 ∨ k = 7 := by omega
  all_goals kernel_rfl

set_option maxRecDepth 100000 in
set_option maxHeartbeats 1000000 in
theorem diskNone_any (w : World) (s : ByteArray) (n : Int) (v : Value) : Calls Try.prog 5 #[.string s, .int .i64 n, v] w (NoneEnd w (.bool true)) := by
  go_enter Try.func5, Try.ntmps5
  go_wp2_with (first
    | (go_at_call 11; refine (wakes02_any _).mono ?_; rintro e w1 ⟨rfl, hk1⟩)
    | (go_at_call 16; refine (none_read _ _).mono ?_; rintro e w2 ⟨rfl, hk2⟩)
    | (go_at_call 24; refine (none_size _ _).mono ?_; rintro e w3 ⟨rfl, hk3⟩)
    | (go_at_call 13; refine (none_append _ _ _).mono ?_; rintro e w4 ⟨rfl, hk4⟩)
    | (go_at_call 25; refine (none_truncate _ _ _).mono ?_; rintro e w5 ⟨rfl, hk5⟩)
    | (go_at_call 26; refine (none_rename _ _ _).mono ?_; rintro e w6 ⟨rfl, hk6⟩)
    | (go_at_call 27; refine (none_remove _ _).mono ?_; rintro e w7 ⟨rfl, hk7⟩)
    | (go_at_call 18; refine (none_cut _ _).mono ?_; rintro e w8 ⟨rfl, hk8⟩)
    | (go_at_call 23; refine (none_mend _).mono ?_; rintro e w9 ⟨rfl, hk9⟩))
  have hK : Kept (fun _ => False) w w9 := ((((((((hk1.more hk2 (fun _ h => h.elim)).more hk3 (fun _ h => h.elim)).more hk4 (fun _ h => h.elim)).more hk5 (fun _ h => h.elim)).more hk6 (fun _ h => h.elim)).more hk7 (fun _ h => h.elim)).more hk8 (fun _ h => h.elim)).more hk9 (fun _ h => h.elim))
  clear hk1 hk2 hk3 hk4 hk5 hk6 hk7 hk8 hk9
  go_loop [53] (fun i => ∃ k : Nat, k ≤ 8 ∧ i = .int .i64 k) (fun i => 8 - (intOf i).toNat)
  case atStart => exact ⟨0, by omega, rfl⟩
  case round =>
    obtain ⟨k, hk, rfl⟩ := hrel
    by_cases h8 : k < 8
    · have hi := index_eight k h8 w9
      go_wp2
      go_round
      case rel => exact ⟨k + 1, by omega, by go_num⟩
      case measure => simp [intOf]; omega
    · go_wp2_with (first
        | (go_at_call 22; refine (none_cutting _).mono ?_; rintro e w1 ⟨rfl, hk1⟩)
        | (go_at_call 15; refine (none_copy _).mono ?_; rintro e w2 ⟨rfl, hk2⟩)
        | (go_at_call 28; refine (none_names _).mono ?_; rintro e w3 ⟨rfl, hk3⟩)
        | (go_at_call 14; refine (none_writes _).mono ?_; rintro e w4 ⟨rfl, hk4⟩)
        | (go_at_call 11; refine (wakes02_any _).mono ?_; rintro e w5 ⟨rfl, hk5⟩))
      go_ret
      exact ⟨rfl, (((((hK.more hk1 (fun _ h => h.elim)).more hk2 (fun _ h => h.elim)).more hk3 (fun _ h => h.elim)).more hk4 (fun _ h => h.elim)).more hk5 (fun _ h => h.elim))⟩
end Go.Proofs.Ytinmjgaaehdicaa
