/- refs.All's function value; at no refs it tells nothing. -/
import Derived.Test.YtjnhkepgoghogaaGreatDoorRefsN
namespace Go.Proofs.YtjnhkepgoghogaaGreatDoor
open Go.RowKit Go.ChangeMaps Go.MapKept
set_option linter.unusedSimpArgs false
theorem rall_any (o : Option Addr) (w : World) : Calls Tryz.prog 39 #[.pointer o] w fun e w' => e = .returned (.func (.func 64) #[] #[.pointer (some ⟨w.heap.size, 0, none⟩)]) ∧ w' = w.alloc (.cells #[.pointer o] 26) := by
  go_enter Tryz.func39, Tryz.ntmps39
  go_wp2_with fail
  go_ret
  exact ⟨rfl, rfl⟩
theorem rall1Nil_any (y : Value) (B : Nat) (w : World) (h : w.cell? ⟨B, 0, none⟩ = some (.pointer none)) : Calls Tryz.prog 64 #[y, .pointer (some ⟨B, 0, none⟩)] w fun e w' => e = .returned (.tuple #[]) ∧ w' = w := by
  go_enter Tryz.func64, Tryz.ntmps64
  go_wp2_with fail
  refine bodyPost_ret (results_none rfl _ _ _) rfl ?_
  exact ⟨rfl, rfl⟩
end Go.Proofs.YtjnhkepgoghogaaGreatDoor
