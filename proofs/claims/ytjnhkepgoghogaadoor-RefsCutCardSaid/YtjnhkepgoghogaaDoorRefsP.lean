/- refs.All's function value; at no refs it tells nothing. -/
import Derived.Test.YtjnhkepgoghogaaDoorRefsO
namespace Go.Proofs.YtjnhkepgoghogaaDoor
open Go.RowKit Go.ChangeMaps Go.MapKept
set_option linter.unusedSimpArgs false
theorem rall_any (o : Option Addr) (w : World) : Calls Tryd.prog 25 #[.pointer o] w fun e w' => e = .returned (.func (.func 54) #[] #[.pointer (some ⟨w.heap.size, 0, none⟩)]) ∧ w' = w.alloc (.cells #[.pointer o] 39) := by
  go_enter Tryd.func25, Tryd.ntmps25
  go_wp2_with fail
  go_ret
  exact ⟨rfl, rfl⟩
theorem rall1Nil_any (y : Value) (B : Nat) (w : World) (h : w.cell? ⟨B, 0, none⟩ = some (.pointer none)) : Calls Tryd.prog 54 #[y, .pointer (some ⟨B, 0, none⟩)] w fun e w' => e = .returned (.tuple #[]) ∧ w' = w := by
  go_enter Tryd.func54, Tryd.ntmps54
  go_wp2_with fail
  refine bodyPost_ret (results_none rfl _ _ _) rfl ?_
  exact ⟨rfl, rfl⟩
end Go.Proofs.YtjnhkepgoghogaaDoor
