/- The tied card of espalierlaw08.RefsCut. -/
import Derived.Test.YtjnhkepgoghogaaDoorCards
import Derived.Test.YtjnhkepgoghogaaDoorTie
import Derived.Test.YtjnhkepgoghogaaDoorRowRefsCut
import Derived.SevenTiedAt
namespace Go.Proofs.YtjnhkepgoghogaaDoor
open Go
theorem RefsCut_holds : Rows.RefsCutCardSaid :=
  Claim7.holds_tied_plain_at .later [] [.data, .pinned] true (true, "c53c69b8abcdbb3e60d4816bbaa75959377ac26ec14230e47b22bed9b87e37d6") false
    RefsCut_row (fun _ h => by cases h) (by kernel_rfl) (fun _ h => by cases h) refsCut_row_tie rfl ⟨rfl, rfl⟩ (by kernel_rfl) rfl
    (fun f fn hf hfn => by
      obtain rfl : f = 5 := Option.some.inj ((show Tryd.prog.funcNamed "espalier/espalierlaw08.RefsCut" = some 5 by kernel_rfl).symm.trans hf) |>.symm
      obtain rfl : fn = Tryd.f5 := (Option.some.inj (Tryd.func5.symm.trans hfn)).symm
      exact ⟨by kernel_rfl, fun j t ht => by
        rw [Tryd.params5] at ht
        have hm : t ∈ [56, 3] := by simpa using Array.mem_of_getElem? ht
        have hall : ([56, 3].all fun u => !Tryd.prog.wantsStandIn u) = true := by kernel_rfl
        exact (show Tryd.prog.wantsStandIn t = false by simpa using List.all_eq_true.1 hall t hm)⟩)
    (by kernel_rfl)
#print axioms RefsCut_holds
end Go.Proofs.YtjnhkepgoghogaaDoor
