/- The tied card of espalierlaw08.RefsDoes. -/
import Derived.Test.YtjnhkepgoghogaaGreatDoorCards
import Derived.Test.YtjnhkepgoghogaaGreatDoorTie
import Derived.Test.YtjnhkepgoghogaaGreatDoorRowRefsDoes
import Derived.SevenTiedAt
namespace Go.Proofs.YtjnhkepgoghogaaGreatDoor
open Go
theorem RefsDoes_holds : Rows.RefsDoesCardSaid :=
  Claim7.holds_tied_plain_at .later [] [.data, .pinned] true (true, "05f1abbb4a2e868011133ec30f848d97b34c09d31bf04d52f6a0e359a6647af9") false
    RefsDoes_row (fun _ h => by cases h) (by kernel_rfl) (fun _ h => by cases h) refsDoes_row_tie rfl ⟨rfl, rfl⟩ (by kernel_rfl) rfl
    (fun f fn hf hfn => by
      obtain rfl : f = 3 := Option.some.inj ((show Tryz.prog.funcNamed "espalier/espalierlaw08.RefsDoes" = some 3 by kernel_rfl).symm.trans hf) |>.symm
      obtain rfl : fn = Tryz.f3 := (Option.some.inj (Tryz.func3.symm.trans hfn)).symm
      exact ⟨by kernel_rfl, fun j t ht => by
        rw [Tryz.params3] at ht
        have hm : t ∈ [22] := by simpa using Array.mem_of_getElem? ht
        have hall : ([22].all fun u => !Tryz.prog.wantsStandIn u) = true := by kernel_rfl
        exact (show Tryz.prog.wantsStandIn t = false by simpa using List.all_eq_true.1 hall t hm)⟩)
    (by kernel_rfl)
#print axioms RefsDoes_holds
end Go.Proofs.YtjnhkepgoghogaaGreatDoor
