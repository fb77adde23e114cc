/- The tied card of espalierlaw08.RefsOpens. -/
import Derived.Test.YtjnhkepgoghogaaGreatDoorCards
import Derived.Test.YtjnhkepgoghogaaGreatDoorTie
import Derived.Test.YtjnhkepgoghogaaGreatDoorRowRefsOpens
import Derived.SevenTiedAt
namespace Go.Proofs.YtjnhkepgoghogaaGreatDoor
open Go
theorem RefsOpens_holds : Rows.RefsOpensCardSaid :=
  Claim7.holds_tied_plain_at .later [] [.data, .pinned] true (true, "05f1abbb4a2e868011133ec30f848d97b34c09d31bf04d52f6a0e359a6647af9") false
    RefsOpens_row (fun _ h => by cases h) (by kernel_rfl) (fun _ h => by cases h) refsOpens_row_tie rfl ⟨rfl, rfl⟩ (by kernel_rfl) rfl
    (fun f fn hf hfn => by
      obtain rfl : f = 4 := Option.some.inj ((show Tryz.prog.funcNamed "espalier/espalierlaw08.RefsOpens" = some 4 by kernel_rfl).symm.trans hf) |>.symm
      obtain rfl : fn = Tryz.f4 := (Option.some.inj (Tryz.func4.symm.trans hfn)).symm
      exact ⟨by kernel_rfl, fun j t ht => by
        rw [Tryz.params4] at ht
        have hm : t ∈ [33] := by simpa using Array.mem_of_getElem? ht
        have hall : ([33].all fun u => !Tryz.prog.wantsStandIn u) = true := by kernel_rfl
        exact (show Tryz.prog.wantsStandIn t = false by simpa using List.all_eq_true.1 hall t hm)⟩)
    (by kernel_rfl)
#print axioms RefsOpens_holds
end Go.Proofs.YtjnhkepgoghogaaGreatDoor
