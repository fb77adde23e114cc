/- The tied card of espalierlaw18.MemoParts. -/
import Derived.SevenTiedAt
import Derived.Test.YtemilbemdlpkaaaGreatDoorCards
import Derived.Test.YtemilbemdlpkaaaGreatDoorTie
import Derived.Test.YtemilbemdlpkaaaGreatDoorPbz
namespace Go.Proofs.YtemilbemdlpkaaaGreatDoor
open Go
theorem MemoParts_holds : Rows.MemoPartsCardSaid :=
  Claim7.holds_tied_plain_at .later [] [.data, .data, .data] true (true, "150b5f815deb7600a8650705a2ea1c4a370cb9ce6c66b3025f62d9c20d048c4a") false
    MemoParts_row (fun _ h => by cases h) (by kernel_rfl) (fun _ h => by cases h) memoParts_row_tie rfl ⟨rfl, rfl⟩ (by kernel_rfl) rfl
    (fun f fn hf hfn => by
      obtain rfl : f = 3 := Option.some.inj ((show Tryz.prog.funcNamed "espalier/espalierlaw18.MemoParts" = some 3 by kernel_rfl).symm.trans hf) |>.symm
      obtain rfl : fn = Tryz.f3 := (Option.some.inj (Tryz.func3.symm.trans hfn)).symm
      exact ⟨by kernel_rfl, fun j t ht => by
        rw [Tryz.params3] at ht
        have hm : t ∈ [22, 23] := by simpa using Array.mem_of_getElem? ht
        have hall : ([22, 23].all fun u => !Tryz.prog.wantsStandIn u) = true := by kernel_rfl
        exact (show Tryz.prog.wantsStandIn t = false by simpa using List.all_eq_true.1 hall t hm)⟩)
    (by kernel_rfl)
#print axioms MemoParts_holds
end Go.Proofs.YtemilbemdlpkaaaGreatDoor
