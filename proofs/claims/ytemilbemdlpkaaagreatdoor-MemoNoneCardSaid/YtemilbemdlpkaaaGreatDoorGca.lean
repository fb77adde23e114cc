/- The tied card of espalierlaw18.MemoNone. -/
import Derived.SevenTiedAt
import Derived.Test.YtemilbemdlpkaaaGreatDoorCards
import Derived.Test.YtemilbemdlpkaaaGreatDoorTie
import Derived.Test.YtemilbemdlpkaaaGreatDoorGbz
namespace Go.Proofs.YtemilbemdlpkaaaGreatDoor
open Go
theorem MemoNone_holds : Rows.MemoNoneCardSaid :=
  Claim7.holds_tied_plain_at .later [] [.data, .data, .data] true (true, "150b5f815deb7600a8650705a2ea1c4a370cb9ce6c66b3025f62d9c20d048c4a") false
    MemoNone_row (fun _ h => by cases h) (by kernel_rfl) (fun _ h => by cases h) memoNone_row_tie rfl ⟨rfl, rfl⟩ (by kernel_rfl) rfl
    (fun f fn hf hfn => by
      obtain rfl : f = 6 := Option.some.inj ((show Tryz.prog.funcNamed "espalier/espalierlaw18.MemoNone" = some 6 by kernel_rfl).symm.trans hf) |>.symm
      obtain rfl : fn = Tryz.f6 := (Option.some.inj (Tryz.func6.symm.trans hfn)).symm
      exact ⟨by kernel_rfl, fun j t ht => by
        rw [Tryz.params6] at ht
        have hm : t ∈ [35, 68] := by simpa using Array.mem_of_getElem? ht
        have hall : ([35, 68].all fun u => !Tryz.prog.wantsStandIn u) = true := by kernel_rfl
        exact (show Tryz.prog.wantsStandIn t = false by simpa using List.all_eq_true.1 hall t hm)⟩)
    (by kernel_rfl)
#print axioms MemoNone_holds
end Go.Proofs.YtemilbemdlpkaaaGreatDoor
