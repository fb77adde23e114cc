/- The tied card of espalierlaw08.RefsNone. -/
import Derived.Test.YtjnhkepgoghogaaDoorCards
import Derived.Test.YtjnhkepgoghogaaDoorTie
import Derived.Test.YtjnhkepgoghogaaDoorRowRefsNone
import Derived.SevenTiedAt
namespace Go.Proofs.YtjnhkepgoghogaaDoor
open Go
theorem RefsNone_holds : Rows.RefsNoneCardSaid :=
  Claim7.holds_tied_plain_at .later [] [.data, .pinned] true (true, "c53c69b8abcdbb3e60d4816bbaa75959377ac26ec14230e47b22bed9b87e37d6") false
    RefsNone_row (fun _ h => by cases h) (by kernel_rfl) (fun _ h => by cases h) refsNone_row_tie rfl ⟨rfl, rfl⟩ (by kernel_rfl) rfl
    (fun f fn hf hfn => by
      obtain rfl : f = 6 := Option.some.inj ((show Tryd.prog.funcNamed "espalier/espalierlaw08.RefsNone" = some 6 by kernel_rfl).symm.trans hf) |>.symm
      obtain rfl : fn = Tryd.f6 := (Option.some.inj (Tryd.func6.symm.trans hfn)).symm
      exact ⟨by kernel_rfl, fun j t ht => by
        rw [Tryd.params6] at ht
        have hm : t ∈ [9, 46] := by simpa using Array.mem_of_getElem? ht
        have hall : ([9, 46].all fun u => !Tryd.prog.wantsStandIn u) = true := by kernel_rfl
        exact (show Tryd.prog.wantsStandIn t = false by simpa using List.all_eq_true.1 hall t hm)⟩)
    (by kernel_rfl)
#print axioms RefsNone_holds
end Go.Proofs.YtjnhkepgoghogaaDoor
