/-
  No cell of these rows narrows 'for every input' (looked for: loops, veiled, ifaces, maps, wideKeys, modest, calm, conditions, laid).
  DERIVED. THE GIVEN ROWS OF THIS SEAT. 5 by the template 'for every input the law returns true; each argument reads behind the call as it read before'; 0 by the template 'total and deterministic' (their statements: YtikacgiccllolaaTotals.lean).
  GIVEN WITH THE SEED: the statements are not yours to turn. If you find one false, say at which input.
  Laid BY PROGRAM, IN A SANDBOX (cutbox-rows.mjs): the forced cells as the released guide's own fill.sh prints them over the translation 4e4b1c328b112987… (all of the seat's roots in one cut). By AI agents, Wed Nov 11 2026. No macro, syntax, notation, axiom, sorry.
-/
import Derived.Test.YtikacgiccllolaaChecked
import GoSem.Claim
import GoSem.ClaimJoined
import GoSem.ClaimMapViews
import Derived.JoinedTies
import Derived.KernelRfl
namespace Go.Proofs.Ytikacgiccllolaa
/- THE CELL 'sum', in the pinned program and in every row, IS THE sha256 OF THE DUMP (.gsa) THAT YtikacgiccllolaaProg.lean LOADS. Nothing in Lean hashes anything: it is a label: what it is worth is what the hold of that sum in a sandbox is worth. -/
noncomputable def Try.pinned : Pinned := { name := "ytikacgiccllolaa", sum := "4e4b1c328b11298734bc178a52a355a4dbf5b09d4881bbcbc628b80f8d8e6680", checked := Try.checked }
namespace Rows
def none {H : Type} : Left H := { results := [], args := [] }

/-- 'espalierlaw11.GraphOrders': WHATEVER THE INPUT: true; the input reads as it did. -/
def graphOrdersSpec : ChangeSpec := { name := "graphOrders", fn := fun _ => fun
  | [d1, d2] => { results := [.lit (.bool true)], args := [d1, d2] }
  | _ => none }
def graphOrdersRow : OpenClaim := { program := "ytikacgiccllolaa", sum := "4e4b1c328b11298734bc178a52a355a4dbf5b09d4881bbcbc628b80f8d8e6680", func := "espalier/espalierlaw11.GraphOrders", spec := "graphOrders", unfollowed := true, recurses := true, apart := false }
def GraphOrdersSaid : Prop := graphOrdersRow.holds Try.pinned (OpenSpec.ofChange graphOrdersSpec)

/-- ITS FALSE NEIGHBOUR: 'it returns false'. Refute it at one input. -/
def graphOrdersWrong : ChangeSpec := { name := "graphOrders", fn := fun _ => fun
  | [d1, d2] => { results := [.lit (.bool false)], args := [d1, d2] }
  | _ => none }
def GraphOrdersWrongFalsely : Prop := graphOrdersRow.holds Try.pinned (OpenSpec.ofChange graphOrdersWrong)

/-- 'espalierlaw11.GraphTells': WHATEVER THE INPUT: true; the input reads as it did. -/
def graphTellsSpec : ChangeSpec := { name := "graphTells", fn := fun _ => fun
  | [d1, d2, d3] => { results := [.lit (.bool true)], args := [d1, d2, d3] }
  | _ => none }
def graphTellsRow : OpenClaim := { program := "ytikacgiccllolaa", sum := "4e4b1c328b11298734bc178a52a355a4dbf5b09d4881bbcbc628b80f8d8e6680", func := "espalier/espalierlaw11.GraphTells", spec := "graphTells", unfollowed := true, recurses := true, apart := false }
def GraphTellsSaid : Prop := graphTellsRow.holds Try.pinned (OpenSpec.ofChange graphTellsSpec)

/-- ITS FALSE NEIGHBOUR: 'it returns false'. Refute it at one input. -/
def graphTellsWrong : ChangeSpec := { name := "graphTells", fn := fun _ => fun
  | [d1, d2, d3] => { results := [.lit (.bool false)], args := [d1, d2, d3] }
  | _ => none }
def GraphTellsWrongFalsely : Prop := graphTellsRow.holds Try.pinned (OpenSpec.ofChange graphTellsWrong)

/-- 'espalierlaw11.GraphLaws': WHATEVER THE INPUT: true; the input reads as it did. -/
def graphLawsSpec : ChangeSpec := { name := "graphLaws", fn := fun _ => fun
  | [d1, d2] => { results := [.lit (.bool true)], args := [d1, d2] }
  | _ => none }
def graphLawsRow : OpenClaim := { program := "ytikacgiccllolaa", sum := "4e4b1c328b11298734bc178a52a355a4dbf5b09d4881bbcbc628b80f8d8e6680", func := "espalier/espalierlaw11.GraphLaws", spec := "graphLaws", unfollowed := true, recurses := true, apart := false }
def GraphLawsSaid : Prop := graphLawsRow.holds Try.pinned (OpenSpec.ofChange graphLawsSpec)

/-- ITS FALSE NEIGHBOUR: 'it returns false'. Refute it at one input. -/
def graphLawsWrong : ChangeSpec := { name := "graphLaws", fn := fun _ => fun
  | [d1, d2] => { results := [.lit (.bool false)], args := [d1, d2] }
  | _ => none }
def GraphLawsWrongFalsely : Prop := graphLawsRow.holds Try.pinned (OpenSpec.ofChange graphLawsWrong)

/-- 'espalierlaw11.GraphBetween': WHATEVER THE INPUT: true; the input reads as it did. -/
def graphBetweenSpec : ChangeSpec := { name := "graphBetween", fn := fun _ => fun
  | [d1, d2, d3] => { results := [.lit (.bool true)], args := [d1, d2, d3] }
  | _ => none }
def graphBetweenRow : OpenClaim := { program := "ytikacgiccllolaa", sum := "4e4b1c328b11298734bc178a52a355a4dbf5b09d4881bbcbc628b80f8d8e6680", func := "espalier/espalierlaw11.GraphBetween", spec := "graphBetween", unfollowed := true, recurses := true, apart := false }
def GraphBetweenSaid : Prop := graphBetweenRow.holds Try.pinned (OpenSpec.ofChange graphBetweenSpec)

/-- ITS FALSE NEIGHBOUR: 'it returns false'. Refute it at one input. -/
def graphBetweenWrong : ChangeSpec := { name := "graphBetween", fn := fun _ => fun
  | [d1, d2, d3] => { results := [.lit (.bool false)], args := [d1, d2, d3] }
  | _ => none }
def GraphBetweenWrongFalsely : Prop := graphBetweenRow.holds Try.pinned (OpenSpec.ofChange graphBetweenWrong)

/-- 'espalierlaw11.GraphParts': WHATEVER THE INPUT: true; the input reads as it did. -/
def graphPartsSpec : ChangeSpec := { name := "graphParts", fn := fun _ => fun
  | [d1, d2, d3] => { results := [.lit (.bool true)], args := [d1, d2, d3] }
  | _ => none }
def graphPartsRow : OpenClaim := { program := "ytikacgiccllolaa", sum := "4e4b1c328b11298734bc178a52a355a4dbf5b09d4881bbcbc628b80f8d8e6680", func := "espalier/espalierlaw11.GraphParts", spec := "graphParts", unfollowed := true, recurses := true, apart := false }
def GraphPartsSaid : Prop := graphPartsRow.holds Try.pinned (OpenSpec.ofChange graphPartsSpec)

/-- ITS FALSE NEIGHBOUR: 'it returns false'. Refute it at one input. -/
def graphPartsWrong : ChangeSpec := { name := "graphParts", fn := fun _ => fun
  | [d1, d2, d3] => { results := [.lit (.bool false)], args := [d1, d2, d3] }
  | _ => none }
def GraphPartsWrongFalsely : Prop := graphPartsRow.holds Try.pinned (OpenSpec.ofChange graphPartsWrong)

/- THE SECOND FORM. 'bulk': how many values and letters a reading holds, each counted each time it is reached (what is shared counts as often as it is met; a slice's spare places count too). A statement '..UptoSaid' is the law's where the arguments, and the package variables that the reading takes, are together of bulk at most 1048576: NARROWER than '..Said'. Prove '..Said' where nothing that the law and all that it calls make is longer than what came in: it says more and counts as full. Else prove '..UptoSaid'. A law counts once. -/
mutual
def uptoBulk {H : Type} : DataW H → Nat
  | .lit (.string bytes) => bytes.length + 1
  | .lit _ => 1
  | .nil => 1
  | .ptr d => uptoBulk d + 1
  | .slice elems spare => uptoBulkAll elems + uptoBulkAll spare + 1
  | .agg parts => uptoBulkAll parts + 1
  | .iface _ d => uptoBulk d + 1
  | .map entries => uptoBulkEntries entries + 1
  | .held _ => 1
def uptoBulkAll {H : Type} : List (DataW H) → Nat
  | [] => 0
  | d :: r => uptoBulk d + uptoBulkAll r
def uptoBulkEntries {H : Type} : List (Lit × DataW H) → Nat
  | [] => 0
  | x :: r => uptoBulkEntry x + uptoBulkEntries r
def uptoBulkEntry {H : Type} : Lit × DataW H → Nat
  | (.string bytes, d) => bytes.length + uptoBulk d + 1
  | (_, d) => uptoBulk d + 1
 end
def uptoSmall : (H : Type) → List (DataW H) → Bool := fun _ ds => decide (uptoBulkAll ds ≤ 1048576)
def OpenSpec.upto (s : _root_.Go.ChangeSpec) : _root_.Go.OpenSpec := { _root_.Go.OpenSpec.ofChange s with cond := some uptoSmall }

/-- 'espalierlaw11.GraphOrders', WHERE WHAT IT READS IS OF BULK AT MOST 1048576: true; the input reads as it did. -/
def graphOrdersUptoRow : OpenClaim := { program := "ytikacgiccllolaa", sum := "4e4b1c328b11298734bc178a52a355a4dbf5b09d4881bbcbc628b80f8d8e6680", func := "espalier/espalierlaw11.GraphOrders", spec := "graphOrders", unfollowed := true, recurses := true, apart := false, narrowed := true }
def GraphOrdersUptoSaid : Prop := graphOrdersUptoRow.holds Try.pinned (OpenSpec.upto graphOrdersSpec)

/-- 'espalierlaw11.GraphTells', WHERE WHAT IT READS IS OF BULK AT MOST 1048576: true; the input reads as it did. -/
def graphTellsUptoRow : OpenClaim := { program := "ytikacgiccllolaa", sum := "4e4b1c328b11298734bc178a52a355a4dbf5b09d4881bbcbc628b80f8d8e6680", func := "espalier/espalierlaw11.GraphTells", spec := "graphTells", unfollowed := true, recurses := true, apart := false, narrowed := true }
def GraphTellsUptoSaid : Prop := graphTellsUptoRow.holds Try.pinned (OpenSpec.upto graphTellsSpec)

/-- 'espalierlaw11.GraphLaws', WHERE WHAT IT READS IS OF BULK AT MOST 1048576: true; the input reads as it did. -/
def graphLawsUptoRow : OpenClaim := { program := "ytikacgiccllolaa", sum := "4e4b1c328b11298734bc178a52a355a4dbf5b09d4881bbcbc628b80f8d8e6680", func := "espalier/espalierlaw11.GraphLaws", spec := "graphLaws", unfollowed := true, recurses := true, apart := false, narrowed := true }
def GraphLawsUptoSaid : Prop := graphLawsUptoRow.holds Try.pinned (OpenSpec.upto graphLawsSpec)

/-- 'espalierlaw11.GraphBetween', WHERE WHAT IT READS IS OF BULK AT MOST 1048576: true; the input reads as it did. -/
def graphBetweenUptoRow : OpenClaim := { program := "ytikacgiccllolaa", sum := "4e4b1c328b11298734bc178a52a355a4dbf5b09d4881bbcbc628b80f8d8e6680", func := "espalier/espalierlaw11.GraphBetween", spec := "graphBetween", unfollowed := true, recurses := true, apart := false, narrowed := true }
def GraphBetweenUptoSaid : Prop := graphBetweenUptoRow.holds Try.pinned (OpenSpec.upto graphBetweenSpec)

/-- 'espalierlaw11.GraphParts', WHERE WHAT IT READS IS OF BULK AT MOST 1048576: true; the input reads as it did. -/
def graphPartsUptoRow : OpenClaim := { program := "ytikacgiccllolaa", sum := "4e4b1c328b11298734bc178a52a355a4dbf5b09d4881bbcbc628b80f8d8e6680", func := "espalier/espalierlaw11.GraphParts", spec := "graphParts", unfollowed := true, recurses := true, apart := false, narrowed := true }
def GraphPartsUptoSaid : Prop := graphPartsUptoRow.holds Try.pinned (OpenSpec.upto graphPartsSpec)

end Rows
end Go.Proofs.Ytikacgiccllolaa
