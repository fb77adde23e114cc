/-
  No cell of these rows narrows 'for every input' (looked for: loops, veiled, ifaces, maps, wideKeys, modest, calm, conditions, laid).
  DERIVED. THE GIVEN ROWS OF THIS SEAT. 8 by the template 'for every input the law returns true; each argument reads behind the call as it read before'; 0 by the template 'total and deterministic' (their statements: YtinmjgaaehdicaaTotals.lean).
  GIVEN WITH THE SEED: the statements are not yours to turn. If you find one false, say at which input.
  Laid BY PROGRAM, IN A SANDBOX (cutbox-rows.mjs): the forced cells as the released guide's own fill.sh prints them over the translation 4a5a08f3af84d8e3… (all of the seat's roots in one cut). By AI agents, Wed Nov 11 2026. No macro, syntax, notation, axiom, sorry.
-/
import Derived.Test.YtinmjgaaehdicaaChecked
import GoSem.Claim
import GoSem.ClaimJoined
import GoSem.ClaimMapViews
import Derived.JoinedTies
import Derived.KernelRfl
namespace Go.Proofs.Ytinmjgaaehdicaa
/- THE CELL 'sum', in the pinned program and in every row, IS THE sha256 OF THE DUMP (.gsa) THAT YtinmjgaaehdicaaProg.lean LOADS. Nothing in Lean hashes anything: it is a label: what it is worth is what the hold of that sum in a sandbox is worth. -/
noncomputable def Try.pinned : Pinned := { name := "ytinmjgaaehdicaa", sum := "4a5a08f3af84d8e3a78dff4c9e6734c958cfc0c6369d318dc3a20ade5383443d", checked := Try.checked }
namespace Rows
def none {H : Type} : Left H := { results := [], args := [] }

/-- 'espalierlaw02.DiskParts': WHATEVER THE INPUT: true; the input reads as it did. -/
def diskPartsSpec : ChangeSpec := { name := "diskParts", fn := fun _ => fun
  | [d1, d2, d3] => { results := [.lit (.bool true)], args := [d1, d2, d3] }
  | _ => none }
def diskPartsRow : OpenClaim := { program := "ytinmjgaaehdicaa", sum := "4a5a08f3af84d8e3a78dff4c9e6734c958cfc0c6369d318dc3a20ade5383443d", func := "espalier/espalierlaw02.DiskParts", spec := "diskParts", unfollowed := true, recurses := true, apart := false }
def DiskPartsSaid : Prop := diskPartsRow.holds Try.pinned (OpenSpec.ofChange diskPartsSpec)

/-- ITS FALSE NEIGHBOUR: 'it returns false'. Refute it at one input. -/
def diskPartsWrong : ChangeSpec := { name := "diskParts", fn := fun _ => fun
  | [d1, d2, d3] => { results := [.lit (.bool false)], args := [d1, d2, d3] }
  | _ => none }
def DiskPartsWrongFalsely : Prop := diskPartsRow.holds Try.pinned (OpenSpec.ofChange diskPartsWrong)

/-- 'espalierlaw02.DiskCut': WHATEVER THE INPUT: true; the input reads as it did. -/
def diskCutSpec : ChangeSpec := { name := "diskCut", fn := fun _ => fun
  | [d1, d2] => { results := [.lit (.bool true)], args := [d1, d2] }
  | _ => none }
def diskCutRow : OpenClaim := { program := "ytinmjgaaehdicaa", sum := "4a5a08f3af84d8e3a78dff4c9e6734c958cfc0c6369d318dc3a20ade5383443d", func := "espalier/espalierlaw02.DiskCut", spec := "diskCut", unfollowed := true, recurses := true, apart := false }
def DiskCutSaid : Prop := diskCutRow.holds Try.pinned (OpenSpec.ofChange diskCutSpec)

/-- ITS FALSE NEIGHBOUR: 'it returns false'. Refute it at one input. -/
def diskCutWrong : ChangeSpec := { name := "diskCut", fn := fun _ => fun
  | [d1, d2] => { results := [.lit (.bool false)], args := [d1, d2] }
  | _ => none }
def DiskCutWrongFalsely : Prop := diskCutRow.holds Try.pinned (OpenSpec.ofChange diskCutWrong)

/-- 'espalierlaw02.DiskNone': WHATEVER THE INPUT: true; the input reads as it did. -/
def diskNoneSpec : ChangeSpec := { name := "diskNone", fn := fun _ => fun
  | [d1, d2, d3] => { results := [.lit (.bool true)], args := [d1, d2, d3] }
  | _ => none }
def diskNoneRow : OpenClaim := { program := "ytinmjgaaehdicaa", sum := "4a5a08f3af84d8e3a78dff4c9e6734c958cfc0c6369d318dc3a20ade5383443d", func := "espalier/espalierlaw02.DiskNone", spec := "diskNone", unfollowed := true, recurses := true, apart := false }
def DiskNoneSaid : Prop := diskNoneRow.holds Try.pinned (OpenSpec.ofChange diskNoneSpec)

/-- ITS FALSE NEIGHBOUR: 'it returns false'. Refute it at one input. -/
def diskNoneWrong : ChangeSpec := { name := "diskNone", fn := fun _ => fun
  | [d1, d2, d3] => { results := [.lit (.bool false)], args := [d1, d2, d3] }
  | _ => none }
def DiskNoneWrongFalsely : Prop := diskNoneRow.holds Try.pinned (OpenSpec.ofChange diskNoneWrong)

/-- 'espalierlaw17.RunSpoilt': WHATEVER THE INPUT: true; the input reads as it did. -/
def runSpoiltSpec : ChangeSpec := { name := "runSpoilt", fn := fun _ => fun
  | [d1, d2, d3] => { results := [.lit (.bool true)], args := [d1, d2, d3] }
  | _ => none }
def runSpoiltRow : OpenClaim := { program := "ytinmjgaaehdicaa", sum := "4a5a08f3af84d8e3a78dff4c9e6734c958cfc0c6369d318dc3a20ade5383443d", func := "espalier/espalierlaw17.RunSpoilt", spec := "runSpoilt", unfollowed := true, recurses := true, apart := false }
def RunSpoiltSaid : Prop := runSpoiltRow.holds Try.pinned (OpenSpec.ofChange runSpoiltSpec)

/-- ITS FALSE NEIGHBOUR: 'it returns false'. Refute it at one input. -/
def runSpoiltWrong : ChangeSpec := { name := "runSpoilt", fn := fun _ => fun
  | [d1, d2, d3] => { results := [.lit (.bool false)], args := [d1, d2, d3] }
  | _ => none }
def RunSpoiltWrongFalsely : Prop := runSpoiltRow.holds Try.pinned (OpenSpec.ofChange runSpoiltWrong)

/-- 'espalierlaw17.RunMakes': WHATEVER THE INPUT: true; the input reads as it did. -/
def runMakesSpec : ChangeSpec := { name := "runMakes", fn := fun _ => fun
  | [d] => { results := [.lit (.bool true)], args := [d] }
  | _ => none }
def runMakesRow : OpenClaim := { program := "ytinmjgaaehdicaa", sum := "4a5a08f3af84d8e3a78dff4c9e6734c958cfc0c6369d318dc3a20ade5383443d", func := "espalier/espalierlaw17.RunMakes", spec := "runMakes", unfollowed := true, recurses := true, apart := false }
def RunMakesSaid : Prop := runMakesRow.holds Try.pinned (OpenSpec.ofChange runMakesSpec)

/-- ITS FALSE NEIGHBOUR: 'it returns false'. Refute it at one input. -/
def runMakesWrong : ChangeSpec := { name := "runMakes", fn := fun _ => fun
  | [d] => { results := [.lit (.bool false)], args := [d] }
  | _ => none }
def RunMakesWrongFalsely : Prop := runMakesRow.holds Try.pinned (OpenSpec.ofChange runMakesWrong)

/-- 'espalierlaw17.RunReads': WHATEVER THE INPUT: true; the input reads as it did. -/
def runReadsSpec : ChangeSpec := { name := "runReads", fn := fun _ => fun
  | [d1, d2, d3] => { results := [.lit (.bool true)], args := [d1, d2, d3] }
  | _ => none }
def runReadsRow : OpenClaim := { program := "ytinmjgaaehdicaa", sum := "4a5a08f3af84d8e3a78dff4c9e6734c958cfc0c6369d318dc3a20ade5383443d", func := "espalier/espalierlaw17.RunReads", spec := "runReads", unfollowed := true, recurses := true, apart := false }
def RunReadsSaid : Prop := runReadsRow.holds Try.pinned (OpenSpec.ofChange runReadsSpec)

/-- ITS FALSE NEIGHBOUR: 'it returns false'. Refute it at one input. -/
def runReadsWrong : ChangeSpec := { name := "runReads", fn := fun _ => fun
  | [d1, d2, d3] => { results := [.lit (.bool false)], args := [d1, d2, d3] }
  | _ => none }
def RunReadsWrongFalsely : Prop := runReadsRow.holds Try.pinned (OpenSpec.ofChange runReadsWrong)

/-- 'espalierlaw17.RunMerges': WHATEVER THE INPUT: true; the input reads as it did. -/
def runMergesSpec : ChangeSpec := { name := "runMerges", fn := fun _ => fun
  | [d1, d2, d3] => { results := [.lit (.bool true)], args := [d1, d2, d3] }
  | _ => none }
def runMergesRow : OpenClaim := { program := "ytinmjgaaehdicaa", sum := "4a5a08f3af84d8e3a78dff4c9e6734c958cfc0c6369d318dc3a20ade5383443d", func := "espalier/espalierlaw17.RunMerges", spec := "runMerges", unfollowed := true, recurses := true, apart := false }
def RunMergesSaid : Prop := runMergesRow.holds Try.pinned (OpenSpec.ofChange runMergesSpec)

/-- ITS FALSE NEIGHBOUR: 'it returns false'. Refute it at one input. -/
def runMergesWrong : ChangeSpec := { name := "runMerges", fn := fun _ => fun
  | [d1, d2, d3] => { results := [.lit (.bool false)], args := [d1, d2, d3] }
  | _ => none }
def RunMergesWrongFalsely : Prop := runMergesRow.holds Try.pinned (OpenSpec.ofChange runMergesWrong)

/-- 'espalierlaw17.RunBack': WHATEVER THE INPUT: true; the input reads as it did. -/
def runBackSpec : ChangeSpec := { name := "runBack", fn := fun _ => fun
  | [d1, d2] => { results := [.lit (.bool true)], args := [d1, d2] }
  | _ => none }
def runBackRow : OpenClaim := { program := "ytinmjgaaehdicaa", sum := "4a5a08f3af84d8e3a78dff4c9e6734c958cfc0c6369d318dc3a20ade5383443d", func := "espalier/espalierlaw17.RunBack", spec := "runBack", unfollowed := true, recurses := true, apart := false }
def RunBackSaid : Prop := runBackRow.holds Try.pinned (OpenSpec.ofChange runBackSpec)

/-- ITS FALSE NEIGHBOUR: 'it returns false'. Refute it at one input. -/
def runBackWrong : ChangeSpec := { name := "runBack", fn := fun _ => fun
  | [d1, d2] => { results := [.lit (.bool false)], args := [d1, d2] }
  | _ => none }
def RunBackWrongFalsely : Prop := runBackRow.holds Try.pinned (OpenSpec.ofChange runBackWrong)

/- THE SECOND FORM. 'bulk': how many values and letters a reading holds, each counted each time it is reached (what is shared counts as often as it is met; a slice's spare places count too). A statement '..UptoSaid' is the law's where the arguments, and the package variables that the reading takes, are together of bulk at most 1048576: NARROWER than '..Said'. Prove '..Said' where nothing that the law and all that it calls make is longer than what came in: it says more and counts as full. Else prove '..UptoSaid'. A law counts once. -/
mutual
def uptoBulk {H : Type} : DataW H → Nat
  | .lit (.string bytes) => bytes.length + 1
  | .lit _ => 1
  | .nil => 1
  | .ptr d => uptoBulk d + 1
  | .slice elems spare => uptoBulkAll elems + uptoBulkAll spare + 1
  | .agg parts => uptoBulkAll parts + 1
  | .iface _ d => uptoBulk d + 1
  | .map entries => uptoBulkEntries entries + 1
  | .held _ => 1
def uptoBulkAll {H : Type} : List (DataW H) → Nat
  | [] => 0
  | d :: r => uptoBulk d + uptoBulkAll r
def uptoBulkEntries {H : Type} : List (Lit × DataW H) → Nat
  | [] => 0
  | x :: r => uptoBulkEntry x + uptoBulkEntries r
def uptoBulkEntry {H : Type} : Lit × DataW H → Nat
  | (.string bytes, d) => bytes.length + uptoBulk d + 1
  | (_, d) => uptoBulk d + 1
 end
def uptoSmall : (H : Type) → List (DataW H) → Bool := fun _ ds => decide (uptoBulkAll ds ≤ 1048576)
def OpenSpec.upto (s : _root_.Go.ChangeSpec) : _root_.Go.OpenSpec := { _root_.Go.OpenSpec.ofChange s with cond := some uptoSmall }

/-- 'espalierlaw02.DiskParts', WHERE WHAT IT READS IS OF BULK AT MOST 1048576: true; the input reads as it did. -/
def diskPartsUptoRow : OpenClaim := { program := "ytinmjgaaehdicaa", sum := "4a5a08f3af84d8e3a78dff4c9e6734c958cfc0c6369d318dc3a20ade5383443d", func := "espalier/espalierlaw02.DiskParts", spec := "diskParts", unfollowed := true, recurses := true, apart := false, narrowed := true }
def DiskPartsUptoSaid : Prop := diskPartsUptoRow.holds Try.pinned (OpenSpec.upto diskPartsSpec)

/-- 'espalierlaw02.DiskCut', WHERE WHAT IT READS IS OF BULK AT MOST 1048576: true; the input reads as it did. -/
def diskCutUptoRow : OpenClaim := { program := "ytinmjgaaehdicaa", sum := "4a5a08f3af84d8e3a78dff4c9e6734c958cfc0c6369d318dc3a20ade5383443d", func := "espalier/espalierlaw02.DiskCut", spec := "diskCut", unfollowed := true, recurses := true, apart := false, narrowed := true }
def DiskCutUptoSaid : Prop := diskCutUptoRow.holds Try.pinned (OpenSpec.upto diskCutSpec)

/-- 'espalierlaw02.DiskNone', WHERE WHAT IT READS IS OF BULK AT MOST 1048576: true; the input reads as it did. -/
def diskNoneUptoRow : OpenClaim := { program := "ytinmjgaaehdicaa", sum := "4a5a08f3af84d8e3a78dff4c9e6734c958cfc0c6369d318dc3a20ade5383443d", func := "espalier/espalierlaw02.DiskNone", spec := "diskNone", unfollowed := true, recurses := true, apart := false, narrowed := true }
def DiskNoneUptoSaid : Prop := diskNoneUptoRow.holds Try.pinned (OpenSpec.upto diskNoneSpec)

/-- 'espalierlaw17.RunSpoilt', WHERE WHAT IT READS IS OF BULK AT MOST 1048576: true; the input reads as it did. -/
def runSpoiltUptoRow : OpenClaim := { program := "ytinmjgaaehdicaa", sum := "4a5a08f3af84d8e3a78dff4c9e6734c958cfc0c6369d318dc3a20ade5383443d", func := "espalier/espalierlaw17.RunSpoilt", spec := "runSpoilt", unfollowed := true, recurses := true, apart := false, narrowed := true }
def RunSpoiltUptoSaid : Prop := runSpoiltUptoRow.holds Try.pinned (OpenSpec.upto runSpoiltSpec)

/-- 'espalierlaw17.RunMakes', WHERE WHAT IT READS IS OF BULK AT MOST 1048576: true; the input reads as it did. -/
def runMakesUptoRow : OpenClaim := { program := "ytinmjgaaehdicaa", sum := "4a5a08f3af84d8e3a78dff4c9e6734c958cfc0c6369d318dc3a20ade5383443d", func := "espalier/espalierlaw17.RunMakes", spec := "runMakes", unfollowed := true, recurses := true, apart := false, narrowed := true }
def RunMakesUptoSaid : Prop := runMakesUptoRow.holds Try.pinned (OpenSpec.upto runMakesSpec)

/-- 'espalierlaw17.RunReads', WHERE WHAT IT READS IS OF BULK AT MOST 1048576: true; the input reads as it did. -/
def runReadsUptoRow : OpenClaim := { program := "ytinmjgaaehdicaa", sum := "4a5a08f3af84d8e3a78dff4c9e6734c958cfc0c6369d318dc3a20ade5383443d", func := "espalier/espalierlaw17.RunReads", spec := "runReads", unfollowed := true, recurses := true, apart := false, narrowed := true }
def RunReadsUptoSaid : Prop := runReadsUptoRow.holds Try.pinned (OpenSpec.upto runReadsSpec)

/-- 'espalierlaw17.RunMerges', WHERE WHAT IT READS IS OF BULK AT MOST 1048576: true; the input reads as it did. -/
def runMergesUptoRow : OpenClaim := { program := "ytinmjgaaehdicaa", sum := "4a5a08f3af84d8e3a78dff4c9e6734c958cfc0c6369d318dc3a20ade5383443d", func := "espalier/espalierlaw17.RunMerges", spec := "runMerges", unfollowed := true, recurses := true, apart := false, narrowed := true }
def RunMergesUptoSaid : Prop := runMergesUptoRow.holds Try.pinned (OpenSpec.upto runMergesSpec)

/-- 'espalierlaw17.RunBack', WHERE WHAT IT READS IS OF BULK AT MOST 1048576: true; the input reads as it did. -/
def runBackUptoRow : OpenClaim := { program := "ytinmjgaaehdicaa", sum := "4a5a08f3af84d8e3a78dff4c9e6734c958cfc0c6369d318dc3a20ade5383443d", func := "espalier/espalierlaw17.RunBack", spec := "runBack", unfollowed := true, recurses := true, apart := false, narrowed := true }
def RunBackUptoSaid : Prop := runBackUptoRow.holds Try.pinned (OpenSpec.upto runBackSpec)

end Rows
end Go.Proofs.Ytinmjgaaehdicaa
