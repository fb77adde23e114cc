/-
  DERIVED. GIVEN WITH THE SEED: THE CARDS: each row of YtjnhkepgoghogaaGreatDoorRows.lean that lists a variable, with what it lists TIED to the program's text (the seventh form; the later family's looks); each row that meets fmt, with fmt's text TOLD by the authors' own Lean function (tested against real Go, not proved from fmt's source: count such statements apart). THE CARD IS WHAT COUNTS. Prove the row's statement (the work); the ties are given (YtjnhkepgoghogaaGreatDoorTie.lean); close each card by the builder's one call (the guide's Derived/Test/ToyasCard.lean, 'card_holds'). Laid BY PROGRAM, IN A SANDBOX (cutbox-door.mjs). By AI agents, Wed Nov 11 2026. No macro, syntax, notation, axiom, sorry.
-/
import Derived.Test.YtjnhkepgoghogaaGreatDoorRows
import GoSem.ClaimSeven
namespace Go.Proofs.YtjnhkepgoghogaaGreatDoor
namespace Rows

/-- THE TIED CARD OF 'espalierlaw08.RefsDoes'. -/
def refsDoesCard : Claim7 := { stood := { row := refsDoesRow, standIns := [], harness := (true, "05f1abbb4a2e868011133ec30f848d97b34c09d31bf04d52f6a0e359a6647af9"), looks := false }, kinds := [], alts := [], laidByText := true, laidKinds := [.data, .pinned], laidTests := true, laidLooks := .later }
def RefsDoesCardSaid : Prop := Claim7.holds Tryz.pinned (.plain (OpenSpec.ofChange refsDoesSpec)) refsDoesCard

/-- THE TIED CARD OF 'espalierlaw08.RefsOpens'. -/
def refsOpensCard : Claim7 := { stood := { row := refsOpensRow, standIns := [], harness := (true, "05f1abbb4a2e868011133ec30f848d97b34c09d31bf04d52f6a0e359a6647af9"), looks := false }, kinds := [], alts := [], laidByText := true, laidKinds := [.data, .pinned], laidTests := true, laidLooks := .later }
def RefsOpensCardSaid : Prop := Claim7.holds Tryz.pinned (.plain (OpenSpec.ofChange refsOpensSpec)) refsOpensCard

/-- THE SECOND FORM's CARD OF 'espalierlaw08.RefsDoes'. -/
def refsDoesUptoCard : Claim7 := { stood := { row := refsDoesUptoRow, standIns := [], harness := (true, "05f1abbb4a2e868011133ec30f848d97b34c09d31bf04d52f6a0e359a6647af9"), looks := false }, kinds := [], alts := [], laidByText := true, laidKinds := [.data, .pinned], laidTests := true, laidLooks := .later }
def RefsDoesUptoCardSaid : Prop := Claim7.holds Tryz.pinned (.plain (OpenSpec.upto refsDoesSpec)) refsDoesUptoCard

/-- THE SECOND FORM's CARD OF 'espalierlaw08.RefsOpens'. -/
def refsOpensUptoCard : Claim7 := { stood := { row := refsOpensUptoRow, standIns := [], harness := (true, "05f1abbb4a2e868011133ec30f848d97b34c09d31bf04d52f6a0e359a6647af9"), looks := false }, kinds := [], alts := [], laidByText := true, laidKinds := [.data, .pinned], laidTests := true, laidLooks := .later }
def RefsOpensUptoCardSaid : Prop := Claim7.holds Tryz.pinned (.plain (OpenSpec.upto refsOpensSpec)) refsOpensUptoCard
end Rows
end Go.Proofs.YtjnhkepgoghogaaGreatDoor
