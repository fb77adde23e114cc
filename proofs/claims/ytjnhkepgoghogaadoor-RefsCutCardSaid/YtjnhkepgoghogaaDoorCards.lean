/-
  DERIVED. GIVEN WITH THE SEED: THE CARDS: each row of YtjnhkepgoghogaaDoorRows.lean that lists a variable, with what it lists TIED to the program's text (the seventh form; the later family's looks); each row that meets fmt, with fmt's text TOLD by the authors' own Lean function (tested against real Go, not proved from fmt's source: count such statements apart). THE CARD IS WHAT COUNTS. Prove the row's statement (the work); the ties are given (YtjnhkepgoghogaaDoorTie.lean); close each card by the builder's one call (the guide's Derived/Test/ToyasCard.lean, 'card_holds'). Laid BY PROGRAM, IN A SANDBOX (cutbox-door.mjs). By AI agents, Wed Nov 11 2026. No macro, syntax, notation, axiom, sorry.
-/
import Derived.Test.YtjnhkepgoghogaaDoorRows
import GoSem.ClaimSeven
namespace Go.Proofs.YtjnhkepgoghogaaDoor
namespace Rows

/-- THE TIED CARD OF 'espalierlaw02.DiskDoes'. -/
def diskDoesCard : Claim7 := { stood := { row := diskDoesRow, standIns := [], harness := (true, "c53c69b8abcdbb3e60d4816bbaa75959377ac26ec14230e47b22bed9b87e37d6"), looks := false }, kinds := [], alts := [], laidByText := true, laidKinds := [.data, .data, .data], laidTests := true, laidLooks := .later }
def DiskDoesCardSaid : Prop := Claim7.holds Tryd.pinned (.plain (OpenSpec.ofChange diskDoesSpec)) diskDoesCard

/-- THE TIED CARD OF 'espalierlaw08.RefsAgain'. -/
def refsAgainCard : Claim7 := { stood := { row := refsAgainRow, standIns := [], harness := (true, "c53c69b8abcdbb3e60d4816bbaa75959377ac26ec14230e47b22bed9b87e37d6"), looks := false }, kinds := [], alts := [], laidByText := true, laidKinds := [.data, .pinned], laidTests := true, laidLooks := .later }
def RefsAgainCardSaid : Prop := Claim7.holds Tryd.pinned (.plain (OpenSpec.ofChange refsAgainSpec)) refsAgainCard

/-- THE TIED CARD OF 'espalierlaw08.RefsCut'. -/
def refsCutCard : Claim7 := { stood := { row := refsCutRow, standIns := [], harness := (true, "c53c69b8abcdbb3e60d4816bbaa75959377ac26ec14230e47b22bed9b87e37d6"), looks := false }, kinds := [], alts := [], laidByText := true, laidKinds := [.data, .pinned], laidTests := true, laidLooks := .later }
def RefsCutCardSaid : Prop := Claim7.holds Tryd.pinned (.plain (OpenSpec.ofChange refsCutSpec)) refsCutCard

/-- THE TIED CARD OF 'espalierlaw08.RefsNone'. -/
def refsNoneCard : Claim7 := { stood := { row := refsNoneRow, standIns := [], harness := (true, "c53c69b8abcdbb3e60d4816bbaa75959377ac26ec14230e47b22bed9b87e37d6"), looks := false }, kinds := [], alts := [], laidByText := true, laidKinds := [.data, .pinned], laidTests := true, laidLooks := .later }
def RefsNoneCardSaid : Prop := Claim7.holds Tryd.pinned (.plain (OpenSpec.ofChange refsNoneSpec)) refsNoneCard

/-- THE SECOND FORM's CARD OF 'espalierlaw02.DiskDoes'. -/
def diskDoesUptoCard : Claim7 := { stood := { row := diskDoesUptoRow, standIns := [], harness := (true, "c53c69b8abcdbb3e60d4816bbaa75959377ac26ec14230e47b22bed9b87e37d6"), looks := false }, kinds := [], alts := [], laidByText := true, laidKinds := [.data, .data, .data], laidTests := true, laidLooks := .later }
def DiskDoesUptoCardSaid : Prop := Claim7.holds Tryd.pinned (.plain (OpenSpec.upto diskDoesSpec)) diskDoesUptoCard

/-- THE SECOND FORM's CARD OF 'espalierlaw08.RefsAgain'. -/
def refsAgainUptoCard : Claim7 := { stood := { row := refsAgainUptoRow, standIns := [], harness := (true, "c53c69b8abcdbb3e60d4816bbaa75959377ac26ec14230e47b22bed9b87e37d6"), looks := false }, kinds := [], alts := [], laidByText := true, laidKinds := [.data, .pinned], laidTests := true, laidLooks := .later }
def RefsAgainUptoCardSaid : Prop := Claim7.holds Tryd.pinned (.plain (OpenSpec.upto refsAgainSpec)) refsAgainUptoCard

/-- THE SECOND FORM's CARD OF 'espalierlaw08.RefsCut'. -/
def refsCutUptoCard : Claim7 := { stood := { row := refsCutUptoRow, standIns := [], harness := (true, "c53c69b8abcdbb3e60d4816bbaa75959377ac26ec14230e47b22bed9b87e37d6"), looks := false }, kinds := [], alts := [], laidByText := true, laidKinds := [.data, .pinned], laidTests := true, laidLooks := .later }
def RefsCutUptoCardSaid : Prop := Claim7.holds Tryd.pinned (.plain (OpenSpec.upto refsCutSpec)) refsCutUptoCard

/-- THE SECOND FORM's CARD OF 'espalierlaw08.RefsNone'. -/
def refsNoneUptoCard : Claim7 := { stood := { row := refsNoneUptoRow, standIns := [], harness := (true, "c53c69b8abcdbb3e60d4816bbaa75959377ac26ec14230e47b22bed9b87e37d6"), looks := false }, kinds := [], alts := [], laidByText := true, laidKinds := [.data, .pinned], laidTests := true, laidLooks := .later }
def RefsNoneUptoCardSaid : Prop := Claim7.holds Tryd.pinned (.plain (OpenSpec.upto refsNoneSpec)) refsNoneUptoCard
end Rows
end Go.Proofs.YtjnhkepgoghogaaDoor
