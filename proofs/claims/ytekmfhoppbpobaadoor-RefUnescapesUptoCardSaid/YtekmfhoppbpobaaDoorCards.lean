/-
  DERIVED. GIVEN WITH THE SEED: THE CARDS: each row of YtekmfhoppbpobaaDoorRows.lean that lists a variable, with what it lists TIED to the program's text (the seventh form; the later family's looks); each row that meets fmt, with fmt's text TOLD by the authors' own Lean function (tested against real Go, not proved from fmt's source: count such statements apart). THE CARD IS WHAT COUNTS. Prove the row's statement (the work); the ties are given (YtekmfhoppbpobaaDoorTie.lean); close each card by the builder's one call (the guide's Derived/Test/ToyasCard.lean, 'card_holds'). Laid BY PROGRAM, IN A SANDBOX (cutbox-door.mjs). By AI agents, Wed Nov 11 2026. No macro, syntax, notation, axiom, sorry.
-/
import Derived.Test.YtekmfhoppbpobaaDoorRows
import GoSem.ClaimSeven
namespace Go.Proofs.YtekmfhoppbpobaaDoor
namespace Rows

/-- THE TIED CARD OF 'bobbinetlaw.PickParses'. -/
def pickParsesCard : Claim7 := { stood := { row := pickParsesRow, standIns := [], harness := (true, "d56ae21086e2572fc4fd5f4c2ed6f3a69ee499b8afa09e9e66fe32d44be1f6bd"), looks := true }, kinds := [], alts := [], laidByText := true, laidKinds := [.data, .pinned], laidTests := true, laidLooks := .later }
def PickParsesCardSaid : Prop := Claim7.holds Tryd.pinned (.plain (OpenSpec.ofChange pickParsesSpec)) pickParsesCard

/-- THE TIED CARD OF 'bobbinetlaw.RefUnescapes'. -/
def refUnescapesCard : Claim7 := { stood := { row := refUnescapesRow, standIns := [], harness := (true, "d56ae21086e2572fc4fd5f4c2ed6f3a69ee499b8afa09e9e66fe32d44be1f6bd"), looks := true }, kinds := [], alts := [], laidByText := true, laidKinds := [.data, .data, .data, .sentinel, .sentinel], laidTests := true, laidLooks := .later }
def RefUnescapesCardSaid : Prop := Claim7.holds Tryd.pinned (.plain (OpenSpec.ofChange refUnescapesSpec)) refUnescapesCard

/-- THE SECOND FORM's CARD OF 'bobbinetlaw.PickParses'. -/
def pickParsesUptoCard : Claim7 := { stood := { row := pickParsesUptoRow, standIns := [], harness := (true, "d56ae21086e2572fc4fd5f4c2ed6f3a69ee499b8afa09e9e66fe32d44be1f6bd"), looks := true }, kinds := [], alts := [], laidByText := true, laidKinds := [.data, .pinned], laidTests := true, laidLooks := .later }
def PickParsesUptoCardSaid : Prop := Claim7.holds Tryd.pinned (.plain (OpenSpec.upto pickParsesSpec)) pickParsesUptoCard

/-- THE SECOND FORM's CARD OF 'bobbinetlaw.RefUnescapes'. -/
def refUnescapesUptoCard : Claim7 := { stood := { row := refUnescapesUptoRow, standIns := [], harness := (true, "d56ae21086e2572fc4fd5f4c2ed6f3a69ee499b8afa09e9e66fe32d44be1f6bd"), looks := true }, kinds := [], alts := [], laidByText := true, laidKinds := [.data, .data, .data, .sentinel, .sentinel], laidTests := true, laidLooks := .later }
def RefUnescapesUptoCardSaid : Prop := Claim7.holds Tryd.pinned (.plain (OpenSpec.upto refUnescapesSpec)) refUnescapesUptoCard
end Rows
end Go.Proofs.YtekmfhoppbpobaaDoor
