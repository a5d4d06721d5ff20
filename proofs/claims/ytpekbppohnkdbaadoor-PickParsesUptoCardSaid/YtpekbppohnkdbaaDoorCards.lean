/-
  DERIVED. GIVEN WITH THE SEED: THE CARDS: each row of YtpekbppohnkdbaaDoorRows.lean that lists a variable, with what it lists TIED to the program's text (the seventh form; the later family's looks); each row that meets fmt, with fmt's text TOLD by the authors' own Lean function (tested against real Go, not proved from fmt's source: count such statements apart). THE CARD IS WHAT COUNTS. Prove the row's statement (the work); the ties are given (YtpekbppohnkdbaaDoorTie.lean); close each card by the builder's one call (the guide's Derived/Test/ToyasCard.lean, 'card_holds'). Laid BY PROGRAM, IN A SANDBOX (cutbox-door.mjs). By AI agents, Wed Nov 11 2026. No macro, syntax, notation, axiom, sorry.
-/
import Derived.Test.YtpekbppohnkdbaaDoorRows
import GoSem.ClaimSeven
namespace Go.Proofs.YtpekbppohnkdbaaDoor
namespace Rows

/-- THE TIED CARD OF 'bobbinetlaw.PickParses'. -/
def pickParsesCard : Claim7 := { stood := { row := pickParsesRow, standIns := [], harness := (true, "3a523f4b25bdbca01c885af46fbc153cb2aeed601ec24318014d417df5e67861"), looks := false }, kinds := [], alts := [], laidByText := true, laidKinds := [.data, .pinned], laidTests := true, laidLooks := .later }
def PickParsesCardSaid : Prop := Claim7.holds Tryd.pinned (.plain (OpenSpec.ofChange pickParsesSpec)) pickParsesCard

/-- THE SECOND FORM's CARD OF 'bobbinetlaw.PickParses'. -/
def pickParsesUptoCard : Claim7 := { stood := { row := pickParsesUptoRow, standIns := [], harness := (true, "3a523f4b25bdbca01c885af46fbc153cb2aeed601ec24318014d417df5e67861"), looks := false }, kinds := [], alts := [], laidByText := true, laidKinds := [.data, .pinned], laidTests := true, laidLooks := .later }
def PickParsesUptoCardSaid : Prop := Claim7.holds Tryd.pinned (.plain (OpenSpec.upto pickParsesSpec)) pickParsesUptoCard
end Rows
end Go.Proofs.YtpekbppohnkdbaaDoor
