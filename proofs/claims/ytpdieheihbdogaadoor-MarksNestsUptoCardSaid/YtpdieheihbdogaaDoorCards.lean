/-
  DERIVED. GIVEN WITH THE SEED: THE CARDS: each row of YtpdieheihbdogaaDoorRows.lean that lists a variable, with what it lists TIED to the program's text (the seventh form; the later family's looks); each row that meets fmt, with fmt's text TOLD by the authors' own Lean function (tested against real Go, not proved from fmt's source: count such statements apart). THE CARD IS WHAT COUNTS. Prove the row's statement (the work); the ties are given (YtpdieheihbdogaaDoorTie.lean); close each card by the builder's one call (the guide's Derived/Test/ToyasCard.lean, 'card_holds'). Laid BY PROGRAM, IN A SANDBOX (cutbox-door.mjs). By AI agents, Wed Nov 11 2026. No macro, syntax, notation, axiom, sorry.
-/
import Derived.Test.YtpdieheihbdogaaDoorRows
import GoSem.ClaimSeven
namespace Go.Proofs.YtpdieheihbdogaaDoor
namespace Rows

/-- THE TIED CARD OF 'bobbinetlaw.MarksNests'. -/
def marksNestsCard : Claim7 := { stood := { row := marksNestsRow, standIns := [], harness := (true, "2461e17f392835f6f6e0bd94aafc0d596ff926bc721cdd7a24d97cb2ec0f4a0f"), looks := false }, kinds := [], alts := [], laidByText := true, laidKinds := [.listed, .data], laidTests := true, laidLooks := .later }
def MarksNestsCardSaid : Prop := Claim7.holds Tryd.pinned (.plain (OpenSpec.ofChange marksNestsSpec)) marksNestsCard

/-- THE SECOND FORM's CARD OF 'bobbinetlaw.MarksNests'. -/
def marksNestsUptoCard : Claim7 := { stood := { row := marksNestsUptoRow, standIns := [], harness := (true, "2461e17f392835f6f6e0bd94aafc0d596ff926bc721cdd7a24d97cb2ec0f4a0f"), looks := false }, kinds := [], alts := [], laidByText := true, laidKinds := [.listed, .data], laidTests := true, laidLooks := .later }
def MarksNestsUptoCardSaid : Prop := Claim7.holds Tryd.pinned (.plain (OpenSpec.upto marksNestsSpec)) marksNestsUptoCard
end Rows
end Go.Proofs.YtpdieheihbdogaaDoor
