/-
  DERIVED. GIVEN WITH THE SEED: THE CARDS: each row of YtapcbcldibdnlaaDoorRows.lean that lists a variable, with what it lists TIED to the program's text (the seventh form; the later family's looks); each row that meets fmt, with fmt's text TOLD by the authors' own Lean function (tested against real Go, not proved from fmt's source: count such statements apart). THE CARD IS WHAT COUNTS. Prove the row's statement (the work); the ties are given (YtapcbcldibdnlaaDoorTie.lean); close each card by the builder's one call (the guide's Derived/Test/ToyasCard.lean, 'card_holds'). Laid BY PROGRAM, IN A SANDBOX (cutbox-door.mjs). By AI agents, Wed Nov 11 2026. No macro, syntax, notation, axiom, sorry.
-/
import Derived.Test.YtapcbcldibdnlaaDoorRows
import GoSem.ClaimSeven
namespace Go.Proofs.YtapcbcldibdnlaaDoor
namespace Rows

/-- THE TIED CARD OF 'bobbinetlaw.StyleParses'. -/
def styleParsesCard : Claim7 := { stood := { row := styleParsesRow, standIns := [], harness := (true, "6881243f58759cd7008ec7f2d2ce66c5be95d11d57854ed1a7871ea92f01b02a"), looks := false }, kinds := [], alts := [], laidByText := true, laidKinds := [.data, .pinned], laidTests := true, laidLooks := .later }
def StyleParsesCardSaid : Prop := Claim7.holds Tryd.pinned (.plain (OpenSpec.ofChange styleParsesSpec)) styleParsesCard

/-- THE TIED CARD OF 'bobbinetlaw.StyleTexts'. -/
def styleTextsCard : Claim7 := { stood := { row := styleTextsRow, standIns := [], harness := (true, "6881243f58759cd7008ec7f2d2ce66c5be95d11d57854ed1a7871ea92f01b02a"), looks := false }, kinds := [], alts := [], laidByText := true, laidKinds := [.data, .pinned], laidTests := true, laidLooks := .later }
def StyleTextsCardSaid : Prop := Claim7.holds Tryd.pinned (.plain (OpenSpec.ofChange styleTextsSpec)) styleTextsCard

/-- THE SECOND FORM's CARD OF 'bobbinetlaw.StyleParses'. -/
def styleParsesUptoCard : Claim7 := { stood := { row := styleParsesUptoRow, standIns := [], harness := (true, "6881243f58759cd7008ec7f2d2ce66c5be95d11d57854ed1a7871ea92f01b02a"), looks := false }, kinds := [], alts := [], laidByText := true, laidKinds := [.data, .pinned], laidTests := true, laidLooks := .later }
def StyleParsesUptoCardSaid : Prop := Claim7.holds Tryd.pinned (.plain (OpenSpec.upto styleParsesSpec)) styleParsesUptoCard

/-- THE SECOND FORM's CARD OF 'bobbinetlaw.StyleTexts'. -/
def styleTextsUptoCard : Claim7 := { stood := { row := styleTextsUptoRow, standIns := [], harness := (true, "6881243f58759cd7008ec7f2d2ce66c5be95d11d57854ed1a7871ea92f01b02a"), looks := false }, kinds := [], alts := [], laidByText := true, laidKinds := [.data, .pinned], laidTests := true, laidLooks := .later }
def StyleTextsUptoCardSaid : Prop := Claim7.holds Tryd.pinned (.plain (OpenSpec.upto styleTextsSpec)) styleTextsUptoCard
end Rows
end Go.Proofs.YtapcbcldibdnlaaDoor
