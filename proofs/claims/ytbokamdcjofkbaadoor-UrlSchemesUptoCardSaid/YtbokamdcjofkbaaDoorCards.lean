/-
  DERIVED. GIVEN WITH THE SEED: THE CARDS: each row of YtbokamdcjofkbaaDoorRows.lean that lists a variable, with what it lists TIED to the program's text (the seventh form; the later family's looks); each row that meets fmt, with fmt's text TOLD by the authors' own Lean function (tested against real Go, not proved from fmt's source: count such statements apart). THE CARD IS WHAT COUNTS. Prove the row's statement (the work); the ties are given (YtbokamdcjofkbaaDoorTie.lean); close each card by the builder's one call (the guide's Derived/Test/ToyasCard.lean, 'card_holds'). Laid BY PROGRAM, IN A SANDBOX (cutbox-door.mjs). By AI agents, Wed Nov 11 2026. No macro, syntax, notation, axiom, sorry.
-/
import Derived.Test.YtbokamdcjofkbaaDoorRows
import GoSem.ClaimSeven
namespace Go.Proofs.YtbokamdcjofkbaaDoor
namespace Rows

/-- THE TIED CARD OF 'bobbinetlaw.UrlStrips'. -/
def urlStripsCard : Claim7 := { stood := { row := urlStripsRow, standIns := [], harness := (true, "c71c8b0f4a59f4697dbab8fe41da104827b005877b842c1eaced24678831ce70"), looks := true }, kinds := [], alts := [], laidByText := true, laidKinds := [.data, .pinned], laidTests := true, laidLooks := .later }
def UrlStripsCardSaid : Prop := Claim7.holds Tryd.pinned (.plain (OpenSpec.ofChange urlStripsSpec)) urlStripsCard

/-- THE TIED CARD OF 'bobbinetlaw.UrlSchemes'. -/
def urlSchemesCard : Claim7 := { stood := { row := urlSchemesRow, standIns := [], harness := (true, "c71c8b0f4a59f4697dbab8fe41da104827b005877b842c1eaced24678831ce70"), looks := true }, kinds := [], alts := [], laidByText := true, laidKinds := [.data, .pinned], laidTests := true, laidLooks := .later }
def UrlSchemesCardSaid : Prop := Claim7.holds Tryd.pinned (.plain (OpenSpec.ofChange urlSchemesSpec)) urlSchemesCard

/-- THE SECOND FORM's CARD OF 'bobbinetlaw.UrlStrips'. -/
def urlStripsUptoCard : Claim7 := { stood := { row := urlStripsUptoRow, standIns := [], harness := (true, "c71c8b0f4a59f4697dbab8fe41da104827b005877b842c1eaced24678831ce70"), looks := true }, kinds := [], alts := [], laidByText := true, laidKinds := [.data, .pinned], laidTests := true, laidLooks := .later }
def UrlStripsUptoCardSaid : Prop := Claim7.holds Tryd.pinned (.plain (OpenSpec.upto urlStripsSpec)) urlStripsUptoCard

/-- THE SECOND FORM's CARD OF 'bobbinetlaw.UrlSchemes'. -/
def urlSchemesUptoCard : Claim7 := { stood := { row := urlSchemesUptoRow, standIns := [], harness := (true, "c71c8b0f4a59f4697dbab8fe41da104827b005877b842c1eaced24678831ce70"), looks := true }, kinds := [], alts := [], laidByText := true, laidKinds := [.data, .pinned], laidTests := true, laidLooks := .later }
def UrlSchemesUptoCardSaid : Prop := Claim7.holds Tryd.pinned (.plain (OpenSpec.upto urlSchemesSpec)) urlSchemesUptoCard
end Rows
end Go.Proofs.YtbokamdcjofkbaaDoor
