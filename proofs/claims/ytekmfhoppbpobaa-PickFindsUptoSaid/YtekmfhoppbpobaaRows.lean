/-
  NARROWER THAN 'FOR EVERY INPUT', by the rows' own cells (each row's printed sentence says how): PickFinds: loops · SpaceNodeses: loops · ExprChecks: loops · ExprPrints: loops · ShowTexts: loops.
  DERIVED. THE GIVEN ROWS OF THIS SEAT. 10 by the template 'for every input the law returns true; each argument reads behind the call as it read before'; 0 by the template 'total and deterministic' (their statements: YtekmfhoppbpobaaTotals.lean).
  GIVEN WITH THE SEED: the statements are not yours to turn. If you find one false, say at which input.
  Laid BY PROGRAM, IN A SANDBOX (cutbox-rows.mjs): the forced cells as the released guide's own fill.sh prints them over the translation f6eaa84eafb25793… (all of the seat's roots in one cut). By AI agents, Wed Nov 11 2026. No macro, syntax, notation, axiom, sorry.
-/
import Derived.Test.YtekmfhoppbpobaaChecked
import GoSem.Claim
import GoSem.ClaimJoined
import GoSem.ClaimMapViews
import Derived.JoinedTies
import Derived.KernelRfl
namespace Go.Proofs.Ytekmfhoppbpobaa
/- THE CELL 'sum', in the pinned program and in every row, IS THE sha256 OF THE DUMP (.gsa) THAT YtekmfhoppbpobaaProg.lean LOADS. Nothing in Lean hashes anything: it is a label: what it is worth is what the hold of that sum in a sandbox is worth. -/
noncomputable def Try.pinned : Pinned := { name := "ytekmfhoppbpobaa", sum := "f6eaa84eafb2579399cbde5252ac38315acf85c9154fc1373f6e110052b1fb22", checked := Try.checked }
namespace Rows
def none {H : Type} : Left H := { results := [], args := [] }

/-- 'bobbinetlaw.SpaceTexts': WHATEVER THE INPUT: true; the input reads as it did. -/
def spaceTextsSpec : ChangeSpec := { name := "spaceTexts", fn := fun _ => fun
  | [d1, d2] => { results := [.lit (.bool true)], args := [d1, d2] }
  | _ => none }
def spaceTextsRow : OpenClaim := { program := "ytekmfhoppbpobaa", sum := "f6eaa84eafb2579399cbde5252ac38315acf85c9154fc1373f6e110052b1fb22", func := "bobbinet/bobbinetlaw.SpaceTexts", spec := "spaceTexts", inPlace := ["internal/abi.NoEscape"], apart := false }
def SpaceTextsSaid : Prop := spaceTextsRow.holds Try.pinned (OpenSpec.ofChange spaceTextsSpec)

/-- ITS FALSE NEIGHBOUR: 'it returns false'. Refute it at one input. -/
def spaceTextsWrong : ChangeSpec := { name := "spaceTexts", fn := fun _ => fun
  | [d1, d2] => { results := [.lit (.bool false)], args := [d1, d2] }
  | _ => none }
def SpaceTextsWrongFalsely : Prop := spaceTextsRow.holds Try.pinned (OpenSpec.ofChange spaceTextsWrong)

/-- 'bobbinetlaw.RefEscapes': WHATEVER THE INPUT: true; the input reads as it did. -/
def refEscapesSpec : ChangeSpec := { name := "refEscapes", fn := fun _ => fun
  | [d1, d2] => { results := [.lit (.bool true)], args := [d1, d2] }
  | _ => none }
def refEscapesRow : OpenClaim := { program := "ytekmfhoppbpobaa", sum := "f6eaa84eafb2579399cbde5252ac38315acf85c9154fc1373f6e110052b1fb22", func := "bobbinet/bobbinetlaw.RefEscapes", spec := "refEscapes", inPlace := ["internal/abi.NoEscape"], apart := false }
def RefEscapesSaid : Prop := refEscapesRow.holds Try.pinned (OpenSpec.ofChange refEscapesSpec)

/-- ITS FALSE NEIGHBOUR: 'it returns false'. Refute it at one input. -/
def refEscapesWrong : ChangeSpec := { name := "refEscapes", fn := fun _ => fun
  | [d1, d2] => { results := [.lit (.bool false)], args := [d1, d2] }
  | _ => none }
def RefEscapesWrongFalsely : Prop := refEscapesRow.holds Try.pinned (OpenSpec.ofChange refEscapesWrong)

/-- 'bobbinetlaw.PickFinds': WHATEVER THE INPUT: true; the input reads as it did. -/
def pickFindsSpec : ChangeSpec := { name := "pickFinds", fn := fun _ => fun
  | [d1, d2] => { results := [.lit (.bool true)], args := [d1, d2] }
  | _ => none }
def pickFindsRow : OpenClaim := { program := "ytekmfhoppbpobaa", sum := "f6eaa84eafb2579399cbde5252ac38315acf85c9154fc1373f6e110052b1fb22", func := "bobbinet/bobbinetlaw.PickFinds", spec := "pickFinds", unfollowed := true, recurses := true, loops := true, apart := false }
def PickFindsSaid : Prop := pickFindsRow.holds Try.pinned (OpenSpec.ofChange pickFindsSpec)

/-- ITS FALSE NEIGHBOUR: 'it returns false'. Refute it at one input. -/
def pickFindsWrong : ChangeSpec := { name := "pickFinds", fn := fun _ => fun
  | [d1, d2] => { results := [.lit (.bool false)], args := [d1, d2] }
  | _ => none }
def PickFindsWrongFalsely : Prop := pickFindsRow.holds Try.pinned (OpenSpec.ofChange pickFindsWrong)

/-- 'bobbinetlaw.PickTexts': WHATEVER THE INPUT: true; the input reads as it did. -/
def pickTextsSpec : ChangeSpec := { name := "pickTexts", fn := fun _ => fun
  | [d] => { results := [.lit (.bool true)], args := [d] }
  | _ => none }
def pickTextsRow : OpenClaim := { program := "ytekmfhoppbpobaa", sum := "f6eaa84eafb2579399cbde5252ac38315acf85c9154fc1373f6e110052b1fb22", func := "bobbinet/bobbinetlaw.PickTexts", spec := "pickTexts", inPlace := ["internal/abi.NoEscape"], unfollowed := true, recurses := true, apart := false }
def PickTextsSaid : Prop := pickTextsRow.holds Try.pinned (OpenSpec.ofChange pickTextsSpec)

/-- ITS FALSE NEIGHBOUR: 'it returns false'. Refute it at one input. -/
def pickTextsWrong : ChangeSpec := { name := "pickTexts", fn := fun _ => fun
  | [d] => { results := [.lit (.bool false)], args := [d] }
  | _ => none }
def PickTextsWrongFalsely : Prop := pickTextsRow.holds Try.pinned (OpenSpec.ofChange pickTextsWrong)

/-- 'bobbinetlaw.SpaceNodeses': WHATEVER THE INPUT: true; the input reads as it did. -/
def spaceNodesesSpec : ChangeSpec := { name := "spaceNodeses", fn := fun _ => fun
  | [d] => { results := [.lit (.bool true)], args := [d] }
  | _ => none }
def spaceNodesesRow : OpenClaim := { program := "ytekmfhoppbpobaa", sum := "f6eaa84eafb2579399cbde5252ac38315acf85c9154fc1373f6e110052b1fb22", func := "bobbinet/bobbinetlaw.SpaceNodeses", spec := "spaceNodeses", inPlace := ["internal/abi.NoEscape"], recurses := true, loops := true, apart := false }
def SpaceNodesesSaid : Prop := spaceNodesesRow.holds Try.pinned (OpenSpec.ofChange spaceNodesesSpec)

/-- ITS FALSE NEIGHBOUR: 'it returns false'. Refute it at one input. -/
def spaceNodesesWrong : ChangeSpec := { name := "spaceNodeses", fn := fun _ => fun
  | [d] => { results := [.lit (.bool false)], args := [d] }
  | _ => none }
def SpaceNodesesWrongFalsely : Prop := spaceNodesesRow.holds Try.pinned (OpenSpec.ofChange spaceNodesesWrong)

/-- 'bobbinetlaw.ExprChecks': WHATEVER THE INPUT: true; the input reads as it did. -/
def exprChecksSpec : ChangeSpec := { name := "exprChecks", fn := fun _ => fun
  | [d] => { results := [.lit (.bool true)], args := [d] }
  | _ => none }
def exprChecksRow : OpenClaim := { program := "ytekmfhoppbpobaa", sum := "f6eaa84eafb2579399cbde5252ac38315acf85c9154fc1373f6e110052b1fb22", func := "bobbinet/bobbinetlaw.ExprChecks", spec := "exprChecks", inPlace := ["internal/abi.NoEscape", "internal/bytealg.MakeNoZero"], unfollowed := true, recurses := true, loops := true, apart := false }
def ExprChecksSaid : Prop := exprChecksRow.holds Try.pinned (OpenSpec.ofChange exprChecksSpec)

/-- ITS FALSE NEIGHBOUR: 'it returns false'. Refute it at one input. -/
def exprChecksWrong : ChangeSpec := { name := "exprChecks", fn := fun _ => fun
  | [d] => { results := [.lit (.bool false)], args := [d] }
  | _ => none }
def ExprChecksWrongFalsely : Prop := exprChecksRow.holds Try.pinned (OpenSpec.ofChange exprChecksWrong)

/-- 'bobbinetlaw.ExprPrints': WHATEVER THE INPUT: true; the input reads as it did. -/
def exprPrintsSpec : ChangeSpec := { name := "exprPrints", fn := fun _ => fun
  | [d] => { results := [.lit (.bool true)], args := [d] }
  | _ => none }
def exprPrintsRow : OpenClaim := { program := "ytekmfhoppbpobaa", sum := "f6eaa84eafb2579399cbde5252ac38315acf85c9154fc1373f6e110052b1fb22", func := "bobbinet/bobbinetlaw.ExprPrints", spec := "exprPrints", inPlace := ["internal/abi.NoEscape", "internal/bytealg.MakeNoZero"], unfollowed := true, recurses := true, loops := true, apart := false }
def ExprPrintsSaid : Prop := exprPrintsRow.holds Try.pinned (OpenSpec.ofChange exprPrintsSpec)

/-- ITS FALSE NEIGHBOUR: 'it returns false'. Refute it at one input. -/
def exprPrintsWrong : ChangeSpec := { name := "exprPrints", fn := fun _ => fun
  | [d] => { results := [.lit (.bool false)], args := [d] }
  | _ => none }
def ExprPrintsWrongFalsely : Prop := exprPrintsRow.holds Try.pinned (OpenSpec.ofChange exprPrintsWrong)

/-- 'bobbinetlaw.EmitTexts': WHATEVER THE INPUT: true; the input reads as it did. -/
def emitTextsSpec : ChangeSpec := { name := "emitTexts", fn := fun _ => fun
  | [d] => { results := [.lit (.bool true)], args := [d] }
  | _ => none }
def emitTextsRow : OpenClaim := { program := "ytekmfhoppbpobaa", sum := "f6eaa84eafb2579399cbde5252ac38315acf85c9154fc1373f6e110052b1fb22", func := "bobbinet/bobbinetlaw.EmitTexts", spec := "emitTexts", inPlace := ["internal/abi.NoEscape"], unfollowed := true, recurses := true, apart := false }
def EmitTextsSaid : Prop := emitTextsRow.holds Try.pinned (OpenSpec.ofChange emitTextsSpec)

/-- ITS FALSE NEIGHBOUR: 'it returns false'. Refute it at one input. -/
def emitTextsWrong : ChangeSpec := { name := "emitTexts", fn := fun _ => fun
  | [d] => { results := [.lit (.bool false)], args := [d] }
  | _ => none }
def EmitTextsWrongFalsely : Prop := emitTextsRow.holds Try.pinned (OpenSpec.ofChange emitTextsWrong)

/-- 'bobbinetlaw.ShowTexts': WHATEVER THE INPUT: true; the input reads as it did. -/
def showTextsSpec : ChangeSpec := { name := "showTexts", fn := fun _ => fun
  | [d] => { results := [.lit (.bool true)], args := [d] }
  | _ => none }
def showTextsRow : OpenClaim := { program := "ytekmfhoppbpobaa", sum := "f6eaa84eafb2579399cbde5252ac38315acf85c9154fc1373f6e110052b1fb22", func := "bobbinet/bobbinetlaw.ShowTexts", spec := "showTexts", inPlace := ["internal/abi.NoEscape"], unfollowed := true, recurses := true, loops := true, apart := false }
def ShowTextsSaid : Prop := showTextsRow.holds Try.pinned (OpenSpec.ofChange showTextsSpec)

/-- ITS FALSE NEIGHBOUR: 'it returns false'. Refute it at one input. -/
def showTextsWrong : ChangeSpec := { name := "showTexts", fn := fun _ => fun
  | [d] => { results := [.lit (.bool false)], args := [d] }
  | _ => none }
def ShowTextsWrongFalsely : Prop := showTextsRow.holds Try.pinned (OpenSpec.ofChange showTextsWrong)

/-- 'bobbinetlaw.ExprParses': WHATEVER THE INPUT: true; the input reads as it did. -/
def exprParsesSpec : ChangeSpec := { name := "exprParses", fn := fun _ => fun
  | [d] => { results := [.lit (.bool true)], args := [d] }
  | _ => none }
def exprParsesRow : OpenClaim := { program := "ytekmfhoppbpobaa", sum := "f6eaa84eafb2579399cbde5252ac38315acf85c9154fc1373f6e110052b1fb22", func := "bobbinet/bobbinetlaw.ExprParses", spec := "exprParses", inPlace := ["internal/bytealg.IndexByteString", "internal/abi.NoEscape", "internal/bytealg.MakeNoZero"], unfollowed := true, recurses := true, apart := false }
def ExprParsesSaid : Prop := exprParsesRow.holds Try.pinned (OpenSpec.ofChange exprParsesSpec)

/-- ITS FALSE NEIGHBOUR: 'it returns false'. Refute it at one input. -/
def exprParsesWrong : ChangeSpec := { name := "exprParses", fn := fun _ => fun
  | [d] => { results := [.lit (.bool false)], args := [d] }
  | _ => none }
def ExprParsesWrongFalsely : Prop := exprParsesRow.holds Try.pinned (OpenSpec.ofChange exprParsesWrong)

/- THE SECOND FORM. 'bulk': how many values and letters a reading holds, each counted each time it is reached (what is shared counts as often as it is met; a slice's spare places count too). A statement '..UptoSaid' is the law's where the arguments, and the package variables that the reading takes, are together of bulk at most 1048576: NARROWER than '..Said'. Prove '..Said' where nothing that the law and all that it calls make is longer than what came in: it says more and counts as full. Else prove '..UptoSaid'. A law counts once. -/
mutual
def uptoBulk {H : Type} : DataW H → Nat
  | .lit (.string bytes) => bytes.length + 1
  | .lit _ => 1
  | .nil => 1
  | .ptr d => uptoBulk d + 1
  | .slice elems spare => uptoBulkAll elems + uptoBulkAll spare + 1
  | .agg parts => uptoBulkAll parts + 1
  | .iface _ d => uptoBulk d + 1
  | .map entries => uptoBulkEntries entries + 1
  | .held _ => 1
def uptoBulkAll {H : Type} : List (DataW H) → Nat
  | [] => 0
  | d :: r => uptoBulk d + uptoBulkAll r
def uptoBulkEntries {H : Type} : List (Lit × DataW H) → Nat
  | [] => 0
  | x :: r => uptoBulkEntry x + uptoBulkEntries r
def uptoBulkEntry {H : Type} : Lit × DataW H → Nat
  | (.string bytes, d) => bytes.length + uptoBulk d + 1
  | (_, d) => uptoBulk d + 1
 end
def uptoSmall : (H : Type) → List (DataW H) → Bool := fun _ ds => decide (uptoBulkAll ds ≤ 1048576)
def OpenSpec.upto (s : _root_.Go.ChangeSpec) : _root_.Go.OpenSpec := { _root_.Go.OpenSpec.ofChange s with cond := some uptoSmall }

/-- 'bobbinetlaw.SpaceTexts', WHERE WHAT IT READS IS OF BULK AT MOST 1048576: true; the input reads as it did. -/
def spaceTextsUptoRow : OpenClaim := { program := "ytekmfhoppbpobaa", sum := "f6eaa84eafb2579399cbde5252ac38315acf85c9154fc1373f6e110052b1fb22", func := "bobbinet/bobbinetlaw.SpaceTexts", spec := "spaceTexts", inPlace := ["internal/abi.NoEscape"], apart := false, narrowed := true }
def SpaceTextsUptoSaid : Prop := spaceTextsUptoRow.holds Try.pinned (OpenSpec.upto spaceTextsSpec)

/-- 'bobbinetlaw.RefEscapes', WHERE WHAT IT READS IS OF BULK AT MOST 1048576: true; the input reads as it did. -/
def refEscapesUptoRow : OpenClaim := { program := "ytekmfhoppbpobaa", sum := "f6eaa84eafb2579399cbde5252ac38315acf85c9154fc1373f6e110052b1fb22", func := "bobbinet/bobbinetlaw.RefEscapes", spec := "refEscapes", inPlace := ["internal/abi.NoEscape"], apart := false, narrowed := true }
def RefEscapesUptoSaid : Prop := refEscapesUptoRow.holds Try.pinned (OpenSpec.upto refEscapesSpec)

/-- 'bobbinetlaw.PickFinds', WHERE WHAT IT READS IS OF BULK AT MOST 1048576: true; the input reads as it did. -/
def pickFindsUptoRow : OpenClaim := { program := "ytekmfhoppbpobaa", sum := "f6eaa84eafb2579399cbde5252ac38315acf85c9154fc1373f6e110052b1fb22", func := "bobbinet/bobbinetlaw.PickFinds", spec := "pickFinds", unfollowed := true, recurses := true, loops := true, apart := false, narrowed := true }
def PickFindsUptoSaid : Prop := pickFindsUptoRow.holds Try.pinned (OpenSpec.upto pickFindsSpec)

/-- 'bobbinetlaw.PickTexts', WHERE WHAT IT READS IS OF BULK AT MOST 1048576: true; the input reads as it did. -/
def pickTextsUptoRow : OpenClaim := { program := "ytekmfhoppbpobaa", sum := "f6eaa84eafb2579399cbde5252ac38315acf85c9154fc1373f6e110052b1fb22", func := "bobbinet/bobbinetlaw.PickTexts", spec := "pickTexts", inPlace := ["internal/abi.NoEscape"], unfollowed := true, recurses := true, apart := false, narrowed := true }
def PickTextsUptoSaid : Prop := pickTextsUptoRow.holds Try.pinned (OpenSpec.upto pickTextsSpec)

/-- 'bobbinetlaw.SpaceNodeses', WHERE WHAT IT READS IS OF BULK AT MOST 1048576: true; the input reads as it did. -/
def spaceNodesesUptoRow : OpenClaim := { program := "ytekmfhoppbpobaa", sum := "f6eaa84eafb2579399cbde5252ac38315acf85c9154fc1373f6e110052b1fb22", func := "bobbinet/bobbinetlaw.SpaceNodeses", spec := "spaceNodeses", inPlace := ["internal/abi.NoEscape"], recurses := true, loops := true, apart := false, narrowed := true }
def SpaceNodesesUptoSaid : Prop := spaceNodesesUptoRow.holds Try.pinned (OpenSpec.upto spaceNodesesSpec)

/-- 'bobbinetlaw.ExprChecks', WHERE WHAT IT READS IS OF BULK AT MOST 1048576: true; the input reads as it did. -/
def exprChecksUptoRow : OpenClaim := { program := "ytekmfhoppbpobaa", sum := "f6eaa84eafb2579399cbde5252ac38315acf85c9154fc1373f6e110052b1fb22", func := "bobbinet/bobbinetlaw.ExprChecks", spec := "exprChecks", inPlace := ["internal/abi.NoEscape", "internal/bytealg.MakeNoZero"], unfollowed := true, recurses := true, loops := true, apart := false, narrowed := true }
def ExprChecksUptoSaid : Prop := exprChecksUptoRow.holds Try.pinned (OpenSpec.upto exprChecksSpec)

/-- 'bobbinetlaw.ExprPrints', WHERE WHAT IT READS IS OF BULK AT MOST 1048576: true; the input reads as it did. -/
def exprPrintsUptoRow : OpenClaim := { program := "ytekmfhoppbpobaa", sum := "f6eaa84eafb2579399cbde5252ac38315acf85c9154fc1373f6e110052b1fb22", func := "bobbinet/bobbinetlaw.ExprPrints", spec := "exprPrints", inPlace := ["internal/abi.NoEscape", "internal/bytealg.MakeNoZero"], unfollowed := true, recurses := true, loops := true, apart := false, narrowed := true }
def ExprPrintsUptoSaid : Prop := exprPrintsUptoRow.holds Try.pinned (OpenSpec.upto exprPrintsSpec)

/-- 'bobbinetlaw.EmitTexts', WHERE WHAT IT READS IS OF BULK AT MOST 1048576: true; the input reads as it did. -/
def emitTextsUptoRow : OpenClaim := { program := "ytekmfhoppbpobaa", sum := "f6eaa84eafb2579399cbde5252ac38315acf85c9154fc1373f6e110052b1fb22", func := "bobbinet/bobbinetlaw.EmitTexts", spec := "emitTexts", inPlace := ["internal/abi.NoEscape"], unfollowed := true, recurses := true, apart := false, narrowed := true }
def EmitTextsUptoSaid : Prop := emitTextsUptoRow.holds Try.pinned (OpenSpec.upto emitTextsSpec)

/-- 'bobbinetlaw.ShowTexts', WHERE WHAT IT READS IS OF BULK AT MOST 1048576: true; the input reads as it did. -/
def showTextsUptoRow : OpenClaim := { program := "ytekmfhoppbpobaa", sum := "f6eaa84eafb2579399cbde5252ac38315acf85c9154fc1373f6e110052b1fb22", func := "bobbinet/bobbinetlaw.ShowTexts", spec := "showTexts", inPlace := ["internal/abi.NoEscape"], unfollowed := true, recurses := true, loops := true, apart := false, narrowed := true }
def ShowTextsUptoSaid : Prop := showTextsUptoRow.holds Try.pinned (OpenSpec.upto showTextsSpec)

/-- 'bobbinetlaw.ExprParses', WHERE WHAT IT READS IS OF BULK AT MOST 1048576: true; the input reads as it did. -/
def exprParsesUptoRow : OpenClaim := { program := "ytekmfhoppbpobaa", sum := "f6eaa84eafb2579399cbde5252ac38315acf85c9154fc1373f6e110052b1fb22", func := "bobbinet/bobbinetlaw.ExprParses", spec := "exprParses", inPlace := ["internal/bytealg.IndexByteString", "internal/abi.NoEscape", "internal/bytealg.MakeNoZero"], unfollowed := true, recurses := true, apart := false, narrowed := true }
def ExprParsesUptoSaid : Prop := exprParsesUptoRow.holds Try.pinned (OpenSpec.upto exprParsesSpec)

end Rows
end Go.Proofs.Ytekmfhoppbpobaa
