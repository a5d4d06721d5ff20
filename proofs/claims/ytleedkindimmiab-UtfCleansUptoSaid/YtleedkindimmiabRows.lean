/-
  No cell of these rows narrows 'for every input' (looked for: loops, veiled, ifaces, maps, wideKeys, modest, calm, conditions, laid).
  DERIVED. THE GIVEN ROWS OF THIS SEAT. 6 by the template 'for every input the law returns true; each argument reads behind the call as it read before'; 0 by the template 'total and deterministic' (their statements: YtleedkindimmiabTotals.lean).
  GIVEN WITH THE SEED: the statements are not yours to turn. If you find one false, say at which input.
  Laid BY PROGRAM, IN A SANDBOX (cutbox-rows.mjs): the forced cells as the released guide's own fill.sh prints them over the translation 769e08c8e1463681… (all of the seat's roots in one cut). By AI agents, Wed Nov 11 2026. No macro, syntax, notation, axiom, sorry.
-/
import Derived.Test.YtleedkindimmiabChecked
import GoSem.Claim
import GoSem.ClaimJoined
import GoSem.ClaimMapViews
import Derived.JoinedTies
import Derived.KernelRfl
namespace Go.Proofs.Ytleedkindimmiab
/- THE CELL 'sum', in the pinned program and in every row, IS THE sha256 OF THE DUMP (.gsa) THAT YtleedkindimmiabProg.lean LOADS. Nothing in Lean hashes anything: it is a label: what it is worth is what the hold of that sum in a sandbox is worth. -/
noncomputable def Try.pinned : Pinned := { name := "ytleedkindimmiab", sum := "769e08c8e14636810e31cecddf1ecc2f966508ff74753a8ad260481d6b49fb7b", checked := Try.checked }
namespace Rows
def none {H : Type} : Left H := { results := [], args := [] }

/-- 'bobbinetlaw.UtfCleans': WHATEVER THE INPUT: true; the input reads as it did. -/
def utfCleansSpec : ChangeSpec := { name := "utfCleans", fn := fun _ => fun
  | [d] => { results := [.lit (.bool true)], args := [d] }
  | _ => none }
def utfCleansRow : OpenClaim := { program := "ytleedkindimmiab", sum := "769e08c8e14636810e31cecddf1ecc2f966508ff74753a8ad260481d6b49fb7b", func := "bobbinet/bobbinetlaw.UtfCleans", spec := "utfCleans", unfollowed := true, recurses := true, apart := false }
def UtfCleansSaid : Prop := utfCleansRow.holds Try.pinned (OpenSpec.ofChange utfCleansSpec)

/-- ITS FALSE NEIGHBOUR: 'it returns false'. Refute it at one input. -/
def utfCleansWrong : ChangeSpec := { name := "utfCleans", fn := fun _ => fun
  | [d] => { results := [.lit (.bool false)], args := [d] }
  | _ => none }
def UtfCleansWrongFalsely : Prop := utfCleansRow.holds Try.pinned (OpenSpec.ofChange utfCleansWrong)

/-- 'bobbinetlaw.StyleOnlies': WHATEVER THE INPUT: true; the input reads as it did. -/
def styleOnliesSpec : ChangeSpec := { name := "styleOnlies", fn := fun _ => fun
  | [d1, d2] => { results := [.lit (.bool true)], args := [d1, d2] }
  | _ => none }
def styleOnliesRow : OpenClaim := { program := "ytleedkindimmiab", sum := "769e08c8e14636810e31cecddf1ecc2f966508ff74753a8ad260481d6b49fb7b", func := "bobbinet/bobbinetlaw.StyleOnlies", spec := "styleOnlies", unfollowed := true, recurses := true, apart := false }
def StyleOnliesSaid : Prop := styleOnliesRow.holds Try.pinned (OpenSpec.ofChange styleOnliesSpec)

/-- ITS FALSE NEIGHBOUR: 'it returns false'. Refute it at one input. -/
def styleOnliesWrong : ChangeSpec := { name := "styleOnlies", fn := fun _ => fun
  | [d1, d2] => { results := [.lit (.bool false)], args := [d1, d2] }
  | _ => none }
def StyleOnliesWrongFalsely : Prop := styleOnliesRow.holds Try.pinned (OpenSpec.ofChange styleOnliesWrong)

/-- 'bobbinetlaw.AutoRuns': WHATEVER THE INPUT: true; the input reads as it did. -/
def autoRunsSpec : ChangeSpec := { name := "autoRuns", fn := fun _ => fun
  | [d1, d2] => { results := [.lit (.bool true)], args := [d1, d2] }
  | _ => none }
def autoRunsRow : OpenClaim := { program := "ytleedkindimmiab", sum := "769e08c8e14636810e31cecddf1ecc2f966508ff74753a8ad260481d6b49fb7b", func := "bobbinet/bobbinetlaw.AutoRuns", spec := "autoRuns", unfollowed := true, recurses := true, apart := false }
def AutoRunsSaid : Prop := autoRunsRow.holds Try.pinned (OpenSpec.ofChange autoRunsSpec)

/-- ITS FALSE NEIGHBOUR: 'it returns false'. Refute it at one input. -/
def autoRunsWrong : ChangeSpec := { name := "autoRuns", fn := fun _ => fun
  | [d1, d2] => { results := [.lit (.bool false)], args := [d1, d2] }
  | _ => none }
def AutoRunsWrongFalsely : Prop := autoRunsRow.holds Try.pinned (OpenSpec.ofChange autoRunsWrong)

/-- 'bobbinetlaw.SpaceTexts': WHATEVER THE INPUT: true; the input reads as it did. -/
def spaceTextsSpec : ChangeSpec := { name := "spaceTexts", fn := fun _ => fun
  | [d1, d2] => { results := [.lit (.bool true)], args := [d1, d2] }
  | _ => none }
def spaceTextsRow : OpenClaim := { program := "ytleedkindimmiab", sum := "769e08c8e14636810e31cecddf1ecc2f966508ff74753a8ad260481d6b49fb7b", func := "bobbinet/bobbinetlaw.SpaceTexts", spec := "spaceTexts", inPlace := ["internal/abi.NoEscape"], apart := false }
def SpaceTextsSaid : Prop := spaceTextsRow.holds Try.pinned (OpenSpec.ofChange spaceTextsSpec)

/-- ITS FALSE NEIGHBOUR: 'it returns false'. Refute it at one input. -/
def spaceTextsWrong : ChangeSpec := { name := "spaceTexts", fn := fun _ => fun
  | [d1, d2] => { results := [.lit (.bool false)], args := [d1, d2] }
  | _ => none }
def SpaceTextsWrongFalsely : Prop := spaceTextsRow.holds Try.pinned (OpenSpec.ofChange spaceTextsWrong)

/-- 'bobbinetlaw.UtfTexts': WHATEVER THE INPUT: true; the input reads as it did. -/
def utfTextsSpec : ChangeSpec := { name := "utfTexts", fn := fun _ => fun
  | [d] => { results := [.lit (.bool true)], args := [d] }
  | _ => none }
def utfTextsRow : OpenClaim := { program := "ytleedkindimmiab", sum := "769e08c8e14636810e31cecddf1ecc2f966508ff74753a8ad260481d6b49fb7b", func := "bobbinet/bobbinetlaw.UtfTexts", spec := "utfTexts", unfollowed := true, recurses := true, apart := false }
def UtfTextsSaid : Prop := utfTextsRow.holds Try.pinned (OpenSpec.ofChange utfTextsSpec)

/-- ITS FALSE NEIGHBOUR: 'it returns false'. Refute it at one input. -/
def utfTextsWrong : ChangeSpec := { name := "utfTexts", fn := fun _ => fun
  | [d] => { results := [.lit (.bool false)], args := [d] }
  | _ => none }
def UtfTextsWrongFalsely : Prop := utfTextsRow.holds Try.pinned (OpenSpec.ofChange utfTextsWrong)

/-- 'bobbinetlaw.RefEscapes': WHATEVER THE INPUT: true; the input reads as it did. -/
def refEscapesSpec : ChangeSpec := { name := "refEscapes", fn := fun _ => fun
  | [d1, d2] => { results := [.lit (.bool true)], args := [d1, d2] }
  | _ => none }
def refEscapesRow : OpenClaim := { program := "ytleedkindimmiab", sum := "769e08c8e14636810e31cecddf1ecc2f966508ff74753a8ad260481d6b49fb7b", func := "bobbinet/bobbinetlaw.RefEscapes", spec := "refEscapes", inPlace := ["internal/abi.NoEscape"], apart := false }
def RefEscapesSaid : Prop := refEscapesRow.holds Try.pinned (OpenSpec.ofChange refEscapesSpec)

/-- ITS FALSE NEIGHBOUR: 'it returns false'. Refute it at one input. -/
def refEscapesWrong : ChangeSpec := { name := "refEscapes", fn := fun _ => fun
  | [d1, d2] => { results := [.lit (.bool false)], args := [d1, d2] }
  | _ => none }
def RefEscapesWrongFalsely : Prop := refEscapesRow.holds Try.pinned (OpenSpec.ofChange refEscapesWrong)

/- THE SECOND FORM. 'bulk': how many values and letters a reading holds, each counted each time it is reached (what is shared counts as often as it is met; a slice's spare places count too). A statement '..UptoSaid' is the law's where the arguments, and the package variables that the reading takes, are together of bulk at most 1048576: NARROWER than '..Said'. Prove '..Said' where nothing that the law and all that it calls make is longer than what came in: it says more and counts as full. Else prove '..UptoSaid'. A law counts once. -/
mutual
def uptoBulk {H : Type} : DataW H → Nat
  | .lit (.string bytes) => bytes.length + 1
  | .lit _ => 1
  | .nil => 1
  | .ptr d => uptoBulk d + 1
  | .slice elems spare => uptoBulkAll elems + uptoBulkAll spare + 1
  | .agg parts => uptoBulkAll parts + 1
  | .iface _ d => uptoBulk d + 1
  | .map entries => uptoBulkEntries entries + 1
  | .held _ => 1
def uptoBulkAll {H : Type} : List (DataW H) → Nat
  | [] => 0
  | d :: r => uptoBulk d + uptoBulkAll r
def uptoBulkEntries {H : Type} : List (Lit × DataW H) → Nat
  | [] => 0
  | x :: r => uptoBulkEntry x + uptoBulkEntries r
def uptoBulkEntry {H : Type} : Lit × DataW H → Nat
  | (.string bytes, d) => bytes.length + uptoBulk d + 1
  | (_, d) => uptoBulk d + 1
 end
def uptoSmall : (H : Type) → List (DataW H) → Bool := fun _ ds => decide (uptoBulkAll ds ≤ 1048576)
def OpenSpec.upto (s : _root_.Go.ChangeSpec) : _root_.Go.OpenSpec := { _root_.Go.OpenSpec.ofChange s with cond := some uptoSmall }

/-- 'bobbinetlaw.UtfCleans', WHERE WHAT IT READS IS OF BULK AT MOST 1048576: true; the input reads as it did. -/
def utfCleansUptoRow : OpenClaim := { program := "ytleedkindimmiab", sum := "769e08c8e14636810e31cecddf1ecc2f966508ff74753a8ad260481d6b49fb7b", func := "bobbinet/bobbinetlaw.UtfCleans", spec := "utfCleans", unfollowed := true, recurses := true, apart := false, narrowed := true }
def UtfCleansUptoSaid : Prop := utfCleansUptoRow.holds Try.pinned (OpenSpec.upto utfCleansSpec)

/-- 'bobbinetlaw.StyleOnlies', WHERE WHAT IT READS IS OF BULK AT MOST 1048576: true; the input reads as it did. -/
def styleOnliesUptoRow : OpenClaim := { program := "ytleedkindimmiab", sum := "769e08c8e14636810e31cecddf1ecc2f966508ff74753a8ad260481d6b49fb7b", func := "bobbinet/bobbinetlaw.StyleOnlies", spec := "styleOnlies", unfollowed := true, recurses := true, apart := false, narrowed := true }
def StyleOnliesUptoSaid : Prop := styleOnliesUptoRow.holds Try.pinned (OpenSpec.upto styleOnliesSpec)

/-- 'bobbinetlaw.AutoRuns', WHERE WHAT IT READS IS OF BULK AT MOST 1048576: true; the input reads as it did. -/
def autoRunsUptoRow : OpenClaim := { program := "ytleedkindimmiab", sum := "769e08c8e14636810e31cecddf1ecc2f966508ff74753a8ad260481d6b49fb7b", func := "bobbinet/bobbinetlaw.AutoRuns", spec := "autoRuns", unfollowed := true, recurses := true, apart := false, narrowed := true }
def AutoRunsUptoSaid : Prop := autoRunsUptoRow.holds Try.pinned (OpenSpec.upto autoRunsSpec)

/-- 'bobbinetlaw.SpaceTexts', WHERE WHAT IT READS IS OF BULK AT MOST 1048576: true; the input reads as it did. -/
def spaceTextsUptoRow : OpenClaim := { program := "ytleedkindimmiab", sum := "769e08c8e14636810e31cecddf1ecc2f966508ff74753a8ad260481d6b49fb7b", func := "bobbinet/bobbinetlaw.SpaceTexts", spec := "spaceTexts", inPlace := ["internal/abi.NoEscape"], apart := false, narrowed := true }
def SpaceTextsUptoSaid : Prop := spaceTextsUptoRow.holds Try.pinned (OpenSpec.upto spaceTextsSpec)

/-- 'bobbinetlaw.UtfTexts', WHERE WHAT IT READS IS OF BULK AT MOST 1048576: true; the input reads as it did. -/
def utfTextsUptoRow : OpenClaim := { program := "ytleedkindimmiab", sum := "769e08c8e14636810e31cecddf1ecc2f966508ff74753a8ad260481d6b49fb7b", func := "bobbinet/bobbinetlaw.UtfTexts", spec := "utfTexts", unfollowed := true, recurses := true, apart := false, narrowed := true }
def UtfTextsUptoSaid : Prop := utfTextsUptoRow.holds Try.pinned (OpenSpec.upto utfTextsSpec)

/-- 'bobbinetlaw.RefEscapes', WHERE WHAT IT READS IS OF BULK AT MOST 1048576: true; the input reads as it did. -/
def refEscapesUptoRow : OpenClaim := { program := "ytleedkindimmiab", sum := "769e08c8e14636810e31cecddf1ecc2f966508ff74753a8ad260481d6b49fb7b", func := "bobbinet/bobbinetlaw.RefEscapes", spec := "refEscapes", inPlace := ["internal/abi.NoEscape"], apart := false, narrowed := true }
def RefEscapesUptoSaid : Prop := refEscapesUptoRow.holds Try.pinned (OpenSpec.upto refEscapesSpec)

end Rows
end Go.Proofs.Ytleedkindimmiab
