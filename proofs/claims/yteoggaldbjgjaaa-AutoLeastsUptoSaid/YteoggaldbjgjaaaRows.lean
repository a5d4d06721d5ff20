/-
  NARROWER THAN 'FOR EVERY INPUT', by the rows' own cells (each row's printed sentence says how): PickFinds: loops · SpaceNodeses: loops · RulesApplies: loops · ExprChecks: loops · ExprPrints: loops · WalkPlays: loops · WalkInverts: loops.
  DERIVED. THE GIVEN ROWS OF THIS SEAT. 9 by the template 'for every input the law returns true; each argument reads behind the call as it read before'; 0 by the template 'total and deterministic' (their statements: YteoggaldbjgjaaaTotals.lean).
  GIVEN WITH THE SEED: the statements are not yours to turn. If you find one false, say at which input.
  Laid BY PROGRAM, IN A SANDBOX (cutbox-rows.mjs): the forced cells as the released guide's own fill.sh prints them over the translation da477d3cf3597045… (all of the seat's roots in one cut). By AI agents, Wed Nov 11 2026. No macro, syntax, notation, axiom, sorry.
-/
import Derived.Test.YteoggaldbjgjaaaChecked
import GoSem.Claim
import GoSem.ClaimJoined
import GoSem.ClaimMapViews
import Derived.JoinedTies
import Derived.KernelRfl
namespace Go.Proofs.Yteoggaldbjgjaaa
/- THE CELL 'sum', in the pinned program and in every row, IS THE sha256 OF THE DUMP (.gsa) THAT YteoggaldbjgjaaaProg.lean LOADS. Nothing in Lean hashes anything: it is a label: what it is worth is what the hold of that sum in a sandbox is worth. -/
noncomputable def Try.pinned : Pinned := { name := "yteoggaldbjgjaaa", sum := "da477d3cf35970455b1acb4b08db46e7cabcbc02b28a4a4b0181633bca0fff0d", checked := Try.checked }
namespace Rows
def none {H : Type} : Left H := { results := [], args := [] }

/-- 'bobbinetlaw.AutoLeasts': WHATEVER THE INPUT: true; the input reads as it did. -/
def autoLeastsSpec : ChangeSpec := { name := "autoLeasts", fn := fun _ => fun
  | [d] => { results := [.lit (.bool true)], args := [d] }
  | _ => none }
def autoLeastsRow : OpenClaim := { program := "yteoggaldbjgjaaa", sum := "da477d3cf35970455b1acb4b08db46e7cabcbc02b28a4a4b0181633bca0fff0d", func := "bobbinet/bobbinetlaw.AutoLeasts", spec := "autoLeasts", unfollowed := true, recurses := true, plainKeys := false, apart := false }
def AutoLeastsSaid : Prop := autoLeastsRow.holds Try.pinned (OpenSpec.ofChange autoLeastsSpec)

/-- ITS FALSE NEIGHBOUR: 'it returns false'. Refute it at one input. -/
def autoLeastsWrong : ChangeSpec := { name := "autoLeasts", fn := fun _ => fun
  | [d] => { results := [.lit (.bool false)], args := [d] }
  | _ => none }
def AutoLeastsWrongFalsely : Prop := autoLeastsRow.holds Try.pinned (OpenSpec.ofChange autoLeastsWrong)

/-- 'bobbinetlaw.AutoSames': WHATEVER THE INPUT: true; the input reads as it did. -/
def autoSamesSpec : ChangeSpec := { name := "autoSames", fn := fun _ => fun
  | [d1, d2] => { results := [.lit (.bool true)], args := [d1, d2] }
  | _ => none }
def autoSamesRow : OpenClaim := { program := "yteoggaldbjgjaaa", sum := "da477d3cf35970455b1acb4b08db46e7cabcbc02b28a4a4b0181633bca0fff0d", func := "bobbinet/bobbinetlaw.AutoSames", spec := "autoSames", unfollowed := true, recurses := true, plainKeys := false, apart := false }
def AutoSamesSaid : Prop := autoSamesRow.holds Try.pinned (OpenSpec.ofChange autoSamesSpec)

/-- ITS FALSE NEIGHBOUR: 'it returns false'. Refute it at one input. -/
def autoSamesWrong : ChangeSpec := { name := "autoSames", fn := fun _ => fun
  | [d1, d2] => { results := [.lit (.bool false)], args := [d1, d2] }
  | _ => none }
def AutoSamesWrongFalsely : Prop := autoSamesRow.holds Try.pinned (OpenSpec.ofChange autoSamesWrong)

/-- 'bobbinetlaw.PickFinds': WHATEVER THE INPUT: true; the input reads as it did. -/
def pickFindsSpec : ChangeSpec := { name := "pickFinds", fn := fun _ => fun
  | [d1, d2] => { results := [.lit (.bool true)], args := [d1, d2] }
  | _ => none }
def pickFindsRow : OpenClaim := { program := "yteoggaldbjgjaaa", sum := "da477d3cf35970455b1acb4b08db46e7cabcbc02b28a4a4b0181633bca0fff0d", func := "bobbinet/bobbinetlaw.PickFinds", spec := "pickFinds", unfollowed := true, recurses := true, loops := true, plainKeys := false, apart := false }
def PickFindsSaid : Prop := pickFindsRow.holds Try.pinned (OpenSpec.ofChange pickFindsSpec)

/-- ITS FALSE NEIGHBOUR: 'it returns false'. Refute it at one input. -/
def pickFindsWrong : ChangeSpec := { name := "pickFinds", fn := fun _ => fun
  | [d1, d2] => { results := [.lit (.bool false)], args := [d1, d2] }
  | _ => none }
def PickFindsWrongFalsely : Prop := pickFindsRow.holds Try.pinned (OpenSpec.ofChange pickFindsWrong)

/-- 'bobbinetlaw.SpaceNodeses': WHATEVER THE INPUT: true; the input reads as it did. -/
def spaceNodesesSpec : ChangeSpec := { name := "spaceNodeses", fn := fun _ => fun
  | [d] => { results := [.lit (.bool true)], args := [d] }
  | _ => none }
def spaceNodesesRow : OpenClaim := { program := "yteoggaldbjgjaaa", sum := "da477d3cf35970455b1acb4b08db46e7cabcbc02b28a4a4b0181633bca0fff0d", func := "bobbinet/bobbinetlaw.SpaceNodeses", spec := "spaceNodeses", inPlace := ["internal/abi.NoEscape"], recurses := true, loops := true, plainKeys := false, apart := false }
def SpaceNodesesSaid : Prop := spaceNodesesRow.holds Try.pinned (OpenSpec.ofChange spaceNodesesSpec)

/-- ITS FALSE NEIGHBOUR: 'it returns false'. Refute it at one input. -/
def spaceNodesesWrong : ChangeSpec := { name := "spaceNodeses", fn := fun _ => fun
  | [d] => { results := [.lit (.bool false)], args := [d] }
  | _ => none }
def SpaceNodesesWrongFalsely : Prop := spaceNodesesRow.holds Try.pinned (OpenSpec.ofChange spaceNodesesWrong)

/-- 'bobbinetlaw.RulesApplies': WHATEVER THE INPUT: true; the input reads as it did. -/
def rulesAppliesSpec : ChangeSpec := { name := "rulesApplies", fn := fun _ => fun
  | [d1, d2] => { results := [.lit (.bool true)], args := [d1, d2] }
  | _ => none }
def rulesAppliesRow : OpenClaim := { program := "yteoggaldbjgjaaa", sum := "da477d3cf35970455b1acb4b08db46e7cabcbc02b28a4a4b0181633bca0fff0d", func := "bobbinet/bobbinetlaw.RulesApplies", spec := "rulesApplies", unfollowed := true, recurses := true, loops := true, plainKeys := false, apart := false }
def RulesAppliesSaid : Prop := rulesAppliesRow.holds Try.pinned (OpenSpec.ofChange rulesAppliesSpec)

/-- ITS FALSE NEIGHBOUR: 'it returns false'. Refute it at one input. -/
def rulesAppliesWrong : ChangeSpec := { name := "rulesApplies", fn := fun _ => fun
  | [d1, d2] => { results := [.lit (.bool false)], args := [d1, d2] }
  | _ => none }
def RulesAppliesWrongFalsely : Prop := rulesAppliesRow.holds Try.pinned (OpenSpec.ofChange rulesAppliesWrong)

/-- 'bobbinetlaw.ExprChecks': WHATEVER THE INPUT: true; the input reads as it did. -/
def exprChecksSpec : ChangeSpec := { name := "exprChecks", fn := fun _ => fun
  | [d] => { results := [.lit (.bool true)], args := [d] }
  | _ => none }
def exprChecksRow : OpenClaim := { program := "yteoggaldbjgjaaa", sum := "da477d3cf35970455b1acb4b08db46e7cabcbc02b28a4a4b0181633bca0fff0d", func := "bobbinet/bobbinetlaw.ExprChecks", spec := "exprChecks", inPlace := ["internal/abi.NoEscape", "internal/bytealg.MakeNoZero"], unfollowed := true, recurses := true, loops := true, plainKeys := false, apart := false }
def ExprChecksSaid : Prop := exprChecksRow.holds Try.pinned (OpenSpec.ofChange exprChecksSpec)

/-- ITS FALSE NEIGHBOUR: 'it returns false'. Refute it at one input. -/
def exprChecksWrong : ChangeSpec := { name := "exprChecks", fn := fun _ => fun
  | [d] => { results := [.lit (.bool false)], args := [d] }
  | _ => none }
def ExprChecksWrongFalsely : Prop := exprChecksRow.holds Try.pinned (OpenSpec.ofChange exprChecksWrong)

/-- 'bobbinetlaw.ExprPrints': WHATEVER THE INPUT: true; the input reads as it did. -/
def exprPrintsSpec : ChangeSpec := { name := "exprPrints", fn := fun _ => fun
  | [d] => { results := [.lit (.bool true)], args := [d] }
  | _ => none }
def exprPrintsRow : OpenClaim := { program := "yteoggaldbjgjaaa", sum := "da477d3cf35970455b1acb4b08db46e7cabcbc02b28a4a4b0181633bca0fff0d", func := "bobbinet/bobbinetlaw.ExprPrints", spec := "exprPrints", inPlace := ["internal/abi.NoEscape", "internal/bytealg.MakeNoZero"], unfollowed := true, recurses := true, loops := true, plainKeys := false, apart := false }
def ExprPrintsSaid : Prop := exprPrintsRow.holds Try.pinned (OpenSpec.ofChange exprPrintsSpec)

/-- ITS FALSE NEIGHBOUR: 'it returns false'. Refute it at one input. -/
def exprPrintsWrong : ChangeSpec := { name := "exprPrints", fn := fun _ => fun
  | [d] => { results := [.lit (.bool false)], args := [d] }
  | _ => none }
def ExprPrintsWrongFalsely : Prop := exprPrintsRow.holds Try.pinned (OpenSpec.ofChange exprPrintsWrong)

/-- 'bobbinetlaw.WalkPlays': WHATEVER THE INPUT: true; the input reads as it did. -/
def walkPlaysSpec : ChangeSpec := { name := "walkPlays", fn := fun _ => fun
  | [d1, d2] => { results := [.lit (.bool true)], args := [d1, d2] }
  | _ => none }
def walkPlaysRow : OpenClaim := { program := "yteoggaldbjgjaaa", sum := "da477d3cf35970455b1acb4b08db46e7cabcbc02b28a4a4b0181633bca0fff0d", func := "bobbinet/bobbinetlaw.WalkPlays", spec := "walkPlays", inPlace := ["slices.overlaps[bobbinet/api.Node]"], recurses := true, loops := true, plainKeys := false, apart := false }
def WalkPlaysSaid : Prop := walkPlaysRow.holds Try.pinned (OpenSpec.ofChange walkPlaysSpec)

/-- ITS FALSE NEIGHBOUR: 'it returns false'. Refute it at one input. -/
def walkPlaysWrong : ChangeSpec := { name := "walkPlays", fn := fun _ => fun
  | [d1, d2] => { results := [.lit (.bool false)], args := [d1, d2] }
  | _ => none }
def WalkPlaysWrongFalsely : Prop := walkPlaysRow.holds Try.pinned (OpenSpec.ofChange walkPlaysWrong)

/-- 'bobbinetlaw.WalkInverts': WHATEVER THE INPUT: true; the input reads as it did. -/
def walkInvertsSpec : ChangeSpec := { name := "walkInverts", fn := fun _ => fun
  | [d1, d2] => { results := [.lit (.bool true)], args := [d1, d2] }
  | _ => none }
def walkInvertsRow : OpenClaim := { program := "yteoggaldbjgjaaa", sum := "da477d3cf35970455b1acb4b08db46e7cabcbc02b28a4a4b0181633bca0fff0d", func := "bobbinet/bobbinetlaw.WalkInverts", spec := "walkInverts", inPlace := ["slices.overlaps[bobbinet/api.Node]"], recurses := true, loops := true, plainKeys := false, apart := false }
def WalkInvertsSaid : Prop := walkInvertsRow.holds Try.pinned (OpenSpec.ofChange walkInvertsSpec)

/-- ITS FALSE NEIGHBOUR: 'it returns false'. Refute it at one input. -/
def walkInvertsWrong : ChangeSpec := { name := "walkInverts", fn := fun _ => fun
  | [d1, d2] => { results := [.lit (.bool false)], args := [d1, d2] }
  | _ => none }
def WalkInvertsWrongFalsely : Prop := walkInvertsRow.holds Try.pinned (OpenSpec.ofChange walkInvertsWrong)

/- THE SECOND FORM. 'bulk': how many values and letters a reading holds, each counted each time it is reached (what is shared counts as often as it is met; a slice's spare places count too). A statement '..UptoSaid' is the law's where the arguments, and the package variables that the reading takes, are together of bulk at most 1048576: NARROWER than '..Said'. Prove '..Said' where nothing that the law and all that it calls make is longer than what came in: it says more and counts as full. Else prove '..UptoSaid'. A law counts once. -/
mutual
def uptoBulk {H : Type} : DataW H → Nat
  | .lit (.string bytes) => bytes.length + 1
  | .lit _ => 1
  | .nil => 1
  | .ptr d => uptoBulk d + 1
  | .slice elems spare => uptoBulkAll elems + uptoBulkAll spare + 1
  | .agg parts => uptoBulkAll parts + 1
  | .iface _ d => uptoBulk d + 1
  | .map entries => uptoBulkEntries entries + 1
  | .held _ => 1
def uptoBulkAll {H : Type} : List (DataW H) → Nat
  | [] => 0
  | d :: r => uptoBulk d + uptoBulkAll r
def uptoBulkEntries {H : Type} : List (Lit × DataW H) → Nat
  | [] => 0
  | x :: r => uptoBulkEntry x + uptoBulkEntries r
def uptoBulkEntry {H : Type} : Lit × DataW H → Nat
  | (.string bytes, d) => bytes.length + uptoBulk d + 1
  | (_, d) => uptoBulk d + 1
 end
def uptoSmall : (H : Type) → List (DataW H) → Bool := fun _ ds => decide (uptoBulkAll ds ≤ 1048576)
def OpenSpec.upto (s : _root_.Go.ChangeSpec) : _root_.Go.OpenSpec := { _root_.Go.OpenSpec.ofChange s with cond := some uptoSmall }

/-- 'bobbinetlaw.AutoLeasts', WHERE WHAT IT READS IS OF BULK AT MOST 1048576: true; the input reads as it did. -/
def autoLeastsUptoRow : OpenClaim := { program := "yteoggaldbjgjaaa", sum := "da477d3cf35970455b1acb4b08db46e7cabcbc02b28a4a4b0181633bca0fff0d", func := "bobbinet/bobbinetlaw.AutoLeasts", spec := "autoLeasts", unfollowed := true, recurses := true, plainKeys := false, apart := false, narrowed := true }
def AutoLeastsUptoSaid : Prop := autoLeastsUptoRow.holds Try.pinned (OpenSpec.upto autoLeastsSpec)

/-- 'bobbinetlaw.AutoSames', WHERE WHAT IT READS IS OF BULK AT MOST 1048576: true; the input reads as it did. -/
def autoSamesUptoRow : OpenClaim := { program := "yteoggaldbjgjaaa", sum := "da477d3cf35970455b1acb4b08db46e7cabcbc02b28a4a4b0181633bca0fff0d", func := "bobbinet/bobbinetlaw.AutoSames", spec := "autoSames", unfollowed := true, recurses := true, plainKeys := false, apart := false, narrowed := true }
def AutoSamesUptoSaid : Prop := autoSamesUptoRow.holds Try.pinned (OpenSpec.upto autoSamesSpec)

/-- 'bobbinetlaw.PickFinds', WHERE WHAT IT READS IS OF BULK AT MOST 1048576: true; the input reads as it did. -/
def pickFindsUptoRow : OpenClaim := { program := "yteoggaldbjgjaaa", sum := "da477d3cf35970455b1acb4b08db46e7cabcbc02b28a4a4b0181633bca0fff0d", func := "bobbinet/bobbinetlaw.PickFinds", spec := "pickFinds", unfollowed := true, recurses := true, loops := true, plainKeys := false, apart := false, narrowed := true }
def PickFindsUptoSaid : Prop := pickFindsUptoRow.holds Try.pinned (OpenSpec.upto pickFindsSpec)

/-- 'bobbinetlaw.SpaceNodeses', WHERE WHAT IT READS IS OF BULK AT MOST 1048576: true; the input reads as it did. -/
def spaceNodesesUptoRow : OpenClaim := { program := "yteoggaldbjgjaaa", sum := "da477d3cf35970455b1acb4b08db46e7cabcbc02b28a4a4b0181633bca0fff0d", func := "bobbinet/bobbinetlaw.SpaceNodeses", spec := "spaceNodeses", inPlace := ["internal/abi.NoEscape"], recurses := true, loops := true, plainKeys := false, apart := false, narrowed := true }
def SpaceNodesesUptoSaid : Prop := spaceNodesesUptoRow.holds Try.pinned (OpenSpec.upto spaceNodesesSpec)

/-- 'bobbinetlaw.RulesApplies', WHERE WHAT IT READS IS OF BULK AT MOST 1048576: true; the input reads as it did. -/
def rulesAppliesUptoRow : OpenClaim := { program := "yteoggaldbjgjaaa", sum := "da477d3cf35970455b1acb4b08db46e7cabcbc02b28a4a4b0181633bca0fff0d", func := "bobbinet/bobbinetlaw.RulesApplies", spec := "rulesApplies", unfollowed := true, recurses := true, loops := true, plainKeys := false, apart := false, narrowed := true }
def RulesAppliesUptoSaid : Prop := rulesAppliesUptoRow.holds Try.pinned (OpenSpec.upto rulesAppliesSpec)

/-- 'bobbinetlaw.ExprChecks', WHERE WHAT IT READS IS OF BULK AT MOST 1048576: true; the input reads as it did. -/
def exprChecksUptoRow : OpenClaim := { program := "yteoggaldbjgjaaa", sum := "da477d3cf35970455b1acb4b08db46e7cabcbc02b28a4a4b0181633bca0fff0d", func := "bobbinet/bobbinetlaw.ExprChecks", spec := "exprChecks", inPlace := ["internal/abi.NoEscape", "internal/bytealg.MakeNoZero"], unfollowed := true, recurses := true, loops := true, plainKeys := false, apart := false, narrowed := true }
def ExprChecksUptoSaid : Prop := exprChecksUptoRow.holds Try.pinned (OpenSpec.upto exprChecksSpec)

/-- 'bobbinetlaw.ExprPrints', WHERE WHAT IT READS IS OF BULK AT MOST 1048576: true; the input reads as it did. -/
def exprPrintsUptoRow : OpenClaim := { program := "yteoggaldbjgjaaa", sum := "da477d3cf35970455b1acb4b08db46e7cabcbc02b28a4a4b0181633bca0fff0d", func := "bobbinet/bobbinetlaw.ExprPrints", spec := "exprPrints", inPlace := ["internal/abi.NoEscape", "internal/bytealg.MakeNoZero"], unfollowed := true, recurses := true, loops := true, plainKeys := false, apart := false, narrowed := true }
def ExprPrintsUptoSaid : Prop := exprPrintsUptoRow.holds Try.pinned (OpenSpec.upto exprPrintsSpec)

/-- 'bobbinetlaw.WalkPlays', WHERE WHAT IT READS IS OF BULK AT MOST 1048576: true; the input reads as it did. -/
def walkPlaysUptoRow : OpenClaim := { program := "yteoggaldbjgjaaa", sum := "da477d3cf35970455b1acb4b08db46e7cabcbc02b28a4a4b0181633bca0fff0d", func := "bobbinet/bobbinetlaw.WalkPlays", spec := "walkPlays", inPlace := ["slices.overlaps[bobbinet/api.Node]"], recurses := true, loops := true, plainKeys := false, apart := false, narrowed := true }
def WalkPlaysUptoSaid : Prop := walkPlaysUptoRow.holds Try.pinned (OpenSpec.upto walkPlaysSpec)

/-- 'bobbinetlaw.WalkInverts', WHERE WHAT IT READS IS OF BULK AT MOST 1048576: true; the input reads as it did. -/
def walkInvertsUptoRow : OpenClaim := { program := "yteoggaldbjgjaaa", sum := "da477d3cf35970455b1acb4b08db46e7cabcbc02b28a4a4b0181633bca0fff0d", func := "bobbinet/bobbinetlaw.WalkInverts", spec := "walkInverts", inPlace := ["slices.overlaps[bobbinet/api.Node]"], recurses := true, loops := true, plainKeys := false, apart := false, narrowed := true }
def WalkInvertsUptoSaid : Prop := walkInvertsUptoRow.holds Try.pinned (OpenSpec.upto walkInvertsSpec)

end Rows
end Go.Proofs.Yteoggaldbjgjaaa
