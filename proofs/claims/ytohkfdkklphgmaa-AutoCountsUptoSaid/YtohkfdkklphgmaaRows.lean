/-
  NARROWER THAN 'FOR EVERY INPUT', by the rows' own cells (each row's printed sentence says how): SpaceNodeses: loops · RulesApplies: loops.
  DERIVED. THE GIVEN ROWS OF THIS SEAT. 6 by the template 'for every input the law returns true; each argument reads behind the call as it read before'; 0 by the template 'total and deterministic' (their statements: YtohkfdkklphgmaaTotals.lean).
  GIVEN WITH THE SEED: the statements are not yours to turn. If you find one false, say at which input.
  Laid BY PROGRAM, IN A SANDBOX (cutbox-rows.mjs): the forced cells as the released guide's own fill.sh prints them over the translation 0ee6f4d562cae595… (all of the seat's roots in one cut). By AI agents, Wed Nov 11 2026. No macro, syntax, notation, axiom, sorry.
-/
import Derived.Test.YtohkfdkklphgmaaChecked
import GoSem.Claim
import GoSem.ClaimJoined
import GoSem.ClaimMapViews
import Derived.JoinedTies
import Derived.KernelRfl
namespace Go.Proofs.Ytohkfdkklphgmaa
/- THE CELL 'sum', in the pinned program and in every row, IS THE sha256 OF THE DUMP (.gsa) THAT YtohkfdkklphgmaaProg.lean LOADS. Nothing in Lean hashes anything: it is a label: what it is worth is what the hold of that sum in a sandbox is worth. -/
noncomputable def Try.pinned : Pinned := { name := "ytohkfdkklphgmaa", sum := "0ee6f4d562cae59524d6f5b7505715c3ac5fdbacc6c95914839f60d9142999a3", checked := Try.checked }
namespace Rows
def none {H : Type} : Left H := { results := [], args := [] }

/-- 'bobbinetlaw.AutoCounts': WHATEVER THE INPUT: true; the input reads as it did. -/
def autoCountsSpec : ChangeSpec := { name := "autoCounts", fn := fun _ => fun
  | [d1, d2] => { results := [.lit (.bool true)], args := [d1, d2] }
  | _ => none }
def autoCountsRow : OpenClaim := { program := "ytohkfdkklphgmaa", sum := "0ee6f4d562cae59524d6f5b7505715c3ac5fdbacc6c95914839f60d9142999a3", func := "bobbinet/bobbinetlaw.AutoCounts", spec := "autoCounts", unfollowed := true, recurses := true, apart := false }
def AutoCountsSaid : Prop := autoCountsRow.holds Try.pinned (OpenSpec.ofChange autoCountsSpec)

/-- ITS FALSE NEIGHBOUR: 'it returns false'. Refute it at one input. -/
def autoCountsWrong : ChangeSpec := { name := "autoCounts", fn := fun _ => fun
  | [d1, d2] => { results := [.lit (.bool false)], args := [d1, d2] }
  | _ => none }
def AutoCountsWrongFalsely : Prop := autoCountsRow.holds Try.pinned (OpenSpec.ofChange autoCountsWrong)

/-- 'bobbinetlaw.RulesChecks': WHATEVER THE INPUT: true; the input reads as it did. -/
def rulesChecksSpec : ChangeSpec := { name := "rulesChecks", fn := fun _ => fun
  | [d] => { results := [.lit (.bool true)], args := [d] }
  | _ => none }
def rulesChecksRow : OpenClaim := { program := "ytohkfdkklphgmaa", sum := "0ee6f4d562cae59524d6f5b7505715c3ac5fdbacc6c95914839f60d9142999a3", func := "bobbinet/bobbinetlaw.RulesChecks", spec := "rulesChecks", unfollowed := true, recurses := true, apart := false }
def RulesChecksSaid : Prop := rulesChecksRow.holds Try.pinned (OpenSpec.ofChange rulesChecksSpec)

/-- ITS FALSE NEIGHBOUR: 'it returns false'. Refute it at one input. -/
def rulesChecksWrong : ChangeSpec := { name := "rulesChecks", fn := fun _ => fun
  | [d] => { results := [.lit (.bool false)], args := [d] }
  | _ => none }
def RulesChecksWrongFalsely : Prop := rulesChecksRow.holds Try.pinned (OpenSpec.ofChange rulesChecksWrong)

/-- 'bobbinetlaw.PickTexts': WHATEVER THE INPUT: true; the input reads as it did. -/
def pickTextsSpec : ChangeSpec := { name := "pickTexts", fn := fun _ => fun
  | [d] => { results := [.lit (.bool true)], args := [d] }
  | _ => none }
def pickTextsRow : OpenClaim := { program := "ytohkfdkklphgmaa", sum := "0ee6f4d562cae59524d6f5b7505715c3ac5fdbacc6c95914839f60d9142999a3", func := "bobbinet/bobbinetlaw.PickTexts", spec := "pickTexts", inPlace := ["internal/abi.NoEscape"], unfollowed := true, recurses := true, apart := false }
def PickTextsSaid : Prop := pickTextsRow.holds Try.pinned (OpenSpec.ofChange pickTextsSpec)

/-- ITS FALSE NEIGHBOUR: 'it returns false'. Refute it at one input. -/
def pickTextsWrong : ChangeSpec := { name := "pickTexts", fn := fun _ => fun
  | [d] => { results := [.lit (.bool false)], args := [d] }
  | _ => none }
def PickTextsWrongFalsely : Prop := pickTextsRow.holds Try.pinned (OpenSpec.ofChange pickTextsWrong)

/-- 'bobbinetlaw.SpaceNodeses': WHATEVER THE INPUT: true; the input reads as it did. -/
def spaceNodesesSpec : ChangeSpec := { name := "spaceNodeses", fn := fun _ => fun
  | [d] => { results := [.lit (.bool true)], args := [d] }
  | _ => none }
def spaceNodesesRow : OpenClaim := { program := "ytohkfdkklphgmaa", sum := "0ee6f4d562cae59524d6f5b7505715c3ac5fdbacc6c95914839f60d9142999a3", func := "bobbinet/bobbinetlaw.SpaceNodeses", spec := "spaceNodeses", inPlace := ["internal/abi.NoEscape"], recurses := true, loops := true, apart := false }
def SpaceNodesesSaid : Prop := spaceNodesesRow.holds Try.pinned (OpenSpec.ofChange spaceNodesesSpec)

/-- ITS FALSE NEIGHBOUR: 'it returns false'. Refute it at one input. -/
def spaceNodesesWrong : ChangeSpec := { name := "spaceNodeses", fn := fun _ => fun
  | [d] => { results := [.lit (.bool false)], args := [d] }
  | _ => none }
def SpaceNodesesWrongFalsely : Prop := spaceNodesesRow.holds Try.pinned (OpenSpec.ofChange spaceNodesesWrong)

/-- 'bobbinetlaw.EmitChecks': WHATEVER THE INPUT: true; the input reads as it did. -/
def emitChecksSpec : ChangeSpec := { name := "emitChecks", fn := fun _ => fun
  | [d] => { results := [.lit (.bool true)], args := [d] }
  | _ => none }
def emitChecksRow : OpenClaim := { program := "ytohkfdkklphgmaa", sum := "0ee6f4d562cae59524d6f5b7505715c3ac5fdbacc6c95914839f60d9142999a3", func := "bobbinet/bobbinetlaw.EmitChecks", spec := "emitChecks", unfollowed := true, recurses := true, apart := false }
def EmitChecksSaid : Prop := emitChecksRow.holds Try.pinned (OpenSpec.ofChange emitChecksSpec)

/-- ITS FALSE NEIGHBOUR: 'it returns false'. Refute it at one input. -/
def emitChecksWrong : ChangeSpec := { name := "emitChecks", fn := fun _ => fun
  | [d] => { results := [.lit (.bool false)], args := [d] }
  | _ => none }
def EmitChecksWrongFalsely : Prop := emitChecksRow.holds Try.pinned (OpenSpec.ofChange emitChecksWrong)

/-- 'bobbinetlaw.RulesApplies': WHATEVER THE INPUT: true; the input reads as it did. -/
def rulesAppliesSpec : ChangeSpec := { name := "rulesApplies", fn := fun _ => fun
  | [d1, d2] => { results := [.lit (.bool true)], args := [d1, d2] }
  | _ => none }
def rulesAppliesRow : OpenClaim := { program := "ytohkfdkklphgmaa", sum := "0ee6f4d562cae59524d6f5b7505715c3ac5fdbacc6c95914839f60d9142999a3", func := "bobbinet/bobbinetlaw.RulesApplies", spec := "rulesApplies", unfollowed := true, recurses := true, loops := true, apart := false }
def RulesAppliesSaid : Prop := rulesAppliesRow.holds Try.pinned (OpenSpec.ofChange rulesAppliesSpec)

/-- ITS FALSE NEIGHBOUR: 'it returns false'. Refute it at one input. -/
def rulesAppliesWrong : ChangeSpec := { name := "rulesApplies", fn := fun _ => fun
  | [d1, d2] => { results := [.lit (.bool false)], args := [d1, d2] }
  | _ => none }
def RulesAppliesWrongFalsely : Prop := rulesAppliesRow.holds Try.pinned (OpenSpec.ofChange rulesAppliesWrong)

/- THE SECOND FORM. 'bulk': how many values and letters a reading holds, each counted each time it is reached (what is shared counts as often as it is met; a slice's spare places count too). A statement '..UptoSaid' is the law's where the arguments, and the package variables that the reading takes, are together of bulk at most 1048576: NARROWER than '..Said'. Prove '..Said' where nothing that the law and all that it calls make is longer than what came in: it says more and counts as full. Else prove '..UptoSaid'. A law counts once. -/
mutual
def uptoBulk {H : Type} : DataW H → Nat
  | .lit (.string bytes) => bytes.length + 1
  | .lit _ => 1
  | .nil => 1
  | .ptr d => uptoBulk d + 1
  | .slice elems spare => uptoBulkAll elems + uptoBulkAll spare + 1
  | .agg parts => uptoBulkAll parts + 1
  | .iface _ d => uptoBulk d + 1
  | .map entries => uptoBulkEntries entries + 1
  | .held _ => 1
def uptoBulkAll {H : Type} : List (DataW H) → Nat
  | [] => 0
  | d :: r => uptoBulk d + uptoBulkAll r
def uptoBulkEntries {H : Type} : List (Lit × DataW H) → Nat
  | [] => 0
  | x :: r => uptoBulkEntry x + uptoBulkEntries r
def uptoBulkEntry {H : Type} : Lit × DataW H → Nat
  | (.string bytes, d) => bytes.length + uptoBulk d + 1
  | (_, d) => uptoBulk d + 1
 end
def uptoSmall : (H : Type) → List (DataW H) → Bool := fun _ ds => decide (uptoBulkAll ds ≤ 1048576)
def OpenSpec.upto (s : _root_.Go.ChangeSpec) : _root_.Go.OpenSpec := { _root_.Go.OpenSpec.ofChange s with cond := some uptoSmall }

/-- 'bobbinetlaw.AutoCounts', WHERE WHAT IT READS IS OF BULK AT MOST 1048576: true; the input reads as it did. -/
def autoCountsUptoRow : OpenClaim := { program := "ytohkfdkklphgmaa", sum := "0ee6f4d562cae59524d6f5b7505715c3ac5fdbacc6c95914839f60d9142999a3", func := "bobbinet/bobbinetlaw.AutoCounts", spec := "autoCounts", unfollowed := true, recurses := true, apart := false, narrowed := true }
def AutoCountsUptoSaid : Prop := autoCountsUptoRow.holds Try.pinned (OpenSpec.upto autoCountsSpec)

/-- 'bobbinetlaw.RulesChecks', WHERE WHAT IT READS IS OF BULK AT MOST 1048576: true; the input reads as it did. -/
def rulesChecksUptoRow : OpenClaim := { program := "ytohkfdkklphgmaa", sum := "0ee6f4d562cae59524d6f5b7505715c3ac5fdbacc6c95914839f60d9142999a3", func := "bobbinet/bobbinetlaw.RulesChecks", spec := "rulesChecks", unfollowed := true, recurses := true, apart := false, narrowed := true }
def RulesChecksUptoSaid : Prop := rulesChecksUptoRow.holds Try.pinned (OpenSpec.upto rulesChecksSpec)

/-- 'bobbinetlaw.PickTexts', WHERE WHAT IT READS IS OF BULK AT MOST 1048576: true; the input reads as it did. -/
def pickTextsUptoRow : OpenClaim := { program := "ytohkfdkklphgmaa", sum := "0ee6f4d562cae59524d6f5b7505715c3ac5fdbacc6c95914839f60d9142999a3", func := "bobbinet/bobbinetlaw.PickTexts", spec := "pickTexts", inPlace := ["internal/abi.NoEscape"], unfollowed := true, recurses := true, apart := false, narrowed := true }
def PickTextsUptoSaid : Prop := pickTextsUptoRow.holds Try.pinned (OpenSpec.upto pickTextsSpec)

/-- 'bobbinetlaw.SpaceNodeses', WHERE WHAT IT READS IS OF BULK AT MOST 1048576: true; the input reads as it did. -/
def spaceNodesesUptoRow : OpenClaim := { program := "ytohkfdkklphgmaa", sum := "0ee6f4d562cae59524d6f5b7505715c3ac5fdbacc6c95914839f60d9142999a3", func := "bobbinet/bobbinetlaw.SpaceNodeses", spec := "spaceNodeses", inPlace := ["internal/abi.NoEscape"], recurses := true, loops := true, apart := false, narrowed := true }
def SpaceNodesesUptoSaid : Prop := spaceNodesesUptoRow.holds Try.pinned (OpenSpec.upto spaceNodesesSpec)

/-- 'bobbinetlaw.EmitChecks', WHERE WHAT IT READS IS OF BULK AT MOST 1048576: true; the input reads as it did. -/
def emitChecksUptoRow : OpenClaim := { program := "ytohkfdkklphgmaa", sum := "0ee6f4d562cae59524d6f5b7505715c3ac5fdbacc6c95914839f60d9142999a3", func := "bobbinet/bobbinetlaw.EmitChecks", spec := "emitChecks", unfollowed := true, recurses := true, apart := false, narrowed := true }
def EmitChecksUptoSaid : Prop := emitChecksUptoRow.holds Try.pinned (OpenSpec.upto emitChecksSpec)

/-- 'bobbinetlaw.RulesApplies', WHERE WHAT IT READS IS OF BULK AT MOST 1048576: true; the input reads as it did. -/
def rulesAppliesUptoRow : OpenClaim := { program := "ytohkfdkklphgmaa", sum := "0ee6f4d562cae59524d6f5b7505715c3ac5fdbacc6c95914839f60d9142999a3", func := "bobbinet/bobbinetlaw.RulesApplies", spec := "rulesApplies", unfollowed := true, recurses := true, loops := true, apart := false, narrowed := true }
def RulesAppliesUptoSaid : Prop := rulesAppliesUptoRow.holds Try.pinned (OpenSpec.upto rulesAppliesSpec)

end Rows
end Go.Proofs.Ytohkfdkklphgmaa
