/-
  NARROWER THAN 'FOR EVERY INPUT', by the rows' own cells (each row's printed sentence says how): WalkPlays: loops · WalkInverts: loops.
  DERIVED. THE GIVEN ROWS OF THIS SEAT. 3 by the template 'for every input the law returns true; each argument reads behind the call as it read before'; 0 by the template 'total and deterministic' (their statements: YtpkgjkoijeapjaaTotals.lean).
  GIVEN WITH THE SEED: the statements are not yours to turn. If you find one false, say at which input.
  Laid BY PROGRAM, IN A SANDBOX (cutbox-rows.mjs): the forced cells as the released guide's own fill.sh prints them over the translation 8d632d7c36e7ae4b… (all of the seat's roots in one cut). By AI agents, Wed Nov 11 2026. No macro, syntax, notation, axiom, sorry.
-/
import Derived.Test.YtpkgjkoijeapjaaChecked
import GoSem.Claim
import GoSem.ClaimJoined
import GoSem.ClaimMapViews
import Derived.JoinedTies
import Derived.KernelRfl
namespace Go.Proofs.Ytpkgjkoijeapjaa
/- THE CELL 'sum', in the pinned program and in every row, IS THE sha256 OF THE DUMP (.gsa) THAT YtpkgjkoijeapjaaProg.lean LOADS. Nothing in Lean hashes anything: it is a label: what it is worth is what the hold of that sum in a sandbox is worth. -/
noncomputable def Try.pinned : Pinned := { name := "ytpkgjkoijeapjaa", sum := "8d632d7c36e7ae4b10ac7e253f20ea887b6668704a6c853d51ec20d54b0c8b81", checked := Try.checked }
namespace Rows
def none {H : Type} : Left H := { results := [], args := [] }

/-- 'bobbinetlaw.AutoSames': WHATEVER THE INPUT: true; the input reads as it did. -/
def autoSamesSpec : ChangeSpec := { name := "autoSames", fn := fun _ => fun
  | [d1, d2] => { results := [.lit (.bool true)], args := [d1, d2] }
  | _ => none }
def autoSamesRow : OpenClaim := { program := "ytpkgjkoijeapjaa", sum := "8d632d7c36e7ae4b10ac7e253f20ea887b6668704a6c853d51ec20d54b0c8b81", func := "bobbinet/bobbinetlaw.AutoSames", spec := "autoSames", unfollowed := true, recurses := true, plainKeys := false, apart := false }
def AutoSamesSaid : Prop := autoSamesRow.holds Try.pinned (OpenSpec.ofChange autoSamesSpec)

/-- ITS FALSE NEIGHBOUR: 'it returns false'. Refute it at one input. -/
def autoSamesWrong : ChangeSpec := { name := "autoSames", fn := fun _ => fun
  | [d1, d2] => { results := [.lit (.bool false)], args := [d1, d2] }
  | _ => none }
def AutoSamesWrongFalsely : Prop := autoSamesRow.holds Try.pinned (OpenSpec.ofChange autoSamesWrong)

/-- 'bobbinetlaw.WalkPlays': WHATEVER THE INPUT: true; the input reads as it did. -/
def walkPlaysSpec : ChangeSpec := { name := "walkPlays", fn := fun _ => fun
  | [d1, d2] => { results := [.lit (.bool true)], args := [d1, d2] }
  | _ => none }
def walkPlaysRow : OpenClaim := { program := "ytpkgjkoijeapjaa", sum := "8d632d7c36e7ae4b10ac7e253f20ea887b6668704a6c853d51ec20d54b0c8b81", func := "bobbinet/bobbinetlaw.WalkPlays", spec := "walkPlays", inPlace := ["slices.overlaps[bobbinet/api.Node]"], recurses := true, loops := true, plainKeys := false, apart := false }
def WalkPlaysSaid : Prop := walkPlaysRow.holds Try.pinned (OpenSpec.ofChange walkPlaysSpec)

/-- ITS FALSE NEIGHBOUR: 'it returns false'. Refute it at one input. -/
def walkPlaysWrong : ChangeSpec := { name := "walkPlays", fn := fun _ => fun
  | [d1, d2] => { results := [.lit (.bool false)], args := [d1, d2] }
  | _ => none }
def WalkPlaysWrongFalsely : Prop := walkPlaysRow.holds Try.pinned (OpenSpec.ofChange walkPlaysWrong)

/-- 'bobbinetlaw.WalkInverts': WHATEVER THE INPUT: true; the input reads as it did. -/
def walkInvertsSpec : ChangeSpec := { name := "walkInverts", fn := fun _ => fun
  | [d1, d2] => { results := [.lit (.bool true)], args := [d1, d2] }
  | _ => none }
def walkInvertsRow : OpenClaim := { program := "ytpkgjkoijeapjaa", sum := "8d632d7c36e7ae4b10ac7e253f20ea887b6668704a6c853d51ec20d54b0c8b81", func := "bobbinet/bobbinetlaw.WalkInverts", spec := "walkInverts", inPlace := ["slices.overlaps[bobbinet/api.Node]"], recurses := true, loops := true, plainKeys := false, apart := false }
def WalkInvertsSaid : Prop := walkInvertsRow.holds Try.pinned (OpenSpec.ofChange walkInvertsSpec)

/-- ITS FALSE NEIGHBOUR: 'it returns false'. Refute it at one input. -/
def walkInvertsWrong : ChangeSpec := { name := "walkInverts", fn := fun _ => fun
  | [d1, d2] => { results := [.lit (.bool false)], args := [d1, d2] }
  | _ => none }
def WalkInvertsWrongFalsely : Prop := walkInvertsRow.holds Try.pinned (OpenSpec.ofChange walkInvertsWrong)

/- THE SECOND FORM. 'bulk': how many values and letters a reading holds, each counted each time it is reached (what is shared counts as often as it is met; a slice's spare places count too). A statement '..UptoSaid' is the law's where the arguments, and the package variables that the reading takes, are together of bulk at most 1048576: NARROWER than '..Said'. Prove '..Said' where nothing that the law and all that it calls make is longer than what came in: it says more and counts as full. Else prove '..UptoSaid'. A law counts once. -/
mutual
def uptoBulk {H : Type} : DataW H → Nat
  | .lit (.string bytes) => bytes.length + 1
  | .lit _ => 1
  | .nil => 1
  | .ptr d => uptoBulk d + 1
  | .slice elems spare => uptoBulkAll elems + uptoBulkAll spare + 1
  | .agg parts => uptoBulkAll parts + 1
  | .iface _ d => uptoBulk d + 1
  | .map entries => uptoBulkEntries entries + 1
  | .held _ => 1
def uptoBulkAll {H : Type} : List (DataW H) → Nat
  | [] => 0
  | d :: r => uptoBulk d + uptoBulkAll r
def uptoBulkEntries {H : Type} : List (Lit × DataW H) → Nat
  | [] => 0
  | x :: r => uptoBulkEntry x + uptoBulkEntries r
def uptoBulkEntry {H : Type} : Lit × DataW H → Nat
  | (.string bytes, d) => bytes.length + uptoBulk d + 1
  | (_, d) => uptoBulk d + 1
 end
def uptoSmall : (H : Type) → List (DataW H) → Bool := fun _ ds => decide (uptoBulkAll ds ≤ 1048576)
def OpenSpec.upto (s : _root_.Go.ChangeSpec) : _root_.Go.OpenSpec := { _root_.Go.OpenSpec.ofChange s with cond := some uptoSmall }

/-- 'bobbinetlaw.AutoSames', WHERE WHAT IT READS IS OF BULK AT MOST 1048576: true; the input reads as it did. -/
def autoSamesUptoRow : OpenClaim := { program := "ytpkgjkoijeapjaa", sum := "8d632d7c36e7ae4b10ac7e253f20ea887b6668704a6c853d51ec20d54b0c8b81", func := "bobbinet/bobbinetlaw.AutoSames", spec := "autoSames", unfollowed := true, recurses := true, plainKeys := false, apart := false, narrowed := true }
def AutoSamesUptoSaid : Prop := autoSamesUptoRow.holds Try.pinned (OpenSpec.upto autoSamesSpec)

/-- 'bobbinetlaw.WalkPlays', WHERE WHAT IT READS IS OF BULK AT MOST 1048576: true; the input reads as it did. -/
def walkPlaysUptoRow : OpenClaim := { program := "ytpkgjkoijeapjaa", sum := "8d632d7c36e7ae4b10ac7e253f20ea887b6668704a6c853d51ec20d54b0c8b81", func := "bobbinet/bobbinetlaw.WalkPlays", spec := "walkPlays", inPlace := ["slices.overlaps[bobbinet/api.Node]"], recurses := true, loops := true, plainKeys := false, apart := false, narrowed := true }
def WalkPlaysUptoSaid : Prop := walkPlaysUptoRow.holds Try.pinned (OpenSpec.upto walkPlaysSpec)

/-- 'bobbinetlaw.WalkInverts', WHERE WHAT IT READS IS OF BULK AT MOST 1048576: true; the input reads as it did. -/
def walkInvertsUptoRow : OpenClaim := { program := "ytpkgjkoijeapjaa", sum := "8d632d7c36e7ae4b10ac7e253f20ea887b6668704a6c853d51ec20d54b0c8b81", func := "bobbinet/bobbinetlaw.WalkInverts", spec := "walkInverts", inPlace := ["slices.overlaps[bobbinet/api.Node]"], recurses := true, loops := true, plainKeys := false, apart := false, narrowed := true }
def WalkInvertsUptoSaid : Prop := walkInvertsUptoRow.holds Try.pinned (OpenSpec.upto walkInvertsSpec)

end Rows
end Go.Proofs.Ytpkgjkoijeapjaa
