/- The law TreeBuilds answers true, and its arguments read as before, where they are of bulk at most 1048576. -/
import Derived.Test.YtefgchjjnobhjaaDoorCards
import Derived.Test.YtefgchjjnobhjaaDoorTie
import Derived.Deep.DeepHandedRow
import Derived.Deep.DeepWitnessRowRef
import Derived.Deep.DeepLaidRun
import Derived.Stop.LaidErr
import Derived.Lib.LaidTab
import Derived.Test.YtefgchjjnobhjaaDoorTreeBuilds
import Derived.Test.YtefgchjjnobhjaaDoorVTy3
import Derived.Test.YtefgchjjnobhjaaDoorVGl
import Derived.WalkKit
import Derived.ProofKit
import Derived.OpenShut
import Derived.JoinedCond
set_option linter.unusedVariables false
set_option linter.unusedSimpArgs false
namespace Go.Proofs.YtefgchjjnobhjaaDoor.treeBuilds
open Go.ChangeShapes Go.WideShapes Go.ChangeAt Go.RowKit Go.VL Go.VL.TreeBuilds
set_option linter.unusedVariables false

theorem own : ownKnob Tryd.prog.godebug = none := by kernel_rfl
mutual
theorem bulk {H : Type} : ∀ d : DataW H, szL (dOf d) ≤ Rows.uptoBulk d
  | .lit (.bool b) => by simp [dOf, szL, szD, Rows.uptoBulk]
  | .lit (.int k n) => by simp [dOf, szL, szD, Rows.uptoBulk]
  | .lit (.float k n) => by simp [dOf, szL]
  | .lit .nil => by simp [dOf, szL]
  | .lit (.string s) => by simp [dOf, szL, szD, Rows.uptoBulk]
  | .slice es sp => by have := bulkA es; simp [dOf, szL, szD, Rows.uptoBulk]; omega
  | .nil => by simp [dOf, szL, szD, szLL, Rows.uptoBulk]
  | .agg ps => by have := bulkF ps; simp [dOf, Rows.uptoBulk]; omega
  | .ptr d => by simp [dOf, szL]
  | .iface t d => by simp [dOf, szL]
  | .map es => by simp [dOf, szL]
  | .held h => by simp [dOf, szL]
theorem bulkA {H : Type} : ∀ l : List (DataW H), szLL (dOfA l) ≤ Rows.uptoBulkAll l
  | [] => by simp [dOfA, szLL]
  | d :: r => by have := bulk d; have := bulkA r; simp [dOfA, szLL, Rows.uptoBulkAll]; omega
theorem bulkF {H : Type} : ∀ l : List (DataW H), szL (dOfF l) ≤ Rows.uptoBulkAll l
  | [] => by simp [dOfF, szL]
  | d :: r => by have := bulk d; have := bulkF r; simp [dOfF, szL_app, Rows.uptoBulkAll]; omega
end
theorem good : ∀ t ∈ [22, 39, 3, 9, 37, 59, 4], goodB Tryd.prog [22, 39, 3, 9, 37, 59, 4] t = true := by
  have : ([22, 39, 3, 9, 37, 59, 4].all (goodB Tryd.prog [22, 39, 3, 9, 37, 59, 4])) = true := by kernel_rfl
  exact fun t ht => List.all_eq_true.mp this t ht

set_option maxRecDepth 100000 in
theorem glob {W : World} (h : laidMetH Tryd.prog Rows.treeBuildsUptoRow.laid W) : GlobOK Tryd.prog (fun _ => False) (fun _ => False) W :=
  GlobOK.tree (by kernel_rfl) (by kernel_rfl) (by kernel_rfl) (strs_of_head (rest := [("bobbinet/tree.voids", Rows.laid_bobbinet_tree_voids)]) (g := 0) (t := 56) (e := 9) (n := 9) (by kernel_rfl) (by kernel_rfl) Tryd.underlying56 Tryd.underlying9 (by kernel_rfl) (by kernel_rfl) h)
    (strs_of_head (rest := []) (g := 1) (t := 61) (e := 9) (n := 4) (by kernel_rfl) (by kernel_rfl) Tryd.underlying61 Tryd.underlying9 (by kernel_rfl) (by kernel_rfl) (laidMet.tail h))

set_option maxRecDepth 100000 in
theorem contract (H : Type) (enc : TypeId × Value → H) (W : World) (base : Nat) (args : Array Value) (ds gs : List (DataW H)) (before : List MemPlace)
    (hval : ∀ (j : Nat) t v, Tryd.f3.params[j]? = some t → args[j]? = some v → Value.okWide Tryd.prog W .any base t v)
    (hW : DataW.Whole enc Tryd.prog Tryd.f3.params.toList Rows.treeBuildsSpec.vars false W args.toList ds gs before) (hk : Rows.uptoSmall H (ds ++ gs) = true) (hL : laidMetH Tryd.prog Rows.treeBuildsUptoRow.laid W) :
    Calls Tryd.prog 3 args W fun e W' => ∃ v, e = .returned v ∧ Rows.treeBuildsSpec.post enc Tryd.prog Tryd.f3 false true false false W args v W' := by
  have hW' := hW
  obtain ⟨p, q, hA0, hV, rfl, hfz, hnd⟩ := hW
  have hA : DataW.TrodAll enc Tryd.prog W 0 (fun _ => true) true Tryd.f3.params.toList args.toList ds p := hA0
  rw [Tryd.params3] at hA hval
  obtain ⟨v0, vs0, d0, ds0, p0, q0', hargs0, rfl, rfl, h0, r0⟩ := trodAll_cons hA
  obtain ⟨rfl, rfl, rfl⟩ := trodAll_nil r0
  obtain rfl : args = #[v0] := by cases args; simp_all
  obtain ⟨rfl, rfl⟩ := trodVars_none hV
  clear hA0
  obtain ⟨hr0, hty0⟩ := arg_rep (θ := fun _ => none) good (by decide) (hval 0 22 v0 rfl rfl) h0
  obtain ⟨x0, e0, q0⟩ := ty_tokens Tryd.underlying22 Tryd.underlying39 rfl Tryd.underlying3 Tryd.underlying9 Tryd.underlying37 Tryd.underlying4 Tryd.underlying59 rfl hty0
  have hk2 : Rows.uptoBulkAll [d0] ≤ 1048576 := by simpa only [Rows.uptoSmall, List.append_nil, decide_eq_true_eq] using hk
  simp only [Rows.uptoBulkAll] at hk2
  have hs0 : szL (dOf d0) ≤ 1048576 := by have := bulk d0; omega
  rw [e0] at hs0 hr0
  have hr0' : RepT W (fun _ => False) (fun _ => none) v0 (.d (.sl (x0.map Token.d))) := by
    have h := hr0
    unfold argD at h
    rw [Tryd.underlying22] at h
    exact h
  refine (CallWP.law (w := W) (vs := #[v0]) (law x0 q0 hs0) rfl (fun i x hx => ?_) (glob hL)).mono fun e W' ⟨he, bel⟩ => ?_
  · match i, hx with
    | 0, hx => simp at hx; subst hx; exact hr0'
    | i + 1, hx => simp at hx
  subst he
  exact ⟨_, rfl, _, _, _, [], _, [], hW', trodAll_mk1 (shut_bool Tryd.underlying4 _), trodAll_mk1 (trod_below (by kernel_rfl) (by kernel_rfl) (of_decide_eq_true (by kernel_rfl)) h0 bel), rfl, bel.frame _, fun h => by cases h⟩

mutual
def lc : DataW Unit → List Value
  | .lit (.int k n) => [.int k n]
  | .lit (.string b) => [.string ⟨b.toArray⟩]
  | .agg ps => lcs ps
  | _ => []
def lcs : List (DataW Unit) → List Value
  | [] => []
  | d :: r => lc d ++ lcs r
end
/-- The witness: the settled world, the listed variables holding what is told. -/
noncomputable def laidWorld (os : Os) : World :=
  let w0 := World.holding Tryd.prog os ⟨#[], #[], []⟩
  let put (h : Array Obj) (g : Nat) (cs : Array Value) : Array Obj := h.modify g fun
    | .cells _ t frozen => .cells cs t frozen
    | o => o
  { w0 with heap := put (put (w0.heap) 0 (lc Rows.laid_bobbinet_tree_blocks).toArray) 1 (lc Rows.laid_bobbinet_tree_voids).toArray }
theorem laid_met (os : Os) (args : Array Value) : laidMet Tryd.prog Rows.treeBuildsUptoRow.laid ((laidWorld os).forCall (fun _ _ => 0) ⟨#[], args, []⟩).memory :=
  laidMet_of_run3 10 (by kernel_rfl) (by kernel_rfl) (by kernel_rfl)
theorem reads (os : Os) {H : Type} (enc : TypeId × Value → H) : ∃ places, DataW.whole enc Tryd.prog ((laidWorld os).forCall (fun _ _ => 0) ⟨#[], #[.slice none 0 0], []⟩).memory Tryd.f3.params.toList Rows.treeBuildsSpec.vars false #[.slice none 0 0].toList 8 = some ([.nil], [], places) :=
  ⟨[], by kernel_rfl⟩

set_option maxRecDepth 100000 in
theorem lifted (os : Os) (started : os.Started) (H : Type) (enc : TypeId × Value → H) (F : Stop.Interp) :
    ReturnsInHanded {} Tryd.checked os 3 .any ((Rows.OpenSpec.upto Rows.treeBuildsSpec).preRow enc Tryd.prog Tryd.f3 Rows.treeBuildsUptoRow.domain false Rows.treeBuildsUptoRow.laid) (((Rows.OpenSpec.upto Rows.treeBuildsSpec).at F).post enc Tryd.prog Tryd.f3 false true false false) := by
  obtain ⟨places, hx⟩ := reads os enc
  refine returnsInHanded_of_row (C := Tryd.checked) (s := Rows.OpenSpec.upto Rows.treeBuildsSpec) own started (by kernel_rfl) Tryd.func3
    (witness_row_atRef (enc := enc) (C := Tryd.checked) false (laidWorld os) #[.slice none 0 0] rfl (by kernel_rfl) (by kernel_rfl) (by kernel_rfl)
      (OpenSpec.preRow_of_cond 8 hx (by kernel_rfl) (fun k hk => by cases hk; kernel_rfl) (by kernel_rfl) (laid_met os _))) ?_
  intro W base args ds gs before hval hW _ hk _ hL _ _
  exact contract H enc W base args ds gs before hval hW (hk _ rfl) hL

theorem over : Rows.TreeBuildsUptoSaid :=
  OpenClaim.holds_of_cond 3 Tryd.f3 rfl rfl rfl rfl rfl rfl rfl ⟨rfl, rfl, rfl, rfl, rfl⟩ rfl rfl rfl rfl rfl (by kernel_rfl) Tryd.func3 (by kernel_rfl)
    (of_decide_eq_true (by kernel_rfl)) (by unfold Func.isWrapper; first | (rw [if_pos (by decide +kernel)]; kernel_rfl) | (rw [if_neg (by decide +kernel)]; exact ⟨rfl, rfl⟩))
    (fun os started H enc _ F => by rw [OpenClaim.pre_eq_preRow]; exact lifted os started H enc F)

theorem plain (f : FuncId) (fn : Func) (hf : Tryd.pinned.checked.prog.funcNamed "bobbinet/bobbinetlaw.TreeBuilds" = some f) (hfn : Tryd.pinned.checked.prog.funcs[f]? = some fn) :
    false = Tryd.pinned.checked.prog.looks [] ∧ ∀ (j : Nat) t, fn.params[j]? = some t → Tryd.pinned.checked.prog.wantsStandIn t = false := by
  obtain rfl : f = 3 := Option.some.inj ((show Tryd.prog.funcNamed "bobbinet/bobbinetlaw.TreeBuilds" = some 3 by kernel_rfl).symm.trans hf) |>.symm
  obtain rfl : fn = Tryd.f3 := (Option.some.inj (Tryd.func3.symm.trans hfn)).symm
  refine ⟨by kernel_rfl, fun j t ht => ?_⟩
  rw [Tryd.params3] at ht
  have hm := Array.mem_of_getElem? ht
  have hall : ([22].all fun t => !(Tryd.pinned.checked.prog.wantsStandIn t)) = true := by kernel_rfl
  have := List.all_eq_true.mp hall t (by simpa using hm)
  simpa using this
theorem card : Rows.TreeBuildsUptoCardSaid :=
  Claim7.holds_tied_plain_at .later [] _ _ _ _ over (fun _ h => by cases h) (by kernel_rfl) (fun _ h => by cases h) treeBuildsUpto_row_tie rfl ⟨rfl, rfl⟩ (by kernel_rfl) rfl plain (by kernel_rfl)
end Go.Proofs.YtefgchjjnobhjaaDoor.treeBuilds
namespace Go.Proofs.YtefgchjjnobhjaaDoor
/-- The tied card of the second form. -/
theorem treeBuilds_holds : Rows.TreeBuildsUptoCardSaid := treeBuilds.card
end Go.Proofs.YtefgchjjnobhjaaDoor
#print axioms Go.Proofs.YtefgchjjnobhjaaDoor.treeBuilds_holds

