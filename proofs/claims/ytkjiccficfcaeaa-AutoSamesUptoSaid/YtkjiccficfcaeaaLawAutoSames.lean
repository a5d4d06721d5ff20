/- The law AutoSames answers true, and its arguments read as before, where they are of bulk at most 1048576. -/
import Derived.Test.YtkjiccficfcaeaaRows
import Derived.Test.YtkjiccficfcaeaaAutoSames
import Derived.Test.YtkjiccficfcaeaaVTy3
import Derived.WalkKit
import Derived.ProofKit
import Derived.OpenShut
import Derived.JoinedCond
set_option linter.unusedVariables false
set_option linter.unusedSimpArgs false
namespace Go.Proofs.Ytkjiccficfcaeaa.autoSames
open Go.ChangeShapes Go.WideShapes Go.ChangeAt Go.RowKit Go.VL Go.VL.AutoSames
set_option linter.unusedVariables false

theorem own : ownKnob Try.prog.godebug = none := by kernel_rfl
mutual
theorem bulk {H : Type} : ∀ d : DataW H, szL (dOf d) ≤ Rows.uptoBulk d
  | .lit (.bool b) => by simp [dOf, szL, szD, Rows.uptoBulk]
  | .lit (.int k n) => by simp [dOf, szL, szD, Rows.uptoBulk]
  | .lit (.float k n) => by simp [dOf, szL]
  | .lit .nil => by simp [dOf, szL]
  | .lit (.string s) => by simp [dOf, szL, szD, Rows.uptoBulk]
  | .slice es sp => by have := bulkA es; simp [dOf, szL, szD, Rows.uptoBulk]; omega
  | .nil => by simp [dOf, szL, szD, szLL, Rows.uptoBulk]
  | .agg ps => by have := bulkF ps; simp [dOf, Rows.uptoBulk]; omega
  | .ptr d => by simp [dOf, szL]
  | .iface t d => by simp [dOf, szL]
  | .map es => by simp [dOf, szL]
  | .held h => by simp [dOf, szL]
theorem bulkA {H : Type} : ∀ l : List (DataW H), szLL (dOfA l) ≤ Rows.uptoBulkAll l
  | [] => by simp [dOfA, szLL]
  | d :: r => by have := bulk d; have := bulkA r; simp [dOfA, szLL, Rows.uptoBulkAll]; omega
theorem bulkF {H : Type} : ∀ l : List (DataW H), szL (dOfF l) ≤ Rows.uptoBulkAll l
  | [] => by simp [dOfF, szL]
  | d :: r => by have := bulk d; have := bulkF r; simp [dOfF, szL_app, Rows.uptoBulkAll]; omega
end
theorem good : ∀ t ∈ [25, 22, 43, 3, 23, 4], goodB Try.prog [25, 22, 43, 3, 23, 4] t = true := by
  have : ([25, 22, 43, 3, 23, 4].all (goodB Try.prog [25, 22, 43, 3, 23, 4])) = true := by kernel_rfl
  exact fun t ht => List.all_eq_true.mp this t ht

set_option maxRecDepth 100000 in
theorem contract (H : Type) (enc : TypeId × Value → H) (W : World) (base : Nat) (args : Array Value) (ds gs : List (DataW H)) (before : List MemPlace)
    (hval : ∀ (j : Nat) t v, Try.f3.params[j]? = some t → args[j]? = some v → Value.okWide Try.prog W .any base t v)
    (hW : DataW.Whole enc Try.prog Try.f3.params.toList Rows.autoSamesSpec.vars false W args.toList ds gs before) (hk : Rows.uptoSmall H (ds ++ gs) = true) :
    Calls Try.prog 3 args W fun e W' => ∃ v, e = .returned v ∧ Rows.autoSamesSpec.post enc Try.prog Try.f3 false true false false W args v W' := by
  have hW' := hW
  obtain ⟨p, q, hA0, hV, rfl, hfz, hnd⟩ := hW
  have hA : DataW.TrodAll enc Try.prog W 0 (fun _ => true) true Try.f3.params.toList args.toList ds p := hA0
  rw [Try.params3] at hA hval
  obtain ⟨v0, vs0, d0, ds0, p0, q0', hargs0, rfl, rfl, h0, r0⟩ := trodAll_cons hA
  obtain ⟨v1, vs1, d1, ds1, p1, q1', hargs1, rfl, rfl, h1, r1⟩ := trodAll_cons r0
  obtain ⟨rfl, rfl, rfl⟩ := trodAll_nil r1
  obtain rfl : args = #[v0, v1] := by cases args; simp_all
  obtain ⟨rfl, rfl⟩ := trodVars_none hV
  clear hA0
  obtain ⟨hr0, hty0⟩ := arg_rep (θ := fun _ => none) good (by decide) (hval 0 25 v0 rfl rfl) h0
  obtain ⟨hr1, hty1⟩ := arg_rep (θ := fun _ => none) good (by decide) (hval 1 25 v1 rfl rfl) h1
  obtain ⟨x0, y0, e0, q0⟩ := ty_auto Try.underlying25 rfl Try.underlying22 Try.underlying43 Try.underlying3 Try.underlying23 Try.underlying4 hty0
  obtain ⟨x1, y1, e1, q1⟩ := ty_auto Try.underlying25 rfl Try.underlying22 Try.underlying43 Try.underlying3 Try.underlying23 Try.underlying4 hty1
  have hk2 : Rows.uptoBulkAll [d0, d1] ≤ 1048576 := by simpa only [Rows.uptoSmall, List.append_nil, decide_eq_true_eq] using hk
  simp only [Rows.uptoBulkAll] at hk2
  have hs0 : szL (dOf d0) ≤ 1048576 := by have := bulk d0; omega
  rw [e0] at hs0 hr0
  have hr0' : RepT W (fun _ => False) (fun _ => none) v0 (.agg [.d (.sl (x0.map iL)), .d (.sl (y0.map iB))]) := by
    have h := hr0
    unfold argD at h
    rw [Try.underlying25] at h
    exact h
  have hs1 : szL (dOf d1) ≤ 1048576 := by have := bulk d1; omega
  rw [e1] at hs1 hr1
  have hr1' : RepT W (fun _ => False) (fun _ => none) v1 (.agg [.d (.sl (x1.map iL)), .d (.sl (y1.map iB))]) := by
    have h := hr1
    unfold argD at h
    rw [Try.underlying25] at h
    exact h
  refine (CallWP.law (w := W) (vs := #[v0, v1]) (law x0 y0 q0 x1 y1 q1 hs0 hs1) rfl (fun i x hx => ?_) (GlobOK.none (by kernel_rfl))).mono fun e W' ⟨he, bel⟩ => ?_
  · match i, hx with
    | 0, hx => simp at hx; subst hx; exact hr0'
    | 1, hx => simp at hx; subst hx; exact hr1'
    | i + 2, hx => simp at hx
  subst he
  exact ⟨_, rfl, _, _, _, [], _, [], hW', trodAll_mk1 (shut_bool Try.underlying4 _), trodAll_mk2 (trod_below (by kernel_rfl) (by kernel_rfl) (of_decide_eq_true (by kernel_rfl)) h0 bel) (trod_below (by kernel_rfl) (by kernel_rfl) (of_decide_eq_true (by kernel_rfl)) h1 bel), rfl, bel.frame _, fun h => by cases h⟩

set_option maxRecDepth 100000 in
theorem lifted (os : Os) (started : os.Started) (H : Type) (enc : TypeId × Value → H) (F : Stop.Interp) :
    ReturnsInHanded {} Try.checked os 3 .any ((Rows.OpenSpec.upto Rows.autoSamesSpec).pre6 enc Try.prog Try.f3 Rows.autoSamesUptoRow.domain false) (((Rows.OpenSpec.upto Rows.autoSamesSpec).at F).post enc Try.prog Try.f3 false true false false) := by
  refine returnsInHanded_of_cond (C := Try.checked) (s := Rows.OpenSpec.upto Rows.autoSamesSpec) (k := Rows.uptoSmall) rfl own started (by kernel_rfl) Try.func3
    (OpenSpec.witness (enc := enc) (C := Try.checked) (s := Rows.OpenSpec.upto Rows.autoSamesSpec) (k := Rows.uptoSmall) rfl false ⟨#[], #[.agg #[.slice none 0 0, .slice none 0 0], .agg #[.slice none 0 0, .slice none 0 0]], []⟩ 8 (by kernel_rfl) (by kernel_rfl) (by kernel_rfl)
      (x := ([.agg [.nil, .nil], .agg [.nil, .nil]], [], [])) (by kernel_rfl) rfl (by kernel_rfl)) ?_
  intro W base args ds gs before hval hW _ hk _
  exact contract H enc W base args ds gs before hval hW hk

theorem over : Rows.autoSamesUptoRow.holds Try.pinned (Rows.OpenSpec.upto Rows.autoSamesSpec) :=
  OpenClaim.holds_of_cond 3 Try.f3 rfl rfl rfl rfl rfl rfl rfl ⟨rfl, rfl, rfl, rfl, rfl⟩ rfl rfl rfl rfl rfl (by kernel_rfl) Try.func3 (by kernel_rfl)
    (of_decide_eq_true (by kernel_rfl)) (by unfold Func.isWrapper; first | (rw [if_pos (by decide +kernel)]; kernel_rfl) | (rw [if_neg (by decide +kernel)]; exact ⟨rfl, rfl⟩))
    (fun os started H enc _ F => lifted os started H enc F)
end Go.Proofs.Ytkjiccficfcaeaa.autoSames
namespace Go.Proofs.Ytkjiccficfcaeaa
/-- The row of the second form. -/
theorem autoSames_holds : Rows.AutoSamesUptoSaid := autoSames.over
end Go.Proofs.Ytkjiccficfcaeaa
#print axioms Go.Proofs.Ytkjiccficfcaeaa.autoSames_holds

