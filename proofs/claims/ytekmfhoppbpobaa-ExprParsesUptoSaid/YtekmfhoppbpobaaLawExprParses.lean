/- The law ExprParses answers true, and its arguments read as before, where they are of bulk at most 1048576. -/
import Derived.Test.YtekmfhoppbpobaaRows
import Derived.Test.YtekmfhoppbpobaaExprParses
import Derived.Test.YtekmfhoppbpobaaVTy3
import Derived.WalkKit
import Derived.ProofKit
import Derived.OpenShut
import Derived.JoinedCond
set_option linter.unusedVariables false
set_option linter.unusedSimpArgs false
namespace Go.Proofs.Ytekmfhoppbpobaa.exprParses
open Go.ChangeShapes Go.WideShapes Go.ChangeAt Go.RowKit Go.VL Go.VL.ExprParses
set_option linter.unusedVariables false

theorem own : ownKnob Try.prog.godebug = none := by kernel_rfl
mutual
theorem bulk {H : Type} : ∀ d : DataW H, szL (dOf d) ≤ Rows.uptoBulk d
  | .lit (.bool b) => by simp [dOf, szL, szD, Rows.uptoBulk]
  | .lit (.int k n) => by simp [dOf, szL, szD, Rows.uptoBulk]
  | .lit (.float k n) => by simp [dOf, szL]
  | .lit .nil => by simp [dOf, szL]
  | .lit (.string s) => by simp [dOf, szL, szD, Rows.uptoBulk]
  | .slice es sp => by have := bulkA es; simp [dOf, szL, szD, Rows.uptoBulk]; omega
  | .nil => by simp [dOf, szL, szD, szLL, Rows.uptoBulk]
  | .agg ps => by have := bulkF ps; simp [dOf, Rows.uptoBulk]; omega
  | .ptr d => by simp [dOf, szL]
  | .iface t d => by simp [dOf, szL]
  | .map es => by simp [dOf, szL]
  | .held h => by simp [dOf, szL]
theorem bulkA {H : Type} : ∀ l : List (DataW H), szLL (dOfA l) ≤ Rows.uptoBulkAll l
  | [] => by simp [dOfA, szLL]
  | d :: r => by have := bulk d; have := bulkA r; simp [dOfA, szLL, Rows.uptoBulkAll]; omega
theorem bulkF {H : Type} : ∀ l : List (DataW H), szL (dOfF l) ≤ Rows.uptoBulkAll l
  | [] => by simp [dOfF, szL]
  | d :: r => by have := bulk d; have := bulkF r; simp [dOfF, szL_app, Rows.uptoBulkAll]; omega
end
theorem good : ∀ t ∈ [9], goodB Try.prog [9] t = true := by
  have : ([9].all (goodB Try.prog [9])) = true := by kernel_rfl
  exact fun t ht => List.all_eq_true.mp this t ht

set_option maxRecDepth 100000 in
theorem contract (H : Type) (enc : TypeId × Value → H) (W : World) (base : Nat) (args : Array Value) (ds gs : List (DataW H)) (before : List MemPlace)
    (hval : ∀ (j : Nat) t v, Try.f12.params[j]? = some t → args[j]? = some v → Value.okWide Try.prog W .any base t v)
    (hW : DataW.Whole enc Try.prog Try.f12.params.toList Rows.exprParsesSpec.vars false W args.toList ds gs before) (hk : Rows.uptoSmall H (ds ++ gs) = true) :
    Calls Try.prog 12 args W fun e W' => ∃ v, e = .returned v ∧ Rows.exprParsesSpec.post enc Try.prog Try.f12 false true false false W args v W' := by
  have hW' := hW
  obtain ⟨p, q, hA0, hV, rfl, hfz, hnd⟩ := hW
  have hA : DataW.TrodAll enc Try.prog W 0 (fun _ => true) true Try.f12.params.toList args.toList ds p := hA0
  rw [Try.params12] at hA hval
  obtain ⟨v0, vs0, d0, ds0, p0, q0', hargs0, rfl, rfl, h0, r0⟩ := trodAll_cons hA
  obtain ⟨rfl, rfl, rfl⟩ := trodAll_nil r0
  obtain rfl : args = #[v0] := by cases args; simp_all
  obtain ⟨rfl, rfl⟩ := trodVars_none hV
  clear hA0
  obtain ⟨hr0, hty0⟩ := arg_rep (θ := fun _ => none) good (by decide) (hval 0 9 v0 rfl rfl) h0
  obtain ⟨x0, e0⟩ := hty0.str_inv Try.underlying9
  have hk2 : Rows.uptoBulkAll [d0] ≤ 1048576 := by simpa only [Rows.uptoSmall, List.append_nil, decide_eq_true_eq] using hk
  simp only [Rows.uptoBulkAll] at hk2
  have hs0 : szL (dOf d0) ≤ 1048576 := by have := bulk d0; omega
  rw [e0] at hs0 hr0
  have hr0' : RepT W (fun _ => False) (fun _ => none) v0 (.d (.str x0)) := by
    have h := hr0
    unfold argD at h
    rw [Try.underlying9] at h
    exact h
  refine (CallWP.law (w := W) (vs := #[v0]) (law x0 hs0) rfl (fun i x hx => ?_) (GlobOK.none (by kernel_rfl))).mono fun e W' ⟨he, bel⟩ => ?_
  · match i, hx with
    | 0, hx => simp at hx; subst hx; exact hr0'
    | i + 1, hx => simp at hx
  subst he
  exact ⟨_, rfl, _, _, _, [], _, [], hW', trodAll_mk1 (shut_bool Try.underlying4 _), trodAll_mk1 (trod_below (by kernel_rfl) (by kernel_rfl) (of_decide_eq_true (by kernel_rfl)) h0 bel), rfl, bel.frame _, fun h => by cases h⟩

set_option maxRecDepth 100000 in
theorem lifted (os : Os) (started : os.Started) (H : Type) (enc : TypeId × Value → H) (F : Stop.Interp) :
    ReturnsInHanded {} Try.checked os 12 .any ((Rows.OpenSpec.upto Rows.exprParsesSpec).pre6 enc Try.prog Try.f12 Rows.exprParsesUptoRow.domain false) (((Rows.OpenSpec.upto Rows.exprParsesSpec).at F).post enc Try.prog Try.f12 false true false false) := by
  refine returnsInHanded_of_cond (C := Try.checked) (s := Rows.OpenSpec.upto Rows.exprParsesSpec) (k := Rows.uptoSmall) rfl own started (by kernel_rfl) Try.func12
    (OpenSpec.witness (enc := enc) (C := Try.checked) (s := Rows.OpenSpec.upto Rows.exprParsesSpec) (k := Rows.uptoSmall) rfl false ⟨#[], #[.string ⟨#[]⟩], []⟩ 8 (by kernel_rfl) (by kernel_rfl) (by kernel_rfl)
      (x := ([.lit (.string [])], [], [])) (by kernel_rfl) rfl (by kernel_rfl)) ?_
  intro W base args ds gs before hval hW _ hk _
  exact contract H enc W base args ds gs before hval hW hk

theorem over : Rows.exprParsesUptoRow.holds Try.pinned (Rows.OpenSpec.upto Rows.exprParsesSpec) :=
  OpenClaim.holds_of_cond 12 Try.f12 rfl rfl rfl rfl rfl rfl rfl ⟨rfl, rfl, rfl, rfl, rfl⟩ rfl rfl rfl rfl rfl (by kernel_rfl) Try.func12 (by kernel_rfl)
    (of_decide_eq_true (by kernel_rfl)) (by unfold Func.isWrapper; first | (rw [if_pos (by decide +kernel)]; kernel_rfl) | (rw [if_neg (by decide +kernel)]; exact ⟨rfl, rfl⟩))
    (fun os started H enc _ F => lifted os started H enc F)
end Go.Proofs.Ytekmfhoppbpobaa.exprParses
namespace Go.Proofs.Ytekmfhoppbpobaa
/-- The row of the second form. -/
theorem exprParses_holds : Rows.ExprParsesUptoSaid := exprParses.over
end Go.Proofs.Ytekmfhoppbpobaa
#print axioms Go.Proofs.Ytekmfhoppbpobaa.exprParses_holds

