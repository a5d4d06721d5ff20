/- The law TreeCounts answers true, and its argument reads as before, where the argument is of bulk at most 1048576. -/
import Derived.Test.YtleedkindimmiaaRows
import Derived.Test.YtleedkindimmiaaTreeCounts
import Derived.WalkKit
import Derived.ProofKit
import Derived.OpenShut
import Derived.JoinedCond
set_option linter.unusedVariables false
set_option linter.unusedSimpArgs false
namespace Go.Proofs.Ytleedkindimmiaa.treeCounts
open Go.ChangeShapes Go.WideShapes Go.ChangeAt Go.RowKit Go.VL Go.VL.TreeCounts
set_option linter.unusedVariables false

theorem own : ownKnob Try.prog.godebug = none := by kernel_rfl

theorem str_inv {P : Program} {t : Nat} {l : List D} (h : TyD P t l) (hu : P.underlying t = some .string) : ∃ s, l = [.str s] := by
  cases h with
  | str h => exact ⟨_, rfl⟩
  | bool b h => rw [hu] at h; cases h
  | int h hr => rw [hu] at h; cases h
  | sl h he => rw [hu] at h; cases h
  | st h parts hl hp => rw [hu] at h; cases h
theorem sl_inv {P : Program} {t e : Nat} {l : List D} (h : TyD P t l) (hu : P.underlying t = some (.slice e)) : ∃ s, l = [.sl s] := by
  cases h with
  | sl h he => exact ⟨_, rfl⟩
  | bool b h => rw [hu] at h; cases h
  | int h hr => rw [hu] at h; cases h
  | str h => rw [hu] at h; cases h
  | st h parts hl hp => rw [hu] at h; cases h

theorem nds_of {es : List (List D)} (h : ∀ c ∈ es, ∃ n : Nd, c = n.d) : ∃ ns, es = nds ns := by
  induction es with
  | nil => exact ⟨[], rfl⟩
  | cons c r ih =>
    obtain ⟨n, rfl⟩ := h c (by simp)
    obtain ⟨ns, rfl⟩ := ih fun c hc => h c (by simp [hc])
    exact ⟨n :: ns, rfl⟩

theorem forest {t : Nat} {l : List D} (h : TyD Try.prog t l) : (t = 29 → ∃ ns, l = [.sl (nds ns)]) ∧ (t = 41 → ∃ n : Nd, l = n.d) := by
  induction h with
  | bool b h => exact ⟨fun e => by subst e; simp [Try.underlying29] at h, fun e => by subst e; simp [Try.underlying41] at h⟩
  | int h _ => exact ⟨fun e => by subst e; simp [Try.underlying29] at h, fun e => by subst e; simp [Try.underlying41] at h⟩
  | str h => exact ⟨fun e => by subst e; simp [Try.underlying29] at h, fun e => by subst e; simp [Try.underlying41] at h⟩
  | sl h he ih =>
    refine ⟨fun e => ?_, fun e => by subst e; simp [Try.underlying41] at h⟩
    subst e
    rw [Try.underlying29] at h
    cases h
    obtain ⟨ns, rfl⟩ := nds_of fun c hc => (ih c hc).2 rfl
    exact ⟨ns, rfl⟩
  | st h parts hl hp ih =>
    refine ⟨fun e => by subst e; simp [Try.underlying29] at h, fun e => ?_⟩
    subst e
    rw [Try.underlying41] at h
    cases h
    match parts, hl with
    | [p0, p1, p2, p3], _ =>
      obtain ⟨s, rfl⟩ := str_inv (hp 0 _ p0 rfl rfl) Try.underlying9
      obtain ⟨b, rfl⟩ := sl_inv (hp 1 _ p1 rfl rfl) Try.underlying39
      obtain ⟨c, rfl⟩ := str_inv (hp 2 _ p2 rfl rfl) Try.underlying9
      obtain ⟨ns, rfl⟩ := (ih 3 _ p3 rfl rfl).1 rfl
      exact ⟨.mk s b c ns, rfl⟩

mutual
theorem nd_le : ∀ n : Nd, n.sz ≤ szL n.d
  | .mk a b c ps => by have := nds_le ps; simp [Nd.sz, Nd.d, szL, szD]; omega
theorem nds_le : ∀ ns : List Nd, szs ns ≤ szLL (nds ns)
  | [] => by simp [szs]
  | n :: r => by have := nds_le r; have := nd_le n; simp [szs, nds, szLL]; omega
end
theorem szL_app (a b : List D) : szL (a ++ b) = szL a + szL b := by
  induction a with
  | nil => simp [szL]
  | cons x r ih => simp [szL, ih]; omega
mutual
theorem bulk {H : Type} : ∀ d : DataW H, szL (dOf d) ≤ Rows.uptoBulk d
  | .lit (.bool b) => by simp [dOf, szL, szD, Rows.uptoBulk]
  | .lit (.int k n) => by simp [dOf, szL, szD, Rows.uptoBulk]
  | .lit (.float k n) => by simp [dOf, szL]
  | .lit .nil => by simp [dOf, szL]
  | .lit (.string s) => by simp [dOf, szL, szD, Rows.uptoBulk]
  | .slice es sp => by have := bulkA es; simp [dOf, szL, szD, Rows.uptoBulk]; omega
  | .nil => by simp [dOf, szL, szD, szLL, Rows.uptoBulk]
  | .agg ps => by have := bulkF ps; simp [dOf, Rows.uptoBulk]; omega
  | .ptr d => by simp [dOf, szL]
  | .iface t d => by simp [dOf, szL]
  | .map es => by simp [dOf, szL]
  | .held h => by simp [dOf, szL]
theorem bulkA {H : Type} : ∀ l : List (DataW H), szLL (dOfA l) ≤ Rows.uptoBulkAll l
  | [] => by simp [dOfA, szLL]
  | d :: r => by have := bulk d; have := bulkA r; simp [dOfA, szLL, Rows.uptoBulkAll]; omega
theorem bulkF {H : Type} : ∀ l : List (DataW H), szL (dOfF l) ≤ Rows.uptoBulkAll l
  | [] => by simp [dOfF, szL]
  | d :: r => by have := bulk d; have := bulkF r; simp [dOfF, szL_app, Rows.uptoBulkAll]; omega
end

theorem good : ∀ t ∈ [29, 41, 9, 39, 60], goodB Try.prog [29, 41, 9, 39, 60] t = true := by
  have : ([29, 41, 9, 39, 60].all (goodB Try.prog [29, 41, 9, 39, 60])) = true := by kernel_rfl
  exact fun t ht => List.all_eq_true.mp this t ht

theorem contract (H : Type) (enc : TypeId × Value → H) (W : World) (base : Nat) (args : Array Value) (ds gs : List (DataW H)) (before : List MemPlace)
    (hval : ∀ (j : Nat) t v, Try.f5.params[j]? = some t → args[j]? = some v → Value.okWide Try.prog W .any base t v)
    (hW : DataW.Whole enc Try.prog Try.f5.params.toList Rows.treeCountsSpec.vars false W args.toList ds gs before) (hk : Rows.uptoSmall H (ds ++ gs) = true) :
    Calls Try.prog 5 args W fun e W' => ∃ v, e = .returned v ∧ Rows.treeCountsSpec.post enc Try.prog Try.f5 false true false false W args v W' := by
  have hW' := hW
  obtain ⟨p, q, hA0, hV, rfl, hfz, hnd⟩ := hW
  have hA : DataW.TrodAll enc Try.prog W 0 (fun _ => true) true Try.f5.params.toList args.toList ds p := hA0
  rw [Try.params5] at hA hval
  obtain ⟨v0, vs0, d0, ds0, p0, q0, hargs, rfl, rfl, h0, r0⟩ := trodAll_cons hA
  obtain ⟨rfl, rfl, rfl⟩ := trodAll_nil r0
  obtain rfl : args = #[v0] := by cases args; simp_all
  obtain ⟨rfl, rfl⟩ := trodVars_none hV
  clear hA0
  obtain ⟨hr, hty⟩ := arg_rep (θ := fun _ => none) good (by decide) (hval 0 29 v0 rfl rfl) h0
  obtain ⟨ns, hns⟩ := (forest hty).1 rfl
  have hb : szs ns ≤ 1048576 := by
    have h1 := bulk d0
    have h2 := nds_le ns
    simp only [Rows.uptoSmall, List.append_nil, decide_eq_true_eq, Rows.uptoBulkAll] at hk
    rw [hns] at h1
    simp [szL, szD] at h1
    omega
  rw [hns] at hr
  have hr' : RepT W (fun _ => False) (fun _ => none) v0 (.d (.sl (nds ns))) := by
    have : argD Try.prog 29 [.sl (nds ns)] = .d (.sl (nds ns)) := by unfold argD; rw [Try.underlying29]; rfl
    rw [← this]; exact hr
  refine (CallWP.law (w := W) (vs := #[v0]) (law ns hb) rfl (fun i x hx => ?_)).mono fun e W' ⟨he, bel⟩ => ?_
  · cases i with
    | zero => simp at hx; subst hx; exact hr'
    | succ i => simp at hx
  subst he
  exact ⟨_, rfl, _, _, _, [], _, [], hW', trodAll_mk1 (shut_bool Try.underlying4 _), trodAll_mk1 (trod_below (by kernel_rfl) (by kernel_rfl) (of_decide_eq_true (by kernel_rfl)) h0 bel), rfl, bel.frame _, fun h => by cases h⟩

set_option maxRecDepth 100000 in
theorem lifted (os : Os) (started : os.Started) (H : Type) (enc : TypeId × Value → H) (F : Stop.Interp) :
    ReturnsInHanded {} Try.checked os 5 .any ((Rows.OpenSpec.upto Rows.treeCountsSpec).pre6 enc Try.prog Try.f5 Rows.treeCountsUptoRow.domain false) (((Rows.OpenSpec.upto Rows.treeCountsSpec).at F).post enc Try.prog Try.f5 false true false false) := by
  refine returnsInHanded_of_cond (C := Try.checked) (s := Rows.OpenSpec.upto Rows.treeCountsSpec) (k := Rows.uptoSmall) rfl own started (by kernel_rfl) Try.func5
    (OpenSpec.witness (enc := enc) (C := Try.checked) (s := Rows.OpenSpec.upto Rows.treeCountsSpec) (k := Rows.uptoSmall) rfl false ⟨#[], #[.slice none 0 0], []⟩ 8 (by kernel_rfl) (by kernel_rfl) (by kernel_rfl)
      (x := ([.nil], [], [])) (by kernel_rfl) rfl (by kernel_rfl)) ?_
  intro W base args ds gs before hval hW _ hk _
  exact contract H enc W base args ds gs before hval hW hk

theorem over : Rows.treeCountsUptoRow.holds Try.pinned (Rows.OpenSpec.upto Rows.treeCountsSpec) :=
  OpenClaim.holds_of_cond 5 Try.f5 rfl rfl rfl rfl rfl rfl rfl ⟨rfl, rfl, rfl, rfl, rfl⟩ rfl rfl rfl rfl rfl (by kernel_rfl) Try.func5 (by kernel_rfl)
    (of_decide_eq_true (by kernel_rfl)) (by unfold Func.isWrapper; first | (rw [if_pos (by decide +kernel)]; kernel_rfl) | (rw [if_neg (by decide +kernel)]; exact ⟨rfl, rfl⟩))
    (fun os started H enc _ F => lifted os started H enc F)
end Go.Proofs.Ytleedkindimmiaa.treeCounts
namespace Go.Proofs.Ytleedkindimmiaa
/-- The row of the second form. -/
theorem treeCounts_holds : Rows.TreeCountsUptoSaid := treeCounts.over
end Go.Proofs.Ytleedkindimmiaa
#print axioms Go.Proofs.Ytleedkindimmiaa.treeCounts_holds
