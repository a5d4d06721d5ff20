/- The law RulesLinks answers true, and its arguments read as before, where they are of bulk at most 1048576. -/
import Derived.Test.YtbokamdcjofkbaaGreatDoorCards
import Derived.Test.YtbokamdcjofkbaaGreatDoorTie
import Derived.Deep.DeepHandedRow
import Derived.Deep.DeepWitnessRowRef
import Derived.Deep.DeepLaidRun
import Derived.Stop.LaidErr
import Derived.Lib.LaidTab
import Derived.Test.YtbokamdcjofkbaaGreatDoorRulesLinks
import Derived.Test.YtbokamdcjofkbaaGreatDoorVTy3
import Derived.Test.YtbokamdcjofkbaaGreatDoorVGl
import Derived.WalkKit
import Derived.ProofKit
import Derived.OpenShut
import Derived.JoinedCond
set_option linter.unusedVariables false
set_option linter.unusedSimpArgs false
namespace Go.Proofs.YtbokamdcjofkbaaGreatDoor.rulesLinks
open Go.ChangeShapes Go.WideShapes Go.ChangeAt Go.RowKit Go.VL Go.VL.RulesLinks
set_option linter.unusedVariables false

theorem own : ownKnob Tryz.prog.godebug = none := by kernel_rfl
mutual
theorem bulk {H : Type} : ∀ d : DataW H, szL (dOf d) ≤ Rows.uptoBulk d
  | .lit (.bool b) => by simp [dOf, szL, szD, Rows.uptoBulk]
  | .lit (.int k n) => by simp [dOf, szL, szD, Rows.uptoBulk]
  | .lit (.float k n) => by simp [dOf, szL]
  | .lit .nil => by simp [dOf, szL]
  | .lit (.string s) => by simp [dOf, szL, szD, Rows.uptoBulk]
  | .slice es sp => by have := bulkA es; simp [dOf, szL, szD, Rows.uptoBulk]; omega
  | .nil => by simp [dOf, szL, szD, szLL, Rows.uptoBulk]
  | .agg ps => by have := bulkF ps; simp [dOf, Rows.uptoBulk]; omega
  | .ptr d => by simp [dOf, szL]
  | .iface t d => by simp [dOf, szL]
  | .map es => by simp [dOf, szL]
  | .held h => by simp [dOf, szL]
theorem bulkA {H : Type} : ∀ l : List (DataW H), szLL (dOfA l) ≤ Rows.uptoBulkAll l
  | [] => by simp [dOfA, szLL]
  | d :: r => by have := bulk d; have := bulkA r; simp [dOfA, szLL, Rows.uptoBulkAll]; omega
theorem bulkF {H : Type} : ∀ l : List (DataW H), szL (dOfF l) ≤ Rows.uptoBulkAll l
  | [] => by simp [dOfF, szL]
  | d :: r => by have := bulk d; have := bulkF r; simp [dOfF, szL_app, Rows.uptoBulkAll]; omega
end
theorem good : ∀ t ∈ [22, 9, 27, 39, 37, 47], goodB Tryz.prog [22, 9, 27, 39, 37, 47] t = true := by
  have : ([22, 9, 27, 39, 37, 47].all (goodB Tryz.prog [22, 9, 27, 39, 37, 47])) = true := by kernel_rfl
  exact fun t ht => List.all_eq_true.mp this t ht

set_option maxRecDepth 100000 in
theorem glob {W : World} (h : World.ShapedOpen Tryz.prog W) : GlobOK Tryz.prog (fun _ => False) (fun _ => False) W :=
  GlobOK.maxLen (by kernel_rfl) (by kernel_rfl) (by kernel_rfl) (by kernel_rfl) (fun g hg => by
    obtain rfl : 2 = g := Option.some.inj ((show Tryz.prog.globalNamed "internal/bytealg.MaxLen" = some 2 by kernel_rfl).symm.trans hg)
    exact int_of_shape (g := 2) (t := 3) (zero := #[.int .i64 0]) h (by decide +kernel) (by kernel_rfl) rfl (by kernel_rfl) (by kernel_rfl) Tryz.underlying3)

set_option maxRecDepth 100000 in
theorem contract (H : Type) (enc : TypeId × Value → H) (W : World) (base : Nat) (args : Array Value) (ds gs : List (DataW H)) (before : List MemPlace)
    (hval : ∀ (j : Nat) t v, Tryz.f4.params[j]? = some t → args[j]? = some v → Value.okWide Tryz.prog W .any base t v)
    (hW : DataW.Whole enc Tryz.prog Tryz.f4.params.toList Rows.rulesLinksSpec.vars false W args.toList ds gs before) (hk : Rows.uptoSmall H (ds ++ gs) = true) (hL : World.ShapedOpen Tryz.prog W) :
    Calls Tryz.prog 4 args W fun e W' => ∃ v, e = .returned v ∧ Rows.rulesLinksSpec.post enc Tryz.prog Tryz.f4 false true false false W args v W' := by
  have hW' := hW
  obtain ⟨p, q, hA0, hV, rfl, hfz, hnd⟩ := hW
  have hA : DataW.TrodAll enc Tryz.prog W 0 (fun _ => true) true Tryz.f4.params.toList args.toList ds p := hA0
  rw [Tryz.params4] at hA hval
  obtain ⟨v0, vs0, d0, ds0, p0, q0', hargs0, rfl, rfl, h0, r0⟩ := trodAll_cons hA
  obtain ⟨v1, vs1, d1, ds1, p1, q1', hargs1, rfl, rfl, h1, r1⟩ := trodAll_cons r0
  obtain ⟨v2, vs2, d2, ds2, p2, q2', hargs2, rfl, rfl, h2, r2⟩ := trodAll_cons r1
  obtain ⟨rfl, rfl, rfl⟩ := trodAll_nil r2
  obtain rfl : args = #[v0, v1, v2] := by cases args; simp_all
  obtain ⟨rfl, rfl⟩ := trodVars_none hV
  clear hA0
  obtain ⟨hr0, hty0⟩ := arg_rep (θ := fun _ => none) good (by decide) (hval 0 22 v0 rfl rfl) h0
  obtain ⟨hr1, hty1⟩ := arg_rep (θ := fun _ => none) good (by decide) (hval 1 22 v1 rfl rfl) h1
  obtain ⟨hr2, hty2⟩ := arg_rep (θ := fun _ => none) good (by decide) (hval 2 27 v2 rfl rfl) h2
  obtain ⟨x0, e0⟩ := ty_strs Tryz.underlying22 Tryz.underlying9 hty0
  obtain ⟨x1, e1⟩ := ty_strs Tryz.underlying22 Tryz.underlying9 hty1
  obtain ⟨x2, e2⟩ := (ty_nodes Tryz.underlying27 Tryz.underlying39 rfl Tryz.underlying37 Tryz.underlying47 rfl Tryz.underlying9 hty2).1 rfl
  have hk2 : Rows.uptoBulkAll [d0, d1, d2] ≤ 1048576 := by simpa only [Rows.uptoSmall, List.append_nil, decide_eq_true_eq] using hk
  simp only [Rows.uptoBulkAll] at hk2
  have hs0 : szL (dOf d0) ≤ 1048576 := by have := bulk d0; omega
  rw [e0] at hs0 hr0
  have hr0' : RepT W (fun _ => False) (fun _ => none) v0 (.d (.sl (x0.map iS))) := by
    have h := hr0
    unfold argD at h
    rw [Tryz.underlying22] at h
    exact h
  have hs1 : szL (dOf d1) ≤ 1048576 := by have := bulk d1; omega
  rw [e1] at hs1 hr1
  have hr1' : RepT W (fun _ => False) (fun _ => none) v1 (.d (.sl (x1.map iS))) := by
    have h := hr1
    unfold argD at h
    rw [Tryz.underlying22] at h
    exact h
  have hs2 : szL (dOf d2) ≤ 1048576 := by have := bulk d2; omega
  rw [e2] at hs2 hr2
  have hr2' : RepT W (fun _ => False) (fun _ => none) v2 (.d (.sl (nds x2))) := by
    have h := hr2
    unfold argD at h
    rw [Tryz.underlying27] at h
    exact h
  refine (CallWP.law (w := W) (vs := #[v0, v1, v2]) (law x0 x1 x2 hs0 hs1 hs2) rfl (fun i x hx => ?_) (glob hL)).mono fun e W' ⟨he, bel⟩ => ?_
  · match i, hx with
    | 0, hx => simp at hx; subst hx; exact hr0'
    | 1, hx => simp at hx; subst hx; exact hr1'
    | 2, hx => simp at hx; subst hx; exact hr2'
    | i + 3, hx => simp at hx
  subst he
  exact ⟨_, rfl, _, _, _, [], _, [], hW', trodAll_mk1 (shut_bool Tryz.underlying4 _), trodAll_mk3 (trod_below (by kernel_rfl) (by kernel_rfl) (of_decide_eq_true (by kernel_rfl)) h0 bel) (trod_below (by kernel_rfl) (by kernel_rfl) (of_decide_eq_true (by kernel_rfl)) h1 bel) (trod_below (by kernel_rfl) (by kernel_rfl) (of_decide_eq_true (by kernel_rfl)) h2 bel), rfl, bel.frame _, fun h => by cases h⟩

mutual
def lc : DataW Unit → List Value
  | .lit (.int k n) => [.int k n]
  | .agg ps => lcs ps
  | _ => []
def lcs : List (DataW Unit) → List Value
  | [] => []
  | d :: r => lc d ++ lcs r
end
/-- The witness: the settled world, the listed variables holding what is told. -/
noncomputable def laidWorld (os : Os) : World :=
  let w0 := World.holding Tryz.prog os ⟨#[], #[], []⟩
  let put (h : Array Obj) (g : Nat) (cs : Array Value) : Array Obj := h.modify g fun
    | .cells _ t frozen => .cells cs t frozen
    | o => o
  { w0 with heap := put (put (w0.heap) 1 (lc Rows.laid_unicode_utf8_acceptRanges).toArray) 0 (lc Rows.laid_unicode_utf8_first).toArray }
theorem laid_met (os : Os) (args : Array Value) : laidMet Tryz.prog Rows.rulesLinksUptoRow.laid ((laidWorld os).forCall (fun _ _ => 0) ⟨#[], args, []⟩).memory :=
  laidMet_of_run3 10 (by kernel_rfl) (by kernel_rfl) (by kernel_rfl)
theorem reads (os : Os) {H : Type} (enc : TypeId × Value → H) : ∃ places, DataW.whole enc Tryz.prog ((laidWorld os).forCall (fun _ _ => 0) ⟨#[], #[.slice none 0 0, .slice none 0 0, .slice none 0 0], []⟩).memory Tryz.f4.params.toList Rows.rulesLinksSpec.vars false #[.slice none 0 0, .slice none 0 0, .slice none 0 0].toList 8 = some ([.nil, .nil, .nil], [], places) :=
  ⟨[], by kernel_rfl⟩

set_option maxRecDepth 100000 in
theorem lifted (os : Os) (started : os.Started) (H : Type) (enc : TypeId × Value → H) (F : Stop.Interp) :
    ReturnsInHanded {} Tryz.checked os 4 .any ((Rows.OpenSpec.upto Rows.rulesLinksSpec).preRow enc Tryz.prog Tryz.f4 Rows.rulesLinksUptoRow.domain false Rows.rulesLinksUptoRow.laid) (((Rows.OpenSpec.upto Rows.rulesLinksSpec).at F).post enc Tryz.prog Tryz.f4 false true false false) := by
  obtain ⟨places, hx⟩ := reads os enc
  refine returnsInHanded_of_row (C := Tryz.checked) (s := Rows.OpenSpec.upto Rows.rulesLinksSpec) own started (by kernel_rfl) Tryz.func4
    (witness_row_atRef (enc := enc) (C := Tryz.checked) false (laidWorld os) #[.slice none 0 0, .slice none 0 0, .slice none 0 0] rfl (by kernel_rfl) (by kernel_rfl) (by kernel_rfl)
      (OpenSpec.preRow_of_cond 8 hx (by kernel_rfl) (fun k hk => by cases hk; kernel_rfl) (by kernel_rfl) (laid_met os _))) ?_
  intro W base args ds gs before hval hW _ hk _ _ hL _
  exact contract H enc W base args ds gs before hval hW (hk _ rfl) hL

theorem over : Rows.RulesLinksUptoSaid :=
  OpenClaim.holds_of_cond 4 Tryz.f4 rfl rfl rfl rfl rfl rfl rfl ⟨rfl, rfl, rfl, rfl, rfl⟩ rfl rfl rfl rfl rfl (by kernel_rfl) Tryz.func4 (by kernel_rfl)
    (of_decide_eq_true (by kernel_rfl)) (by unfold Func.isWrapper; first | (rw [if_pos (by decide +kernel)]; kernel_rfl) | (rw [if_neg (by decide +kernel)]; exact ⟨rfl, rfl⟩))
    (fun os started H enc _ F => by rw [OpenClaim.pre_eq_preRow]; exact lifted os started H enc F)

theorem plain (f : FuncId) (fn : Func) (hf : Tryz.pinned.checked.prog.funcNamed "bobbinet/bobbinetlaw.RulesLinks" = some f) (hfn : Tryz.pinned.checked.prog.funcs[f]? = some fn) :
    true = Tryz.pinned.checked.prog.looks [] ∧ ∀ (j : Nat) t, fn.params[j]? = some t → Tryz.pinned.checked.prog.wantsStandIn t = false := by
  obtain rfl : f = 4 := Option.some.inj ((show Tryz.prog.funcNamed "bobbinet/bobbinetlaw.RulesLinks" = some 4 by kernel_rfl).symm.trans hf) |>.symm
  obtain rfl : fn = Tryz.f4 := (Option.some.inj (Tryz.func4.symm.trans hfn)).symm
  refine ⟨by kernel_rfl, fun j t ht => ?_⟩
  rw [Tryz.params4] at ht
  have hm := Array.mem_of_getElem? ht
  have hall : ([22, 22, 27].all fun t => !(Tryz.pinned.checked.prog.wantsStandIn t)) = true := by kernel_rfl
  have := List.all_eq_true.mp hall t (by simpa using hm)
  simpa using this
theorem card : Rows.RulesLinksUptoCardSaid :=
  Claim7.holds_tied_plain_at .later [] _ _ _ _ over (fun _ h => by cases h) (by kernel_rfl) (fun _ h => by cases h) rulesLinksUpto_row_tie rfl ⟨rfl, rfl⟩ (by kernel_rfl) rfl plain (by kernel_rfl)
end Go.Proofs.YtbokamdcjofkbaaGreatDoor.rulesLinks
namespace Go.Proofs.YtbokamdcjofkbaaGreatDoor
/-- The tied card of the second form. -/
theorem rulesLinks_holds : Rows.RulesLinksUptoCardSaid := rulesLinks.card
end Go.Proofs.YtbokamdcjofkbaaGreatDoor
#print axioms Go.Proofs.YtbokamdcjofkbaaGreatDoor.rulesLinks_holds

