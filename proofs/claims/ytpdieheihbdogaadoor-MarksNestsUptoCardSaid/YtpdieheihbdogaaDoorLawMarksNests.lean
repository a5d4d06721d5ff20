/- The law MarksNests answers true, and its arguments read as before, where they are of bulk at most 1048576. -/
import Derived.Test.YtpdieheihbdogaaDoorCards
import Derived.Test.YtpdieheihbdogaaDoorTie
import Derived.Deep.DeepHandedRow
import Derived.Deep.DeepWitnessRowRef
import Derived.Deep.DeepLaidRun
import Derived.Stop.LaidErr
import Derived.Lib.LaidTab
import Derived.Test.YtpdieheihbdogaaDoorMarksNests
import Derived.Test.YtpdieheihbdogaaDoorVTy3
import Derived.Test.YtpdieheihbdogaaDoorVGl
import Derived.WalkKit
import Derived.ProofKit
import Derived.OpenShut
import Derived.JoinedCond
set_option linter.unusedVariables false
set_option linter.unusedSimpArgs false
namespace Go.Proofs.YtpdieheihbdogaaDoor.marksNests
open Go.ChangeShapes Go.WideShapes Go.ChangeAt Go.RowKit Go.VL Go.VL.MarksNests
set_option linter.unusedVariables false

theorem own : ownKnob Tryd.prog.godebug = none := by kernel_rfl
mutual
theorem bulk {H : Type} : ∀ d : DataW H, szL (dOf d) ≤ Rows.uptoBulk d
  | .lit (.bool b) => by simp [dOf, szL, szD, Rows.uptoBulk]
  | .lit (.int k n) => by simp [dOf, szL, szD, Rows.uptoBulk]
  | .lit (.float k n) => by simp [dOf, szL]
  | .lit .nil => by simp [dOf, szL]
  | .lit (.string s) => by simp [dOf, szL, szD, Rows.uptoBulk]
  | .slice es sp => by have := bulkA es; simp [dOf, szL, szD, Rows.uptoBulk]; omega
  | .nil => by simp [dOf, szL, szD, szLL, Rows.uptoBulk]
  | .agg ps => by have := bulkF ps; simp [dOf, Rows.uptoBulk]; omega
  | .ptr d => by simp [dOf, szL]
  | .iface t d => by simp [dOf, szL]
  | .map es => by simp [dOf, szL]
  | .held h => by simp [dOf, szL]
theorem bulkA {H : Type} : ∀ l : List (DataW H), szLL (dOfA l) ≤ Rows.uptoBulkAll l
  | [] => by simp [dOfA, szLL]
  | d :: r => by have := bulk d; have := bulkA r; simp [dOfA, szLL, Rows.uptoBulkAll]; omega
theorem bulkF {H : Type} : ∀ l : List (DataW H), szL (dOfF l) ≤ Rows.uptoBulkAll l
  | [] => by simp [dOfF, szL]
  | d :: r => by have := bulk d; have := bulkF r; simp [dOfF, szL_app, Rows.uptoBulkAll]; omega
end
theorem good : ∀ t ∈ [22, 9, 23, 38], goodB Tryd.prog [22, 9, 23, 38] t = true := by
  have : ([22, 9, 23, 38].all (goodB Tryd.prog [22, 9, 23, 38])) = true := by kernel_rfl
  exact fun t ht => List.all_eq_true.mp this t ht

set_option maxRecDepth 100000 in
theorem glob {W : World} (h : laidMetH Tryd.prog Rows.marksNestsUptoRow.laid W) : GlobOK Tryd.prog (fun _ => False) (fun _ => False) W :=
  GlobOK.space (by kernel_rfl) (by kernel_rfl) (by kernel_rfl) (by kernel_rfl) (Lib.tabIs_of_head (rest := []) (g := 0) (t := 55) (e := 5) (n := 256) (by kernel_rfl) (by kernel_rfl) Tryd.underlying55 Tryd.underlying5 (by kernel_rfl) (by kernel_rfl) (laidMet.tail h))

set_option maxRecDepth 100000 in
theorem contract (H : Type) (enc : TypeId × Value → H) (W : World) (base : Nat) (args : Array Value) (ds gs : List (DataW H)) (before : List MemPlace)
    (hval : ∀ (j : Nat) t v, Tryd.f3.params[j]? = some t → args[j]? = some v → Value.okWide Tryd.prog W .any base t v)
    (hW : DataW.Whole enc Tryd.prog Tryd.f3.params.toList Rows.marksNestsSpec.vars false W args.toList ds gs before) (hk : Rows.uptoSmall H (ds ++ gs) = true) (hL : laidMetH Tryd.prog Rows.marksNestsUptoRow.laid W) :
    Calls Tryd.prog 3 args W fun e W' => ∃ v, e = .returned v ∧ Rows.marksNestsSpec.post enc Tryd.prog Tryd.f3 false true false false W args v W' := by
  have hW' := hW
  obtain ⟨p, q, hA0, hV, rfl, hfz, hnd⟩ := hW
  have hA : DataW.TrodAll enc Tryd.prog W 0 (fun _ => true) true Tryd.f3.params.toList args.toList ds p := hA0
  rw [Tryd.params3] at hA hval
  obtain ⟨v0, vs0, d0, ds0, p0, q0', hargs0, rfl, rfl, h0, r0⟩ := trodAll_cons hA
  obtain ⟨v1, vs1, d1, ds1, p1, q1', hargs1, rfl, rfl, h1, r1⟩ := trodAll_cons r0
  obtain ⟨rfl, rfl, rfl⟩ := trodAll_nil r1
  obtain rfl : args = #[v0, v1] := by cases args; simp_all
  obtain ⟨rfl, rfl⟩ := trodVars_none hV
  clear hA0
  obtain ⟨hr0, hty0⟩ := arg_rep (θ := fun _ => none) good (by decide) (hval 0 22 v0 rfl rfl) h0
  obtain ⟨hr1, hty1⟩ := arg_rep (θ := fun _ => none) good (by decide) (hval 1 23 v1 rfl rfl) h1
  obtain ⟨x0, e0⟩ := ty_strs Tryd.underlying22 Tryd.underlying9 hty0
  obtain ⟨x1, e1⟩ := ty_runs Tryd.underlying23 Tryd.underlying38 rfl Tryd.underlying9 Tryd.underlying22 hty1
  have hk2 : Rows.uptoBulkAll [d0, d1] ≤ 1048576 := by simpa only [Rows.uptoSmall, List.append_nil, decide_eq_true_eq] using hk
  simp only [Rows.uptoBulkAll] at hk2
  have hs0 : szL (dOf d0) ≤ 1048576 := by have := bulk d0; omega
  rw [e0] at hs0 hr0
  have hr0' : RepT W (fun _ => False) (fun _ => none) v0 (.d (.sl (x0.map iS))) := by
    have h := hr0
    unfold argD at h
    rw [Tryd.underlying22] at h
    exact h
  have hs1 : szL (dOf d1) ≤ 1048576 := by have := bulk d1; omega
  rw [e1] at hs1 hr1
  have hr1' : RepT W (fun _ => False) (fun _ => none) v1 (.d (.sl (x1.map Run.d))) := by
    have h := hr1
    unfold argD at h
    rw [Tryd.underlying23] at h
    exact h
  refine (CallWP.law (w := W) (vs := #[v0, v1]) (law x0 x1 hs0 hs1) rfl (fun i x hx => ?_) (glob hL)).mono fun e W' ⟨he, bel⟩ => ?_
  · match i, hx with
    | 0, hx => simp at hx; subst hx; exact hr0'
    | 1, hx => simp at hx; subst hx; exact hr1'
    | i + 2, hx => simp at hx
  subst he
  exact ⟨_, rfl, _, _, _, [], _, [], hW', trodAll_mk1 (shut_bool Tryd.underlying4 _), trodAll_mk2 (trod_below (by kernel_rfl) (by kernel_rfl) (of_decide_eq_true (by kernel_rfl)) h0 bel) (trod_below (by kernel_rfl) (by kernel_rfl) (of_decide_eq_true (by kernel_rfl)) h1 bel), rfl, bel.frame _, fun h => by cases h⟩

/-- The witness: the settled world with two blocks more (the ranges of White_Space; its table), the two variables holding what their initialisers lay. -/
noncomputable def laidWorld (os : Os) : World :=
  let N := (World.settled Tryd.prog os).heap.size
  let w0 := World.holding Tryd.prog os ⟨#[.cells (([9, 13, 1, 32, 133, 101, 160, 5760, 5600, 8192, 8202, 1, 8232, 8233, 1, 8239, 8287, 48, 12288, 12288, 1] : List Int).map fun z => Value.int .u16 z).toArray 72, .cells #[.slice (some ⟨N, 0, none⟩) 7 7, .slice none 0 0, .int .i64 2] 69], #[], []⟩
  let put (h : Array Obj) (g : Nat) (cs : Array Value) : Array Obj := h.modify g fun
    | .cells _ t frozen => .cells cs t frozen
    | o => o
  { w0 with heap := put (put w0.heap 0 (Lib.asciiSpaceTab.map fun z => Value.int .u8 z).toArray) 1 #[.pointer (some ⟨N + 1, 0, none⟩)] }
theorem laid_met (os : Os) (args : Array Value) : laidMet Tryd.prog Rows.marksNestsUptoRow.laid ((laidWorld os).forCall (fun _ _ => 0) ⟨#[], args, []⟩).memory :=
  laidMet_of_run3 10 (by kernel_rfl) (by kernel_rfl) (by kernel_rfl)
theorem reads (os : Os) {H : Type} (enc : TypeId × Value → H) : ∃ places, DataW.whole enc Tryd.prog ((laidWorld os).forCall (fun _ _ => 0) ⟨#[], #[.slice none 0 0, .slice none 0 0], []⟩).memory Tryd.f3.params.toList Rows.marksNestsSpec.vars false #[.slice none 0 0, .slice none 0 0].toList 8 = some ([.nil, .nil], [], places) :=
  ⟨[], by kernel_rfl⟩

set_option maxRecDepth 100000 in
theorem lifted (os : Os) (started : os.Started) (H : Type) (enc : TypeId × Value → H) (F : Stop.Interp) :
    ReturnsInHanded {} Tryd.checked os 3 .any ((Rows.OpenSpec.upto Rows.marksNestsSpec).preRow enc Tryd.prog Tryd.f3 Rows.marksNestsUptoRow.domain false Rows.marksNestsUptoRow.laid) (((Rows.OpenSpec.upto Rows.marksNestsSpec).at F).post enc Tryd.prog Tryd.f3 false true false false) := by
  obtain ⟨places, hx⟩ := reads os enc
  refine returnsInHanded_of_row (C := Tryd.checked) (s := Rows.OpenSpec.upto Rows.marksNestsSpec) own started (by kernel_rfl) Tryd.func3
    (witness_row_atRef (enc := enc) (C := Tryd.checked) false (laidWorld os) #[.slice none 0 0, .slice none 0 0] rfl (by kernel_rfl) (by kernel_rfl) (by kernel_rfl)
      (OpenSpec.preRow_of_cond 8 hx (by kernel_rfl) (fun k hk => by cases hk; kernel_rfl) (by kernel_rfl) (laid_met os _))) ?_
  intro W base args ds gs before hval hW _ hk _ hL _ _
  exact contract H enc W base args ds gs before hval hW (hk _ rfl) hL

theorem over : Rows.MarksNestsUptoSaid :=
  OpenClaim.holds_of_cond 3 Tryd.f3 rfl rfl rfl rfl rfl rfl rfl ⟨rfl, rfl, rfl, rfl, rfl⟩ rfl rfl rfl rfl rfl (by kernel_rfl) Tryd.func3 (by kernel_rfl)
    (of_decide_eq_true (by kernel_rfl)) (by unfold Func.isWrapper; first | (rw [if_pos (by decide +kernel)]; kernel_rfl) | (rw [if_neg (by decide +kernel)]; exact ⟨rfl, rfl⟩))
    (fun os started H enc _ F => by rw [OpenClaim.pre_eq_preRow]; exact lifted os started H enc F)

theorem plain (f : FuncId) (fn : Func) (hf : Tryd.pinned.checked.prog.funcNamed "bobbinet/bobbinetlaw.MarksNests" = some f) (hfn : Tryd.pinned.checked.prog.funcs[f]? = some fn) :
    false = Tryd.pinned.checked.prog.looks [] ∧ ∀ (j : Nat) t, fn.params[j]? = some t → Tryd.pinned.checked.prog.wantsStandIn t = false := by
  obtain rfl : f = 3 := Option.some.inj ((show Tryd.prog.funcNamed "bobbinet/bobbinetlaw.MarksNests" = some 3 by kernel_rfl).symm.trans hf) |>.symm
  obtain rfl : fn = Tryd.f3 := (Option.some.inj (Tryd.func3.symm.trans hfn)).symm
  refine ⟨by kernel_rfl, fun j t ht => ?_⟩
  rw [Tryd.params3] at ht
  have hm := Array.mem_of_getElem? ht
  have hall : ([22, 23].all fun t => !(Tryd.pinned.checked.prog.wantsStandIn t)) = true := by kernel_rfl
  have := List.all_eq_true.mp hall t (by simpa using hm)
  simpa using this
theorem card : Rows.MarksNestsUptoCardSaid :=
  Claim7.holds_tied_plain_at .later [] _ _ _ _ over (fun _ h => by cases h) (by kernel_rfl) (fun _ h => by cases h) marksNestsUpto_row_tie rfl ⟨rfl, rfl⟩ (by kernel_rfl) rfl plain (by kernel_rfl)
end Go.Proofs.YtpdieheihbdogaaDoor.marksNests
namespace Go.Proofs.YtpdieheihbdogaaDoor
/-- The tied card of the second form. -/
theorem marksNests_holds : Rows.MarksNestsUptoCardSaid := marksNests.card
end Go.Proofs.YtpdieheihbdogaaDoor
#print axioms Go.Proofs.YtpdieheihbdogaaDoor.marksNests_holds

