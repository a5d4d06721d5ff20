/- The table of types, checked. -/
import Derived.Test.YtefgchjjnobhjaaDoorVDr
set_option linter.unusedVariables false
set_option linter.unusedSimpArgs false
namespace Go.VL
open Go Go.RowKit

def chkTy (P : Program) (t : Nat) (i : TyI) : Bool := match P.info? t, P.underlying t with
  | some info, some d => fitsK i.k d && Nat.beq info.size i.size && Nat.beq info.bytes i.bytes && (match i.zero with
    | none => true
    | some z => (match info.zero with
      | some v => Nat.beq v.cells.size i.size && zqL v.cells.toList z && (!i.k.agg || (match v with | .agg _ => true | _ => false))
      | none => false))
  | _, _ => false
def chkTys (P : Program) : Nat → List TyI → Bool
  | _, [] => true
  | t, i :: r => chkTy P t i && chkTys P (t + 1) r
def chkEnt (P : Program) (f : Nat) : Bool := match P.funcs[f]? with
  | some fn => !(fn.name == "runtime.NumGoroutine") && !fn.body.isNone
  | none => false
def chkEq (P : Program) (t : Nat) : Bool := (match P.underlying t with | some (.struct _) => true | _ => false) && !P.stoodInHeld t && !P.eqGuardType P.depth t && (P.fieldsOf t).toList.all fun f => !(f.name == "_")
def chkTab (P : Program) (tab : Tab) : Bool := chkTys P 0 tab.tys && tab.ent.all (chkEnt P) && tab.eqs.all (chkEq P)

theorem chkTys_at {P : Program} : ∀ {l : List TyI} {k t : Nat} {i : TyI}, chkTys P k l = true → l[t]? = some i → chkTy P (k + t) i = true
  | [], _, _, _, _, h => by simp at h
  | x :: r, k, t, i, h, hi => by
    simp only [chkTys, Bool.and_eq_true] at h
    cases t with
    | zero => simp at hi; subst hi; exact h.1
    | succ t =>
      have := chkTys_at (t := t) h.2 (by simpa using hi)
      rwa [show k + 1 + t = k + (t + 1) by omega] at this

theorem TabOK.of {P : Program} {tab : Tab} (h : chkTab P tab = true) : TabOK P tab := by
  simp only [chkTab, Bool.and_eq_true] at h
  obtain ⟨⟨h1', h2'⟩, h3'⟩ := h
  have h : chkTys P 0 tab.tys = true ∧ tab.ent.all (chkEnt P) = true := ⟨h1', h2'⟩
  refine ⟨fun t i hi => ?_, fun t ht => ?_, fun f hf => ?_⟩
  · unfold Tab.ty at hi
    rw [nth_eq] at hi
    have := chkTys_at h.1 hi
    rw [Nat.zero_add] at this
    unfold chkTy at this
    cases h1 : P.info? t with
    | none => simp [h1] at this
    | some info =>
      cases h2 : P.underlying t with
      | none => simp [h1, h2] at this
      | some d =>
        simp only [h1, h2, Bool.and_eq_true] at this
        obtain ⟨⟨⟨k1, k2⟩, k3⟩, k4⟩ := this
        refine ⟨info, d, rfl, rfl, k1, Nat.eq_of_beq_eq_true k2, Nat.eq_of_beq_eq_true k3, fun z hz => ?_⟩
        rw [hz] at k4
        simp only at k4
        cases h3 : info.zero with
        | none => simp [h3] at k4
        | some v =>
          simp only [h3, Bool.and_eq_true] at k4
          obtain ⟨⟨q1, q2⟩, q3⟩ := k4
          refine ⟨v, rfl, Nat.eq_of_beq_eq_true q1, q2, fun hagg => ?_⟩
          rw [hagg] at q3
          cases v <;> simp at q3
          exact ⟨_, rfl⟩
  · have := List.all_eq_true.mp h3' t (memN_iff.mp ht)
    unfold chkEq at this
    simp only [Bool.and_eq_true, Bool.not_eq_true', List.all_eq_true] at this
    obtain ⟨⟨⟨q1, q2⟩, q3⟩, q4⟩ := this
    refine ⟨?_, q2, q3, q4⟩
    cases hu : P.underlying t with
    | none => simp [hu] at q1
    | some d => cases d <;> simp [hu] at q1; simp [Program.fieldsOf, hu]
  · have := List.all_eq_true.mp h.2 f (memN_iff.mp hf)
    unfold chkEnt at this
    cases h1 : P.funcs[f]? with
    | none => simp [h1] at this
    | some fn =>
      simp only [h1, Bool.and_eq_true, Bool.not_eq_true'] at this
      exact ⟨fn, rfl, this.1, this.2⟩
end Go.VL
