/- A map whose keys are pairs of numbers: which keys it holds. -/
import Derived.Test.YtkjiccficfcaeaaVTab
import Derived.Maps.Own
import Derived.Maps.OwnSet
import Derived.Maps.Views
import Derived.DeepKeys3
import Derived.WalkKit
set_option linter.unusedVariables false
set_option linter.unusedSimpArgs false
namespace Go.VL.MapPair
open Go Go.Proofs Go.VL Go.RowKit Go.Maps
set_option maxRecDepth 100000
theorem law : Keyed Try.prog 37 := Keyed.of_law (deep_law (m := 2) (by omega) (by kernel_rfl) (by kernel_rfl) (by kernel_rfl))
def small (x : Int × Int) : Prop := (-1 ≤ x.1 ∧ x.1 < 1000) ∧ (-1 ≤ x.2 ∧ x.2 < 1000)
def kl (x : Int × Int) : Lit := .string (keyBytes [.int .i64 x.1, .int .i64 x.2])
def pv (x : Int × Int) : Value := .agg #[.int .i64 x.1, .int .i64 x.2]
theorem keyOf_pair (x : Int × Int) (h : small x) : keyOf Try.prog 37 (pv x) = some (kl x) := by
  obtain ⟨⟨h1, h2⟩, h3, h4⟩ := h
  have hu := Try.underlying37
  have hi := Try.underlying3
  have hkt : Try.prog.keyType 37 = true := by kernel_rfl
  have hco : Try.prog.cellsOf 37 = 2 := by kernel_rfl
  have hci : Try.prog.cellsOf 3 = 1 := by kernel_rfl
  have h0 : (Try.prog.types.size != 0) = true := by kernel_rfl
  obtain ⟨d, hd⟩ : ∃ d, Try.prog.types.size = d + 1 := ⟨Try.prog.types.size - 1, by
    have h0' : Try.prog.types.size ≠ 0 := fun e => by rw [e] at h0; cases h0
    omega⟩
  have hmin : IntKind.i64.min = -9223372036854775808 := rfl
  have hmax : IntKind.i64.max = 9223372036854775807 := rfl
  have w1 : (Lit.int .i64 x.1).wf = true := by simp [Lit.wf, hmin, hmax]; omega
  have w2 : (Lit.int .i64 x.2).wf = true := by simp [Lit.wf, hmin, hmax]; omega
  unfold keyOf
  rw [hu]
  simp only [hkt, pv, Value.formed, hu, hco, hd]
  rw [if_pos (by simp)]
  have e1 : Try.prog.keyLits (d + 1) 3 [.int .i64 x.1] = some [.int .i64 x.1] := by unfold Program.keyLits; simp [hi, w1]
  have e2 : Try.prog.keyLits (d + 1) 3 [.int .i64 x.2] = some [.int .i64 x.2] := by unfold Program.keyLits; simp [hi, w2]
  have e3 : Try.prog.keyLits (d + 1 + 1) 37 [.int .i64 x.1, .int .i64 x.2] = some [.int .i64 x.1, .int .i64 x.2] := by
    unfold Program.keyLits
    simp only [hu, hco, hci]
    simp [e1, e2, hci]
  show Option.map _ (Try.prog.keyLits (d + 1 + 1) 37 [.int .i64 x.1, .int .i64 x.2]) = _
  rw [e3]; rfl
theorem kl_inj {x y : Int × Int} (hx : small x) (hy : small y) (h : kl x = kl y) : x = y := by
  have := law.inj (keyOf_pair x hx) (by rw [h]; exact keyOf_pair y hy)
  simp [pv] at this
  exact Prod.ext this.1 this.2
/-- The map holds just the pairs of the list. -/
def Knows (D : DataW Unit) (all : List (Int × Int)) : Prop := IsMap D ∧ ∀ x, small x → (has D (kl x) = true ↔ x ∈ all)
theorem knows_nil : Knows (.map []) [] := ⟨isMap_empty, fun x _ => by simp [has_eq]⟩
theorem Knows.put {D : DataW Unit} {all : List (Int × Int)} (h : Knows D all) {x : Int × Int} (hx : small x) (d : DataW Unit) : Knows (D.put (kl x) d) (all ++ [x]) := by
  refine ⟨?_, fun y hy => ?_⟩
  · exact h.1.put _ _
  · by_cases hxy : y = x
    · subst hxy
      rw [has_put_same h.1 (law.key (keyOf_pair y hy))]; simp
    · have hne : kl y ≠ kl x := fun e => hxy (kl_inj hy hx e)
      rw [has_put_other hne, h.2 y hy]; simp [hxy]
end Go.VL.MapPair
