/- strings.IndexByte. -/
import Derived.Test.YtekmfhoppbpobaaDoorVLaw
import Derived.Test.YtekmfhoppbpobaaDoorVTy
import Derived.Shelf.Small.Strs
set_option linter.unusedVariables false
set_option linter.unusedSimpArgs false
set_option linter.unusedVariables false
namespace Go.VL
open Go Go.RowKit Go.Proofs Go.Shelf
variable {P : Program} {ρ : Ren}
theorem CallWP.indexByte (L : Lays.n137 P ρ) (f : Nat) (hf : f = ρ.f 137) (s : List UInt8) (c : Int) :
    CallWP P f [.d (.str s), .d (.int .u8 c)] [] (fun r h => r = .d (.int .i64 (Lib.indexByte s c.toNat.toUInt8)) ∧ h = []) := by
  subst hf
  intro X O w θ vs h1 h2 h3 h4 h5 hG
  have hv : vs = #[.string ⟨s.toArray⟩, .int .u8 c] := by
    have ha := h2 0 _ rfl
    have hb := h2 1 _ rfl
    match vs, h1 with
    | ⟨[v, u]⟩, _ =>
      cases ha with
      | d ha =>
        cases hb with
        | d hb => simp at ha hb; cases ha; cases hb; rfl
  subst hv
  have hf := Any.strings_IndexByte L ⟨s.toArray⟩ c w
  refine hf.mono fun e w' ⟨he, hw⟩ => ⟨_, _, [], θ, he, ⟨rfl, rfl⟩, fun _ _ h => h, .d (.int _ _), ⟨fun i o hi => by simp [look] at hi, fun i i' o1 o2 l1 l2 b hi => by simp [look] at hi, fun i o l b hi => by simp [look] at hi⟩, ?_⟩
  subst hw
  exact Kp.refl _ _
end Go.VL
