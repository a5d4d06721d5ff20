/- strings.Fields, of a text of letters below 128. -/
import Derived.Shelf.Strings.Fields
import Derived.Test.YtdiflegjgikpeaaDoorVLaw
import Derived.Test.YtdiflegjgikpeaaDoorVTy
set_option linter.unusedVariables false
set_option linter.unusedSimpArgs false
namespace Go.VL
open Go Go.RowKit Go.Proofs Go.Shelf
variable {P : Program} {ρ : Ren}
theorem GlobOK.tab {X O : Nat → Prop} {w : World} (h : GlobOK P X O w) {g : Nat} (hg : P.globalNamed "strings.asciiSpace" = some g) : Lib.TabIs P w "strings.asciiSpace" .u8 Lib.asciiSpaceTab := by
  obtain ⟨_, _, cs, e, fr, h3, h4⟩ := h ("strings.asciiSpace", fun cs => cs = (Lib.asciiSpaceTab.map fun z => Value.int .u8 z).toArray) g (by simp [Gl]) hg
  simp only at h4
  subst h4
  unfold Lib.TabIs World.var?
  rw [hg]
  simp only [Option.bind_some, h3]
theorem CallWP.fields (L : Lays.n157 P ρ) (hi9 : (P.info? (ρ.t 9)).map (fun i => (i.zero, i.size, i.bytes)) = some (some (.string ByteArray.empty), 1, 16)) (hg : P.globalNamed "strings.asciiSpace" = some (ρ.g 0))
    (f : Nat) (hf : f = ρ.f 157) (s : List UInt8) (hs : s.length < 4294967281) (ha : ∀ b ∈ s, b.toNat < 128) :
    CallWP P f [.d (.str s)] [] (fun r h => r = .d (.sl ((Lib.fields s).map fun l => [.str l])) ∧ h = []) := by
  subst hf
  intro X O w θ vs h1 h2 h3 h4 h5 hG
  have hv : vs = #[.string ⟨s.toArray⟩] := by
    have h := h2 0 _ rfl
    match vs, h1 with
    | ⟨[v]⟩, _ =>
      cases h with
      | d h => simp at h; cases h; rfl
  subst hv
  have hf := Any.strings_Fields L hi9 hg ⟨s.toArray⟩ w (show s.toArray.size < _ by simpa using hs) (fun j b hb => ha b (List.mem_of_getElem? (by simpa using hb))) (hG.tab hg)
  refine hf.mono fun e w' ⟨he, hw⟩ => ⟨_, _, [], θ, he, ⟨rfl, rfl⟩, fun _ _ h => h, ?_, ⟨fun i o hi => by simp [look] at hi, fun i i' o1 o2 l1 l2 b hi => by simp [look] at hi, fun i o l b hi => by simp [look] at hi⟩, ?_⟩
  · subst hw
    have hl : ((Lib.fields s).map fun l => [D.str l]).length = (Lib.fields (ByteArray.mk s.toArray).data.toList).length := by simp
    rw [← hl]
    refine .d (.sl _ _ _ 1 (fun i j => .string ⟨((Lib.fields s)[i]?.getD []).toArray⟩) (Nat.le_refl _) (fun _ => ⟨rfl, ?_, ?_⟩) ?_ ?_ ?_)
    · rintro (hx | ⟨i, o, l, hi, _⟩)
      · have := h4 _ hx; simp at this
      · simp [look] at hi
    · simp
    · intro e he
      obtain ⟨l, _, rfl⟩ := List.mem_map.mp he
      rfl
    · intro i j x hx
      cases hi : (Lib.fields s)[i]? with
      | none => simp [hi] at hx
      | some l =>
        simp only [List.getElem?_map, hi, Option.map_some, Option.bind_some] at hx
        cases j with
        | succ j => simp at hx
        | zero =>
          simp at hx
          unfold cellAt World.cell?
          simp only [alloc_heap, if_true]
          simp [hi]
    · intro i j x hx
      cases hi : (Lib.fields s)[i]? with
      | none => simp [hi] at hx
      | some l =>
        simp only [List.getElem?_map, hi, Option.map_some, Option.bind_some] at hx
        cases j with
        | succ j => simp at hx
        | zero =>
          simp at hx
          subst hx
          exact .str l
  · subst hw
    exact Kp.alloc _ _
end Go.VL
