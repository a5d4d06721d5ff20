/- strings.Fields, of a text of letters below 128. -/
import Derived.Shelf.Strings.Fields
import Derived.Shelf.Strings.Cut
import Derived.Shelf.Strings.SlTrimAscii
import Derived.Test.YtpdieheihbdogaaDoorVLaw
import Derived.Test.YtpdieheihbdogaaDoorVTy
set_option linter.unusedVariables false
set_option linter.unusedSimpArgs false
namespace Go.VL
open Go Go.RowKit Go.Proofs Go.Shelf
variable {P : Program} {ρ : Ren}
theorem GlobOK.tab {X O : Nat → Prop} {w : World} (h : GlobOK P X O w) {g : Nat} (hg : P.globalNamed "strings.asciiSpace" = some g) : Lib.TabIs P w "strings.asciiSpace" .u8 Lib.asciiSpaceTab := by
  obtain ⟨_, _, cs, e, fr, h3, h4⟩ := h ("strings.asciiSpace", fun cs => cs = (Lib.asciiSpaceTab.map fun z => Value.int .u8 z).toArray) g (by simp [Gl]) hg
  simp only at h4
  subst h4
  unfold Lib.TabIs World.var?
  rw [hg]
  simp only [Option.bind_some, h3]
theorem CallWP.fields (L : Lays.n157 P ρ) (hi9 : (P.info? (ρ.t 9)).map (fun i => (i.zero, i.size, i.bytes)) = some (some (.string ByteArray.empty), 1, 16)) (hg : P.globalNamed "strings.asciiSpace" = some (ρ.g 0))
    (f : Nat) (hf : f = ρ.f 157) (s : List UInt8) (hs : s.length < 4294967281) (ha : ∀ b ∈ s, b.toNat < 128) :
    CallWP P f [.d (.str s)] [] (fun r h => r = .d (.sl ((Lib.fields s).map fun l => [.str l])) ∧ h = []) := by
  subst hf
  intro X O w θ vs h1 h2 h3 h4 h5 hG
  have hv : vs = #[.string ⟨s.toArray⟩] := by
    have h := h2 0 _ rfl
    match vs, h1 with
    | ⟨[v]⟩, _ =>
      cases h with
      | d h => simp at h; cases h; rfl
  subst hv
  have hf := Any.strings_Fields L hi9 hg ⟨s.toArray⟩ w (show s.toArray.size < _ by simpa using hs) (fun j b hb => ha b (List.mem_of_getElem? (by simpa using hb))) (hG.tab hg)
  refine hf.mono fun e w' ⟨he, hw⟩ => ⟨_, _, [], θ, he, ⟨rfl, rfl⟩, fun _ _ h => h, ?_, ⟨fun i o hi => by simp [look] at hi, fun i i' o1 o2 l1 l2 b hi => by simp [look] at hi, fun i o l b hi => by simp [look] at hi⟩, ?_⟩
  · subst hw
    have hl : ((Lib.fields s).map fun l => [D.str l]).length = (Lib.fields (ByteArray.mk s.toArray).data.toList).length := by simp
    rw [← hl]
    refine .d (.sl _ _ _ 1 (fun i j => .string ⟨((Lib.fields s)[i]?.getD []).toArray⟩) (Nat.le_refl _) (fun _ => ⟨rfl, ?_, ?_⟩) ?_ ?_ ?_)
    · rintro (hx | ⟨i, o, l, hi, _⟩)
      · have := h4 _ hx; simp at this
      · simp [look] at hi
    · simp
    · intro e he
      obtain ⟨l, _, rfl⟩ := List.mem_map.mp he
      rfl
    · intro i j x hx
      cases hi : (Lib.fields s)[i]? with
      | none => simp [hi] at hx
      | some l =>
        simp only [List.getElem?_map, hi, Option.map_some, Option.bind_some] at hx
        cases j with
        | succ j => simp at hx
        | zero =>
          simp at hx
          unfold cellAt World.cell?
          simp only [alloc_heap, if_true]
          simp [hi]
    · intro i j x hx
      cases hi : (Lib.fields s)[i]? with
      | none => simp [hi] at hx
      | some l =>
        simp only [List.getElem?_map, hi, Option.map_some, Option.bind_some] at hx
        cases j with
        | succ j => simp at hx
        | zero =>
          simp at hx
          subst hx
          exact .str l
  · subst hw
    exact Kp.alloc _ _
end Go.VL

/- strings.Cut, and strings.Trim at a set of letters below 128. -/
namespace Go.VL
open Go Go.RowKit Go.Proofs Go.Shelf
variable {P : Program} {ρ : Ren}
theorem HpS.nil {X O : Nat → Prop} {B : Nat} {θ : Th} {w : World} : HpS P X O B θ [] w :=
  ⟨fun i o hi => by simp [look] at hi, fun i i' o1 o2 l1 l2 b hi => by simp [look] at hi, fun i o l b hi => by simp [look] at hi⟩
theorem two_strs {w : World} {N : Nat → Prop} {θ : Th} {vs : Array Value} {s t : List UInt8} (h1 : vs.size = 2) (h2 : ∀ (i : Nat) (x : T), [T.d (.str s), T.d (.str t)][i]? = some x → RepT w N θ (vs.getD i undef) x) : vs = #[.string ⟨s.toArray⟩, .string ⟨t.toArray⟩] := by
  have ha := h2 0 _ rfl
  have hb := h2 1 _ rfl
  match vs, h1 with
  | ⟨[v, u]⟩, _ =>
    cases ha with
    | d ha =>
      cases hb with
      | d hb => simp at ha hb; cases ha; cases hb; rfl
theorem CallWP.cut (L : Lays.n145 P ρ) (hg : P.globalNamed "internal/bytealg.MaxLen" = some (ρ.g 1)) (f : Nat) (hf : f = ρ.f 145) (s t : List UInt8) (hs : s.length < 4294967281) :
    CallWP P f [.d (.str s), .d (.str t)] [] (fun r h => r = .tup [.d (.str (Lib.cut s t).1), .d (.str (Lib.cut s t).2.1), .d (.bool (Lib.cut s t).2.2)] ∧ h = []) := by
  subst hf
  intro X O w θ vs h1 h2 h3 h4 h5 hG
  obtain rfl := two_strs h1 h2
  obtain ⟨_, _, cs, e, fr, k1, m, k2⟩ := hG ("internal/bytealg.MaxLen", fun cs => ∃ m, cs = #[.int .i64 m]) _ (by simp [Gl]) hg
  subst k2
  refine (Any.strings_Cut L ⟨s.toArray⟩ ⟨t.toArray⟩ m w (by show s.toArray.size < _; simpa using hs) (by simp [World.cell?, k1])).mono fun e w' ⟨he, n, hw⟩ => ⟨_, _, [], θ, he, ⟨rfl, rfl⟩, fun _ _ h => h, ?_, HpS.nil, ?_⟩
  · refine .tup _ _ rfl fun i x hx => ?_
    match i, hx with
    | 0, hx => cases hx; exact .d (.str _)
    | 1, hx => cases hx; exact .d (.str _)
    | 2, hx => cases hx; exact .d (.bool _)
  · subst hw
    exact ⟨rfl, rfl, rfl, Nat.le_refl _, fun _ _ _ => rfl, fun _ cs _ fr h => ⟨cs, fr, h, rfl⟩⟩
theorem CallWP.trim (L : Lays.n160 P ρ) (hv116 : ∀ w, (zeroValue (ρ.t 116)).run P w = .ok (.agg (Array.replicate 256 (.bool false))) w) (hi116 : (P.info? (ρ.t 116)).map (·.size) = some 256) (f : Nat) (hf : f = ρ.f 160) (s t : List UInt8) (hs : s.length < 4294967281) (ht : t.length < 4294967281) (ha : ∀ b ∈ t, b.toNat < 128) :
    CallWP P f [.d (.str s), .d (.str t)] [] (fun r h => r = .d (.str (Lib.trimS s t)) ∧ h = []) := by
  subst hf
  intro X O w θ vs h1 h2 h3 h4 h5 hG
  obtain rfl := two_strs h1 h2
  refine (Any.strings_Trim_ascii L hv116 hi116 ⟨s.toArray⟩ ⟨t.toArray⟩ w (by show s.toArray.size ≤ _; simp; omega) (by show t.toArray.size < _; simpa using ht) (fun j b hb => ha b (List.mem_of_getElem? (by simpa using hb)))).mono fun e w' ⟨he, hw⟩ => ⟨_, _, [], θ, he, ⟨rfl, rfl⟩, fun _ _ h => h, .d (.str _), HpS.nil, ?_⟩
  exact ⟨hw.os, hw.tape, hw.output, hw.size, fun b hb _ => hw.block b hb, fun b cs e fr h => ⟨cs, fr, by
    have hlt : b < w.heap.size := by
      rcases Nat.lt_or_ge b w.heap.size with h4 | h4
      · exact h4
      · rw [Array.getElem?_eq_none h4] at h; cases h
    rw [hw.block b hlt]; exact h, rfl⟩⟩
end Go.VL
