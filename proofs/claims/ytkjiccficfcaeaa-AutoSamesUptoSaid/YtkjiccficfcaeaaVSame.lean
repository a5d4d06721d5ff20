/- Two machines: pairs that are met, and states that are told apart. -/
import Derived.Test.YtkjiccficfcaeaaVTy4
set_option linter.unusedVariables false
set_option linter.unusedSimpArgs false
set_option linter.unusedVariables false
namespace Go.VL
open Go
/-- A run through a machine: a letter is a number. -/
def runW {σ : Type} (d : σ → Nat → σ) : σ → List Nat → σ
  | p, [] => p
  | p, c :: w => runW d (d p c) w
theorem runW_snoc {σ : Type} (d : σ → Nat → σ) : ∀ (w : List Nat) (p : σ) (c : Nat), runW d p (w ++ [c]) = d (runW d p w) c
  | [], p, c => rfl
  | x :: w, p, c => by rw [List.cons_append, runW, runW, runW_snoc d w]
theorem runW_map {σ τ : Type} {d : σ → Nat → σ} {e : τ → Nat → τ} {f : σ → τ} (h : ∀ p c, c < 8 → e (f p) c = f (d p c)) : ∀ (w : List Nat) (p : σ), (∀ c ∈ w, c < 8) → runW e (f p) w = f (runW d p w)
  | [], p, _ => rfl
  | c :: w, p, hw => by rw [runW, runW, h p c (hw c (by simp)), runW_map h w _ (fun x hx => hw x (by simp [hx]))]
section
variable {σ τ : Type} (da : σ → Nat → σ) (db : τ → Nat → τ) (fa : σ → Bool) (fb : τ → Bool) (s : σ) (t : τ)
/-- No word tells them apart. -/
def SameW : Prop := ∀ w : List Nat, (∀ c ∈ w, c < 8) → fa (runW da s w) = fb (runW db t w)
/-- Pairs that are met: those ahead of place i, and letters ahead of n of the one there, lead to pairs of the list. -/
structure Met (all : List (σ × τ)) (i n : Nat) : Prop where
  first : (s, t) ∈ all
  reach : ∀ p ∈ all, ∃ w : List Nat, (∀ c ∈ w, c < 8) ∧ p = (runW da s w, runW db t w)
  done : ∀ (j : Nat) (p : σ × τ), j < i → all[j]? = some p → ∀ c, c < 8 → (da p.1 c, db p.2 c) ∈ all
  part : ∀ (p : σ × τ), all[i]? = some p → ∀ c, c < n → (da p.1 c, db p.2 c) ∈ all
variable {da db s t}
theorem Met.start : Met da db s t [(s, t)] 0 0 :=
  ⟨by simp, fun p hp => ⟨[], by simp, by simpa [runW] using hp⟩, fun j p h => absurd h (by omega), fun p _ c h => absurd h (by omega)⟩
theorem Met.known {all : List (σ × τ)} {i n : Nat} {p : σ × τ} (h : Met da db s t all i n) (hp : all[i]? = some p) (hk : (da p.1 n, db p.2 n) ∈ all) : Met da db s t all i (n + 1) :=
  ⟨h.first, h.reach, h.done, fun q hq c hc => by
    rw [hp] at hq; cases hq
    by_cases hcn : c = n
    · rw [hcn]; exact hk
    · exact h.part p hp c (by omega)⟩
theorem Met.more {all : List (σ × τ)} {i n : Nat} {p : σ × τ} (h : Met da db s t all i n) (hp : all[i]? = some p) (hn : n < 8) : Met da db s t (all ++ [(da p.1 n, db p.2 n)]) i (n + 1) := by
  have hi := (List.getElem?_eq_some_iff.1 hp).1
  refine ⟨by simp [h.first], fun q hq => ?_, fun j q hj hq c hc => ?_, fun q hq c hc => ?_⟩
  · rcases List.mem_append.1 hq with hq | hq
    · exact h.reach q hq
    · simp at hq; subst hq
      obtain ⟨w, hw, e⟩ := h.reach p (List.mem_of_getElem? hp)
      refine ⟨w ++ [n], fun c hc => ?_, ?_⟩
      · rcases List.mem_append.1 hc with hc | hc
        · exact hw c hc
        · simp at hc; subst hc; exact hn
      · rw [runW_snoc, runW_snoc, e]
  · rw [List.getElem?_append_left (by omega)] at hq
    exact List.mem_append_left _ (h.done j q hj hq c hc)
  · rw [List.getElem?_append_left hi, hp] at hq
    cases hq
    by_cases hcn : c = n
    · rw [hcn]; simp
    · exact List.mem_append_left _ (h.part p hp c (by omega))
theorem Met.next {all : List (σ × τ)} {i : Nat} (h : Met da db s t all i 8) : Met da db s t all (i + 1) 0 :=
  ⟨h.first, h.reach, fun j p hj hp c hc => by
    by_cases hji : j = i
    · subst hji; exact h.part p hp c hc
    · exact h.done j p (by omega) hp c hc, fun p _ c hc => absurd hc (by omega)⟩
theorem Met.all_in {all : List (σ × τ)} {i : Nat} (h : Met da db s t all i 0) (hi : all.length ≤ i) : ∀ (w : List Nat), (∀ c ∈ w, c < 8) → (runW da s w, runW db t w) ∈ all := by
  have key : ∀ (n : Nat) (w : List Nat), w.length = n → (∀ c ∈ w, c < 8) → (runW da s w, runW db t w) ∈ all := by
    intro n
    induction n with
    | zero => intro w hn _; rw [List.length_eq_zero_iff.1 hn]; exact h.first
    | succ n ih =>
      intro w hn hw
      rcases List.eq_nil_or_concat w with rfl | ⟨v, c, rfl⟩
      · simp at hn
      · rw [List.concat_eq_append] at hn hw ⊢
        simp at hn
        have := ih v hn (fun x hx => hw x (by simp [hx]))
        obtain ⟨j, hj⟩ := List.getElem?_of_mem this
        rw [runW_snoc, runW_snoc]
        exact h.done j _ (by have := (List.getElem?_eq_some_iff.1 hj).1; omega) hj c (hw c (by simp))
  exact fun w hw => key w.length w rfl hw
/-- Where all are known: alike just where no pair that is met is told apart. -/
theorem Met.same {all : List (σ × τ)} {i : Nat} (h : Met da db s t all i 0) (hi : all.length ≤ i) : SameW da db fa fb s t ↔ ∀ p ∈ all, fa p.1 = fb p.2 := by
  constructor
  · intro hs p hp
    obtain ⟨w, hw, e⟩ := h.reach p hp
    rw [e]; exact hs w hw
  · intro ha w hw
    exact ha _ (h.all_in hi w hw)
end
/-- A table of states that are told apart. -/
structure Apart (N : Nat) (d : Nat → Nat → Nat) (f : Nat → Bool) (T : Nat → Nat → Bool) : Prop where
  base : ∀ i k, i < N → k < N → f i ≠ f k → T i k = true
  sound : ∀ i k, i < N → k < N → T i k = true → ∃ w : List Nat, (∀ c ∈ w, c < 8) ∧ f (runW d i w) ≠ f (runW d k w)
theorem Apart.set {N : Nat} {d : Nat → Nat → Nat} {f : Nat → Bool} {T : Nat → Nat → Bool} (h : Apart N d f T) (hd : ∀ i c, i < N → c < 8 → d i c < N) {i k c : Nat} (hi : i < N) (hk : k < N) (hc : c < 8) (ht : T (d i c) (d k c) = true) :
    Apart N d f (fun x y => if x = i ∧ y = k then true else T x y) :=
  ⟨fun x y hx hy hf => by
    split
    · rfl
    · exact h.base x y hx hy hf, fun x y hx hy hT => by
    split at hT
    · rename_i e
      obtain ⟨rfl, rfl⟩ := e
      obtain ⟨w, hw, hne⟩ := h.sound _ _ (hd _ _ hx hc) (hd _ _ hy hc) ht
      exact ⟨c :: w, fun z hz => by rcases List.mem_cons.1 hz with rfl | hz; exact hc; exact hw z hz, hne⟩
    · exact h.sound x y hx hy hT⟩
theorem Apart.whole {N : Nat} {d : Nat → Nat → Nat} {f : Nat → Bool} {T : Nat → Nat → Bool} (h : Apart N d f T) (hd : ∀ i c, i < N → c < 8 → d i c < N) (hcl : ∀ i k c, i < N → k < N → c < 8 → T (d i c) (d k c) = true → T i k = true) :
    ∀ (w : List Nat), (∀ c ∈ w, c < 8) → ∀ i k, i < N → k < N → f (runW d i w) ≠ f (runW d k w) → T i k = true
  | [], _, i, k, hi, hk, hf => h.base i k hi hk hf
  | c :: w, hw, i, k, hi, hk, hf => hcl i k c hi hk (hw c (by simp)) (Apart.whole h hd hcl w (fun x hx => hw x (by simp [hx])) _ _ (hd _ _ hi (hw c (by simp))) (hd _ _ hk (hw c (by simp))) hf)
/-- Where nothing more is marked: alike just where the two are not marked. -/
theorem Apart.same {N : Nat} {d : Nat → Nat → Nat} {f : Nat → Bool} {T : Nat → Nat → Bool} (h : Apart N d f T) (hd : ∀ i c, i < N → c < 8 → d i c < N) (hcl : ∀ i k c, i < N → k < N → c < 8 → T (d i c) (d k c) = true → T i k = true) {i k : Nat} (hi : i < N) (hk : k < N) :
    T i k = false ↔ SameW d d f f i k := by
  constructor
  · intro hT w hw
    cases hne : decide (f (runW d i w) = f (runW d k w)) with
    | true => simpa using hne
    | false =>
      have := h.whole hd hcl w hw i k hi hk (by simpa using hne)
      rw [hT] at this; cases this
  · intro hs
    cases hT : T i k with
    | false => rfl
    | true =>
      obtain ⟨w, hw, hne⟩ := h.sound i k hi hk hT
      exact absurd (hs w hw) hne
end Go.VL
