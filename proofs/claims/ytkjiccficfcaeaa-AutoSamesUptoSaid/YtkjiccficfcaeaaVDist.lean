/- A table of states that are told apart, pass by pass. -/
import Derived.Test.YtkjiccficfcaeaaVSame
set_option linter.unusedVariables false
set_option linter.unusedSimpArgs false
set_option linter.unusedVariables false
namespace Go.VL
theorem countP_less {α : Type} {p q : α → Bool} : ∀ {l : List α}, (∀ x ∈ l, q x = true → p x = true) → ∀ {x : α}, x ∈ l → p x = true → q x = false → l.countP q < l.countP p
  | [], _, x, hx, _, _ => by cases hx
  | y :: l, h, x, hx, hp, hq => by
    have hle : l.countP q ≤ l.countP p := List.countP_mono_left (fun z hz => h z (by simp [hz]))
    rw [List.countP_cons, List.countP_cons]
    rcases List.mem_cons.1 hx with rfl | hx
    · rw [hp, hq]; simp; omega
    · have := countP_less (fun z hz => h z (by simp [hz])) hx hp hq
      have hy : (if q y = true then 1 else 0) ≤ (if p y = true then 1 else 0) := by
        by_cases e : q y = true
        · rw [if_pos e, if_pos (h y (by simp) e)]; exact Nat.le_refl _
        · rw [if_neg e]; exact Nat.zero_le _
      omega
def prsN (n : Nat) : List (Nat × Nat) := (List.range n).flatMap fun i => (List.range n).map fun k => (i, k)
theorem mem_prsN {n i k : Nat} (hi : i < n) (hk : k < n) : (i, k) ∈ prsN n := by
  simp [prsN, hi, hk]
/-- How many places are not marked. -/
def unm (n : Nat) (T : Nat → Nat → Bool) : Nat := (prsN n).countP fun p => !T p.1 p.2
theorem unm_less {n i k : Nat} {T : Nat → Nat → Bool} (hi : i < n) (hk : k < n) (hT : T i k = false) : unm n (fun x y => if x = i ∧ y = k then true else T x y) < unm n T := by
  refine countP_less (fun x hx h => ?_) (mem_prsN hi hk) (by simp [hT]) (by simp)
  by_cases e : x.1 = i ∧ x.2 = k
  · simp [e] at h
  · simpa [e] using h
/-- Where a pass stands. -/
structure Ps (n : Nat) (d : Nat → Nat → Nat) (f : Nat → Bool) (u i k c : Nat) (more : Bool) (T : Nat → Nat → Bool) : Prop where
  ap : Apart n d f T
  le : unm n T ≤ u
  lt : more = true → unm n T < u
  cl : more = false → unm n T = u ∧ ∀ i' k', i' < n → k' < n → (i' < i ∨ (i' = i ∧ k' < k)) → ∀ c', c' < 8 → T (d i' c') (d k' c') = true → T i' k' = true
  pt : more = false → ∀ c', c' < c → T (d i c') (d k c') = true → T i k = true
variable {n : Nat} {d : Nat → Nat → Nat} {f : Nat → Bool} {u i k c : Nat} {more : Bool} {T : Nat → Nat → Bool}
theorem Ps.start (h : Apart n d f T) : Ps n d f (unm n T) 0 0 0 false T :=
  ⟨h, Nat.le_refl _, fun e => (by cases e), fun _ => ⟨rfl, fun i' k' _ _ h => by omega⟩, fun _ c' h => absurd h (by omega)⟩
theorem Ps.step (h : Ps n d f u i k c more T) (ht : T (d i c) (d k c) = false) : Ps n d f u i k (c + 1) more T :=
  ⟨h.ap, h.le, h.lt, h.cl, fun e c' hc hT => by
    by_cases ec : c' = c
    · subst ec; rw [ht] at hT; cases hT
    · exact h.pt e c' (by omega) hT⟩
theorem Ps.mark (h : Ps n d f u i k c more T) (hd : ∀ i c, i < n → c < 8 → d i c < n) (hi : i < n) (hk : k < n) (hc : c < 8) (ht : T (d i c) (d k c) = true) (hT : T i k = false) :
    Ps n d f u i k (c + 1) true (fun x y => if x = i ∧ y = k then true else T x y) := by
  have hl := unm_less hi hk hT
  have := h.le
  exact ⟨h.ap.set hd hi hk hc ht, by omega, fun _ => by omega, fun e => (by cases e), fun e => (by cases e)⟩
theorem Ps.nextK (h : Ps n d f u i k c more T) (hc : 8 ≤ c ∨ T i k = true) : Ps n d f u i (k + 1) 0 more T :=
  ⟨h.ap, h.le, h.lt, fun e => ⟨(h.cl e).1, fun i' k' hi hk hlt c' hc' hT => by
    by_cases ek : i' = i ∧ k' = k
    · obtain ⟨rfl, rfl⟩ := ek
      rcases hc with hc | hc
      · exact h.pt e c' (by omega) hT
      · exact hc
    · exact (h.cl e).2 i' k' hi hk (by omega) c' hc' hT⟩, fun _ c' h => absurd h (by omega)⟩
theorem Ps.nextI (h : Ps n d f u i n 0 more T) : Ps n d f u (i + 1) 0 0 more T :=
  ⟨h.ap, h.le, h.lt, fun e => ⟨(h.cl e).1, fun i' k' hi hk hlt c' hc' hT => (h.cl e).2 i' k' hi hk (by omega) c' hc' hT⟩, fun _ c' h => absurd h (by omega)⟩
theorem Ps.done (h : Ps n d f u n k 0 false T) : ∀ i k c, i < n → k < n → c < 8 → T (d i c) (d k c) = true → T i k = true :=
  fun i k c hi hk hc hT => (h.cl rfl).2 i k hi hk (by omega) c hc hT
/-- The first table. -/
theorem Apart.first : Apart n d f (fun i k => f i != f k) :=
  ⟨fun i k _ _ h => by simpa using h, fun i k _ _ h => ⟨[], by simp, by simpa [runW] using h⟩⟩
theorem Apart.congr {T' : Nat → Nat → Bool} (h : Apart n d f T) (e : ∀ i k, i < n → k < n → T' i k = T i k) : Apart n d f T' :=
  ⟨fun i k hi hk hf => by rw [e i k hi hk]; exact h.base i k hi hk hf, fun i k hi hk hT => h.sound i k hi hk (by rw [← e i k hi hk]; exact hT)⟩
end Go.VL
