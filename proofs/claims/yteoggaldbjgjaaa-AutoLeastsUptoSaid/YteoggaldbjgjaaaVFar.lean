/- How far each state is from an end. -/
import Derived.Test.YteoggaldbjgjaaaVLeast
set_option linter.unusedVariables false
set_option linter.unusedSimpArgs false
namespace Go.VL
open Go
variable (l : List (List Int)) (b : List Bool)
/-- Does a word of at most so many letters lead to an end? -/
def Wd : Nat → Nat → Bool
  | 0, s => b.getD s false
  | k + 1, s => b.getD s false || (l.getD s []).any fun to => decide (0 ≤ to) && Wd k to.toNat
def aw (n : Nat) (s : Nat) : Nat := match (List.range (n + 1)).find? (fun j => Wd l b j s) with | some j => j | none => 1000
variable {l b}
theorem Wd_succ {k s : Nat} (h : Wd l b k s = true) : Wd l b (k + 1) s = true := by
  induction k generalizing s with
  | zero => simp only [Wd] at h ⊢; rw [h]; simp
  | succ k ih =>
    rw [Wd] at h ⊢
    rw [Bool.or_eq_true] at h ⊢
    rcases h with h | h
    · exact .inl h
    · refine .inr ?_
      rw [List.any_eq_true] at h ⊢
      obtain ⟨to, h1, h2⟩ := h
      simp only [Bool.and_eq_true, decide_eq_true_eq] at h2
      exact ⟨to, h1, by simp only [Bool.and_eq_true, decide_eq_true_eq]; exact ⟨h2.1, ih h2.2⟩⟩
theorem Wd_mono {k m s : Nat} (hk : k ≤ m) (h : Wd l b k s = true) : Wd l b m s = true := by
  induction m with
  | zero => obtain rfl : k = 0 := by omega
            exact h
  | succ m ih =>
    by_cases e : k = m + 1
    · subst e; exact h
    · exact Wd_succ (ih (by omega))
theorem Wd_step {k s : Nat} : Wd l b (k + 1) s = true ↔ (b.getD s false = true ∨ ∃ to ∈ l.getD s [], 0 ≤ to ∧ Wd l b k to.toNat = true) := by
  rw [Wd, Bool.or_eq_true, List.any_eq_true]
  simp only [Bool.and_eq_true, decide_eq_true_eq]
/-- Where nothing is added by one letter more, nothing is added ever. -/
theorem Wd_still {k : Nat} (hr : ∀ s, s < l.length → ∀ to ∈ l.getD s [], to < (l.length : Int)) (h : ∀ s, s < l.length → Wd l b (k + 1) s = Wd l b k s) : ∀ (m s : Nat), s < l.length → Wd l b m s = true → Wd l b k s = true
  | 0, s, hs, hw => Wd_mono (Nat.zero_le _) hw
  | m + 1, s, hs, hw => by
    rw [← h s hs]
    rw [Wd_step] at hw ⊢
    rcases hw with hw | ⟨to, h1, h2, h3⟩
    · exact .inl hw
    · exact .inr ⟨to, h1, h2, Wd_still hr h m to.toNat (by have := hr s hs to h1; omega) h3⟩
def cntW (l : List (List Int)) (b : List Bool) (k : Nat) : Nat := (List.range l.length).countP fun s => Wd l b k s
theorem cnt_le {p q : Nat → Bool} : ∀ (r : List Nat), (∀ s ∈ r, p s = true → q s = true) → r.countP p ≤ r.countP q
  | [], _ => by simp
  | x :: r, h => by
    have h1 := cnt_le r fun s hs => h s (by simp [hs])
    have h2 := h x (by simp)
    cases hp : p x <;> cases hq : q x <;> simp [List.countP_cons, hp, hq] at h2 ⊢ <;> omega
theorem cnt_eq {p q : Nat → Bool} : ∀ (r : List Nat), (∀ s ∈ r, p s = true → q s = true) → r.countP p = r.countP q → ∀ s ∈ r, q s = p s
  | [], _, _, s, hs => by simp at hs
  | x :: r, h, e, s, hs => by
    have h1 := cnt_le r fun s hs => h s (by simp [hs])
    have h2 := h x (by simp)
    have e2 : r.countP p = r.countP q ∧ q x = p x := by
      cases hp : p x <;> cases hq : q x <;> simp [List.countP_cons, hp, hq] at h2 e ⊢ <;> omega
    rcases List.mem_cons.mp hs with rfl | hs
    · exact e2.2
    · exact cnt_eq r (fun s hs => h s (by simp [hs])) e2.1 s hs
theorem cnt_all {p : Nat → Bool} : ∀ (r : List Nat), r.length ≤ r.countP p → ∀ s ∈ r, p s = true
  | [], _, s, hs => by simp at hs
  | x :: r, h, s, hs => by
    have := List.countP_le_length (p := p) (l := r)
    cases hp : p x
    · simp [List.countP_cons, hp] at h; omega
    · rcases List.mem_cons.mp hs with rfl | hs
      · exact hp
      · exact cnt_all r (by simp [List.countP_cons, hp] at h; omega) s hs
theorem Wd_grow (hr : ∀ s, s < l.length → ∀ to ∈ l.getD s [], to < (l.length : Int)) : ∀ k, (∃ j, j ≤ k ∧ ∀ m s, s < l.length → Wd l b m s = true → Wd l b j s = true) ∨ k ≤ cntW l b k
  | 0 => .inr (Nat.zero_le _)
  | k + 1 => by
    rcases Wd_grow hr k with ⟨j, h1, h2⟩ | h
    · exact .inl ⟨j, by omega, h2⟩
    · by_cases e : cntW l b k = cntW l b (k + 1)
      · refine .inl ⟨k, by omega, Wd_still hr fun s hs => ?_⟩
        exact cnt_eq _ (fun s _ hw => Wd_succ hw) e s (List.mem_range.mpr hs)
      · refine .inr ?_
        have := cnt_le (p := fun s => Wd l b k s) (q := fun s => Wd l b (k + 1) s) (List.range l.length) fun s _ hw => Wd_succ hw
        unfold cntW at h e ⊢
        omega
theorem Wd_all (hr : ∀ s, s < l.length → ∀ to ∈ l.getD s [], to < (l.length : Int)) {m s : Nat} (hs : s < l.length) (h : Wd l b m s = true) : Wd l b l.length s = true := by
  rcases Wd_grow (b := b) hr l.length with ⟨j, h1, h2⟩ | h1
  · exact Wd_mono h1 (h2 m s hs h)
  · exact cnt_all (List.range l.length) (by simpa [cntW] using h1) s (List.mem_range.mpr hs)
theorem aw_some {n s : Nat} (h : Wd l b n s = true) : aw l b n s ≤ n ∧ Wd l b (aw l b n s) s = true ∧ ∀ j, Wd l b j s = true → aw l b n s ≤ j := by
  unfold aw
  cases hf : (List.range (n + 1)).find? (fun j => Wd l b j s) with
  | none =>
    rw [List.find?_eq_none] at hf
    exact absurd h (hf n (by simp))
  | some j =>
    simp only
    have h1 := List.find?_some hf
    have h2 := List.mem_of_find?_eq_some hf
    refine ⟨by simp at h2; omega, h1, fun i hi => ?_⟩
    rw [List.find?_range_eq_some] at hf
    by_cases hij : i < j
    · have := hf.2.2 i hij
      simp [hi] at this
    · omega
theorem aw_none {n s : Nat} (h : Wd l b n s = false) : aw l b n s = 1000 := by
  unfold aw
  cases hf : (List.range (n + 1)).find? (fun j => Wd l b j s) with
  | none => rfl
  | some j =>
    have h1 := List.find?_some hf
    have h2 := List.mem_of_find?_eq_some hf
    simp at h2
    have := Wd_mono (show j ≤ n by omega) h1
    rw [h] at this; cases this
theorem dist_aw (hr : ∀ s, s < l.length → ∀ to ∈ l.getD s [], to < (l.length : Int)) (hn : l.length ≤ 40) : Dist l b (aw l b l.length) := by
  have hin : ∀ s, s < l.length → ∀ to ∈ l.getD s [], 0 ≤ to → to.toNat < l.length := fun s hs to ht h0 => by have := hr s hs to ht; omega
  refine ⟨hr, fun s hs => ⟨fun h => ?_, fun h => ?_⟩, fun s hs to ht h0 => ?_, fun s hs h1 h2 => ?_, fun s hs h => ?_⟩
  · by_cases hw : Wd l b l.length s = true
    · have := (aw_some hw).2.1
      rw [h, Wd] at this; exact this
    · rw [aw_none (by simpa using hw)] at h; omega
  · have h0 : Wd l b 0 s = true := by rw [Wd]; exact h
    have := (aw_some (Wd_mono (Nat.zero_le l.length) h0)).2.2 0 h0
    omega
  · have hti := hin s hs to ht h0
    by_cases hw : Wd l b l.length to.toNat = true
    · obtain ⟨h1, h2, _⟩ := aw_some hw
      have h3 : Wd l b (aw l b l.length to.toNat + 1) s = true := Wd_step.mpr (.inr ⟨to, ht, h0, h2⟩)
      exact (aw_some (Wd_all hr hs h3)).2.2 _ h3
    · rw [aw_none (s := to.toNat) (by simpa using hw)]
      by_cases hv : Wd l b l.length s = true
      · have := (aw_some hv).1; omega
      · rw [aw_none (s := s) (by simpa using hv)]; omega
  · by_cases hw : Wd l b l.length s = true
    · obtain ⟨g1, g2, g3⟩ := aw_some hw
      obtain ⟨k, hk⟩ : ∃ k, aw l b l.length s = k + 1 := ⟨aw l b l.length s - 1, by omega⟩
      rw [hk] at g2
      rcases Wd_step.mp g2 with h | ⟨to, t1, t2, t3⟩
      · have h0 : Wd l b 0 s = true := by rw [Wd]; exact h
        have := g3 0 h0; omega
      · refine ⟨to, t1, t2, ?_⟩
        have hti := hin s hs to t1 t2
        have e1 := (aw_some (Wd_all hr hti t3)).2.2 _ t3
        have e2 := (aw_some (Wd_all hr hti t3)).2.1
        have e3 := g3 _ (Wd_step.mpr (.inr ⟨to, t1, t2, e2⟩))
        omega
    · rw [aw_none (by simpa using hw)] at h2; omega
  · by_cases hw : Wd l b l.length s = true
    · have := (aw_some hw).1; omega
    · rw [aw_none (by simpa using hw)] at h; omega
/-- Numbers of states, as a row. -/
def arr (n : Nat) (v : Nat → Nat) : List Int := (List.range n).map fun s => (v s : Int)
def updV (v : Nat → Nat) (i x : Nat) (s : Nat) : Nat := if s = i then x else v s
theorem arr_len (n : Nat) (v : Nat → Nat) : (arr n v).length = n := by simp [arr]
theorem arr_get {n : Nat} {v : Nat → Nat} {i : Nat} (h : i < n) : (arr n v)[i]? = some (v i : Int) := by simp [arr, h]
theorem arr_set {n : Nat} {v : Nat → Nat} {i x : Nat} : (arr n v).set i (x : Int) = arr n (updV v i x) := by
  apply List.ext_getElem?
  intro j
  rw [List.getElem?_set]
  by_cases hj : j < n
  · by_cases e : i = j
    · subst e; simp [arr, hj, updV]
    · have e' : ¬ j = i := fun q => e q.symm
      simp [arr, hj, updV, e, e']
  · by_cases e : i = j
    · subst e; simp [arr, hj]
    · simp [arr, hj, e]
theorem arr_eq {n : Nat} {v u : Nat → Nat} (h : ∀ s, s < n → v s = u s) : arr n v = arr n u := by
  unfold arr
  exact List.map_congr_left fun s hs => by rw [h s (List.mem_range.mp hs)]
structure Lo (l : List (List Int)) (b : List Bool) (v : Nat → Nat) : Prop where
  le : ∀ s, v s ≤ 1000
  wd : ∀ s, s < l.length → v s < 1000 → Wd l b (v s) s = true
def Up (l : List (List Int)) (b : List Bool) (k : Nat) (s : Nat) (v : Nat → Nat) : Prop := ∀ j, j ≤ k → Wd l b j s = true → v s ≤ j
def v0 (b : List Bool) (s : Nat) : Nat := if b.getD s false then 0 else 1000
theorem lo_v0 (l : List (List Int)) (b : List Bool) : Lo l b (v0 b) := by
  refine ⟨fun s => by unfold v0; split <;> omega, fun s _ h => ?_⟩
  unfold v0 at h ⊢
  split at h
  · rename_i hb; rw [if_pos hb, Wd]; exact hb
  · omega
theorem up_v0 (l : List (List Int)) (b : List Bool) (s : Nat) : Up l b 0 s (v0 b) := fun j hj hw => by
  obtain rfl : j = 0 := by omega
  rw [Wd] at hw
  unfold v0; rw [if_pos hw]; omega
theorem updV_le {v : Nat → Nat} {i x : Nat} (h : x ≤ v i) (s : Nat) : updV v i x s ≤ v s := by
  unfold updV; split
  · rename_i e; rw [e]; exact h
  · omega
theorem Up.mono {k s : Nat} {v u : Nat → Nat} (h : Up l b k s v) (hu : u s ≤ v s) : Up l b k s u := fun j hj hw => Nat.le_trans hu (h j hj hw)
theorem Lo.relax {v : Nat → Nat} (h : Lo l b v) {i : Nat} {to : Int} (ht : to ∈ l.getD i []) (h0 : 0 ≤ to) (hti : to.toNat < l.length) : Lo l b (updV v i (min (v i) (v to.toNat + 1))) := by
  refine ⟨fun s => ?_, fun s hs hv => ?_⟩
  · unfold updV; split
    · rename_i e; have := h.le i; omega
    · exact h.le s
  · unfold updV at hv ⊢
    split at hv
    · rename_i e
      subst e
      rw [if_pos rfl]
      by_cases hle : v s ≤ v to.toNat + 1
      · rw [Nat.min_eq_left hle] at hv ⊢; exact h.wd s hs hv
      · rw [Nat.min_eq_right (by omega)] at hv ⊢
        exact Wd_step.mpr (.inr ⟨to, ht, h0, h.wd _ hti (by omega)⟩)
    · rename_i e; rw [if_neg e]; exact h.wd s hs hv
/-- Of the edges of a row that are done: what they say. -/
def Ed (l : List (List Int)) (b : List Bool) (k i : Nat) (r : List Int) (v : Nat → Nat) : Prop := ∀ to ∈ r, 0 ≤ to → ∀ j, j ≤ k → Wd l b j to.toNat = true → v i ≤ j + 1
theorem Ed.done {k i : Nat} {v : Nat → Nat} (h : Ed l b k i (l.getD i []) v) (hu : Up l b k i v) : Up l b (k + 1) i v := fun j hj hw => by
  cases j with
  | zero => exact hu 0 (by omega) hw
  | succ j =>
    rcases Wd_step.mp hw with h1 | ⟨to, t1, t2, t3⟩
    · have := hu 0 (by omega) (by rw [Wd]; exact h1); omega
    · exact h to t1 t2 j (by omega) t3
theorem aw_of {v : Nat → Nat} (hr : ∀ s, s < l.length → ∀ to ∈ l.getD s [], to < (l.length : Int)) (hn : l.length ≤ 40) (hlo : Lo l b v) (hup : ∀ s, s < l.length → Up l b l.length s v) : ∀ s, s < l.length → v s = aw l b l.length s := fun s hs => by
  have hle := hlo.le s
  by_cases hw : Wd l b l.length s = true
  · obtain ⟨h1, h2, h3⟩ := aw_some hw
    have h4 := hup s hs _ h1 h2
    have h5 := h3 _ (hlo.wd s hs (by omega))
    omega
  · rw [aw_none (by simpa using hw)]
    by_cases hv : v s < 1000
    · exact absurd (Wd_all hr hs (hlo.wd s hs hv)) hw
    · omega
end Go.VL
