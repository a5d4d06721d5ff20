/- Names: by bytes and by letters. -/
import Derived.Test.YtpdieheihbdogaaDoorVUtf
import Derived.Lib.TrimAscii
set_option linter.unusedVariables false
set_option linter.unusedSimpArgs false
set_option linter.unusedVariables false
namespace Go.VL
open Go
def okR (n : Int) : Bool := (decide (n ≥ 97) && decide (n ≤ 122)) || (decide (n ≥ 48) && decide (n ≤ 57)) || n == 45
def okB (c : UInt8) : Bool := okR c.toNat
def smallB (c : UInt8) : Bool := decide ((c.toNat : Int) ≥ 97) && decide ((c.toNat : Int) ≤ 122)
def nameB (s : Str) : Bool := match s with
  | [] => false
  | c :: r => decide (r.length ≤ 11) && smallB c && (c :: r).all okB
theorem runes_ok : ∀ (n : Nat) (s : Str), s.length ≤ n → (runes s).all okR = s.all okB
  | 0, s, h => by
    have : s = [] := List.eq_nil_of_length_eq_zero (by omega)
    subst this; rfl
  | n + 1, [], h => rfl
  | n + 1, c :: r, h => by
    by_cases hc : c.toNat < 128
    · have hd := Lib.decodeL_ascii c r hc
      rw [runes_step (by simp), hd]
      simp only [List.drop_succ_cons, List.drop_zero, List.all_cons]
      rw [runes_ok n r (by simp at h; omega)]
      rfl
    · rw [runes_step (by simp)]
      have h1 : ¬ (Lib.decodeL (c :: r)).1 < 128 := fun hlt => by
        obtain ⟨x, hx, hy⟩ := (first_low (s := c :: r) hlt).mp ⟨rfl, by simp⟩
        simp at hx; subst hx; omega
      have h2 : okR ((Lib.decodeL (c :: r)).1 : Nat) = false := by simp [okR]; omega
      have h3 : okB c = false := by simp [okB, okR]; omega
      simp only [List.all_cons, h2, h3, Bool.false_and]
theorem runes_bad {s : Str} : (runes s).any (fun n => !okR n) = !s.all okB := by
  rw [← runes_ok _ s (Nat.le_refl _)]
  induction runes s with
  | nil => rfl
  | cons x r ih => simp [ih]
def good (j : Nat) (y : UInt8) : Bool := okB y && (decide (j ≠ 0) || smallB y)
theorem good_iff {j : Nat} {y : UInt8} : good j y = true ↔ ((97 ≤ (y.toNat : Int) ∧ (y.toNat : Int) ≤ 122) ∨ (j ≠ 0 ∧ ((48 ≤ (y.toNat : Int) ∧ (y.toNat : Int) ≤ 57) ∨ (y.toNat : Int) = 45))) := by
  simp [good, okB, okR, smallB]; omega
theorem name_bad {s : Str} {j : Nat} {y : UInt8} (h : s[j]? = some y) (hg : good j y = false) : nameB s = false := by
  cases s with
  | nil => simp at h
  | cons c r =>
    cases j with
    | zero =>
      simp at h; subst h
      simp only [nameB]
      cases h1 : smallB c with
      | false => simp
      | true =>
        have : okB c = true := by simp [smallB] at h1; simp [okB, okR]; omega
        simp [good, h1, this] at hg
    | succ j =>
      have h1 : okB y = false := by simpa [good] using hg
      have h2 : (c :: r).all okB = false := by
        rw [List.all_eq_false]; exact ⟨y, List.mem_of_getElem? h, by simp [h1]⟩
      simp [nameB, h2]
theorem name_good {s : Str} (h : ∀ (j : Nat) (y : UInt8), s[j]? = some y → good j y = true) (h1 : 1 ≤ s.length) (h12 : s.length ≤ 12) : nameB s = true := by
  cases s with
  | nil => simp at h1
  | cons c r =>
    have h0 := h 0 c rfl
    have hs : smallB c = true := by simp [good] at h0; exact h0.2
    have ha : (c :: r).all okB = true := by
      rw [List.all_eq_true]
      intro x hx
      obtain ⟨j, hj⟩ := List.getElem?_of_mem hx
      have := h j x hj
      simp [good] at this; exact this.1
    simp at h12
    simp only [nameB, hs, ha, Bool.and_true]
    exact decide_eq_true (by omega)
theorem name_long {s : Str} (h : s.length > 12) : nameB s = false := by
  cases s with
  | nil => rfl
  | cons c r =>
    simp only [nameB]
    rw [decide_eq_false (by simp at h; omega)]; rfl
end Go.VL
