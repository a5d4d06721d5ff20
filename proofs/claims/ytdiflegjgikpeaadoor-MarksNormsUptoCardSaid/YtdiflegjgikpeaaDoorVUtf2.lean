/- A text's letters, one after another; cleaned. -/
import Derived.Test.YtdiflegjgikpeaaDoorVUtf
import Derived.Lib.RuneCountTail
set_option linter.unusedVariables false
set_option linter.unusedSimpArgs false
set_option linter.unusedVariables false
namespace Go.VL
open Go
def runesN : Nat → Str → List Int
  | 0, _ => []
  | n + 1, s => if s = [] then [] else (((Lib.decodeL s).1 : Nat) : Int) :: runesN n (s.drop (Lib.decodeL s).2)
def runes (s : Str) : List Int := runesN s.length s
theorem runesN_fuel : ∀ (n m : Nat) (s : Str), s.length ≤ n → s.length ≤ m → runesN n s = runesN m s
  | 0, m, s, hn, _ => by
    have : s = [] := List.eq_nil_of_length_eq_zero (by omega)
    subst this
    cases m <;> simp [runesN]
  | n + 1, 0, s, _, hm => by
    have : s = [] := List.eq_nil_of_length_eq_zero (by omega)
    subst this
    simp [runesN]
  | n + 1, m + 1, s, hn, hm => by
    by_cases hne : s = []
    · simp [runesN, hne]
    · have hw := Lib.decodeL_width s
      have hl : 0 < s.length := List.length_pos_iff.2 hne
      simp only [runesN, if_neg hne]
      rw [runesN_fuel n m _ (by rw [List.length_drop]; omega) (by rw [List.length_drop]; omega)]
theorem runes_step {s : Str} (hne : s ≠ []) : runes s = (((Lib.decodeL s).1 : Nat) : Int) :: runes (s.drop (Lib.decodeL s).2) := by
  have hw := Lib.decodeL_width s
  have hl : 0 < s.length := List.length_pos_iff.2 hne
  unfold runes
  obtain ⟨n, hn⟩ : ∃ n, s.length = n + 1 := ⟨s.length - 1, by omega⟩
  rw [hn]
  simp only [runesN, if_neg hne]
  rw [runesN_fuel n _ _ (by rw [List.length_drop]; omega) (Nat.le_refl _)]
theorem runes_nil : runes [] = [] := rfl
theorem runesN_len : ∀ (n : Nat) (s : Str), (runesN n s).length ≤ n
  | 0, s => by simp [runesN]
  | n + 1, s => by
    have := runesN_len n (s.drop (Lib.decodeL s).2)
    simp only [runesN]
    split
    · simp
    · simp only [List.length_cons]; omega
theorem runes_len (s : Str) : (runes s).length ≤ s.length := runesN_len _ _
theorem decodeL_letter (s : Str) : letP ((Lib.decodeL s).1 : Nat) := by
  rw [Lib.decodeL_N]
  have k0 := (s.getD 0 0).toNat_lt
  have k1 := (s.getD 1 0).toNat_lt
  have k2 := (s.getD 2 0).toNat_lt
  have k3 := (s.getD 3 0).toNat_lt
  unfold letP
  rcases Lib.decodeN_shape s.length (s.getD 0 0).toNat (s.getD 1 0).toNat (s.getD 2 0).toNat (s.getD 3 0).toNat with ⟨c, e⟩ | ⟨c1, c2, c3, cv, e⟩ | ⟨c1, c2, c3, c4, cv, cs, e⟩ | ⟨c1, c2, c3, c4, c5, cv, cw, e⟩ | e
  all_goals (rw [e]; simp only; omega)
theorem runesN_letter : ∀ (n : Nat) (s : Str), ∀ x ∈ runesN n s, letP x
  | 0, s, x, h => by simp [runesN] at h
  | n + 1, s, x, h => by
    simp only [runesN] at h
    split at h
    · simp at h
    · rcases List.mem_cons.mp h with rfl | h
      · exact decodeL_letter s
      · exact runesN_letter n _ x h
theorem runes_letter {s : Str} {x : Int} (h : x ∈ runes s) : letP x := runesN_letter _ _ x h
/-- The rune at a place, and its width. -/
theorem decode_drop (s : Str) (pos : Nat) : Utf8.decode ⟨s.toArray⟩ pos = Lib.decodeL (s.drop pos) := by
  rw [Lib.decode_N, Lib.decodeL_N]
  simp [List.getD_eq_getElem?_getD, List.getElem?_drop]
theorem runes_at {s : Str} {pos : Nat} (h : pos < s.length) : runes (s.drop pos) = (((Lib.decodeL (s.drop pos)).1 : Nat) : Int) :: runes (s.drop (pos + (Lib.decodeL (s.drop pos)).2)) := by
  rw [runes_step (by intro h0; have := congrArg List.length h0; simp at this; omega), List.drop_drop]
theorem width_at {s : Str} {pos : Nat} (h : pos < s.length) : 1 ≤ (Lib.decodeL (s.drop pos)).2 ∧ pos + (Lib.decodeL (s.drop pos)).2 ≤ s.length := by
  have h1 := Lib.decodeL_width (s.drop pos)
  have h2 := Lib.decodeL_le (s.drop pos) (by intro h0; have := congrArg List.length h0; simp at this; omega)
  rw [List.length_drop] at h2
  exact ⟨by omega, by omega⟩
/-- The first letter is a low one exactly if the first byte is that. -/
theorem first_low {s : Str} {c : Nat} (hc : c < 128) : (Lib.decodeL s).1 = c ∧ s ≠ [] ↔ ∃ x, s[0]? = some x ∧ x.toNat = c := by
  rw [Lib.decodeL_N]
  have k0 := (s.getD 0 0).toNat_lt
  have hd : s ≠ [] ↔ ∃ x, s[0]? = some x ∧ x = s.getD 0 0 := by
    cases s <;> simp
  rw [hd]
  constructor
  · rintro ⟨h, x, hx, e⟩
    refine ⟨x, hx, ?_⟩
    subst e
    rcases Lib.decodeN_shape s.length (s.getD 0 0).toNat (s.getD 1 0).toNat (s.getD 2 0).toNat (s.getD 3 0).toNat with ⟨c, e⟩ | ⟨c1, c2, c3, cv, e⟩ | ⟨c1, c2, c3, c4, cv, cs, e⟩ | ⟨c1, c2, c3, c4, c5, cv, cw, e⟩ | e
    all_goals (rw [e] at h; simp only at h; omega)
  · rintro ⟨x, hx, e⟩
    have e2 : x = s.getD 0 0 := by simp [List.getD_eq_getElem?_getD, hx]
    refine ⟨?_, x, hx, e2⟩
    rw [← e2, e]
    unfold Lib.decodeN
    rw [if_pos hc]
def cl : List Int → List Int
  | [] => []
  | n :: r => if n = 13 then (if r.head? = some 10 then cl r else 10 :: cl r) else if n = 0 then 65533 :: cl r else n :: cl r
def E (l : List Int) : Str := (l.map Lib.encodeRune).flatten
theorem enc_len (n : Int) : (Lib.encodeRune n).length ≤ 4 := by
  unfold Lib.encodeRune Lib.encodeRuneZ
  (repeat' split) <;> simp
theorem E_len (l : List Int) : (E l).length ≤ 4 * l.length := by
  induction l with
  | nil => simp [E]
  | cons x r ih => have := enc_len x; simp only [E, List.map_cons, List.flatten_cons, List.length_append, List.length_cons] at ih ⊢; omega
theorem E_cons (x : Int) (l : List Int) : E (x :: l) = Lib.encodeRune x ++ E l := rfl
theorem cl_len (l : List Int) : (cl l).length ≤ l.length := by
  induction l with
  | nil => simp [cl]
  | cons x r ih => simp only [cl]; (repeat' split) <;> simp <;> omega
theorem low_width {s : Str} (h : (Lib.decodeL s).1 < 128) : (Lib.decodeL s).2 = 1 := by
  rw [Lib.decodeL_N] at h ⊢
  rcases Lib.decodeN_shape s.length (s.getD 0 0).toNat (s.getD 1 0).toNat (s.getD 2 0).toNat (s.getD 3 0).toNat with ⟨c, e⟩ | ⟨c1, c2, c3, cv, e⟩ | ⟨c1, c2, c3, c4, cv, cs, e⟩ | ⟨c1, c2, c3, c4, c5, cv, cw, e⟩ | e
  all_goals rw [e] at h ⊢
  all_goals first | rfl | (exfalso; simp only at h; omega)
theorem head_runes {t : Str} : (runes t).head? = some 10 ↔ ∃ x, t[0]? = some x ∧ (x.toNat : Int) = 10 := by
  by_cases h : t = []
  · subst h; simp [runes_nil]
  · have hf := first_low (s := t) (c := 10) (by omega)
    rw [runes_step h]
    simp only [List.head?_cons, Option.some.injEq]
    constructor
    · intro h1
      obtain ⟨x, hx, hy⟩ := hf.mp ⟨by omega, h⟩
      exact ⟨x, hx, by omega⟩
    · rintro ⟨x, hx, hy⟩
      have := (hf.mpr ⟨x, hx, by omega⟩).1
      omega
end Go.VL
