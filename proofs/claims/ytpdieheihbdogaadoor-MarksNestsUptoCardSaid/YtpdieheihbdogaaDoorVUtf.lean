/- A text's first letter, found by trying widths. -/
import Derived.Lib.MapLaws
import Derived.Lib.TrimUEq
import Derived.Lib.RuneCountTail
import Derived.Test.YtpdieheihbdogaaDoorVTy3
set_option linter.unusedVariables false
set_option linter.unusedSimpArgs false
namespace Go.VL
open Go
def letP (n : Int) : Prop := 0 ≤ n ∧ n ≤ 1114111 ∧ (n < 55296 ∨ n > 57343)
def bt (s : Str) (i : Nat) : Int := ((s.getD i 0).toNat : Nat)
def mm (w : Nat) : Int := if w = 2 then 32 else if w = 3 then 16 else 8
def part (s : Str) (w : Nat) : Nat → Int
  | 0 => 0
  | 1 => if w ≤ 1 then bt s 0 else bt s 0 % mm w
  | i + 2 => part s w (i + 1) * 64 + bt s (i + 1) % 64
def hit (s : Str) (w : Nat) : Prop := letP (part s w w) ∧ Lib.encodeRune (part s w w) = s.take w
theorem bt_rng (s : Str) (i : Nat) : 0 ≤ bt s i ∧ bt s i < 256 := by
  have := (s.getD i 0).toNat_lt
  unfold bt; omega
theorem of_byte {x : Int} {u : UInt8} (h0 : 0 ≤ x) (h1 : x < 256) (h : x.toNat.toUInt8 = u) : ((u.toNat : Nat) : Int) = x := by
  subst h
  have e : x.toNat.toUInt8.toNat = x.toNat % 256 := by simp
  omega
theorem part1 (s : Str) : part s 1 1 = bt s 0 := by simp [part]
theorem part2 (s : Str) : part s 2 2 = bt s 0 % 32 * 64 + bt s 1 % 64 := by simp [part, mm]
theorem part3 (s : Str) : part s 3 3 = (bt s 0 % 16 * 64 + bt s 1 % 64) * 64 + bt s 2 % 64 := by simp [part, mm]
theorem part4 (s : Str) : part s 4 4 = ((bt s 0 % 8 * 64 + bt s 1 % 64) * 64 + bt s 2 % 64) * 64 + bt s 3 % 64 := by simp [part, mm]
theorem hit_dec1 {s : Str} (h : hit s 1) (hl : 1 ≤ s.length) : Lib.decodeL s = ((part s 1 1).toNat, 1) := by
  obtain ⟨⟨p1, p2, p3⟩, e⟩ := h
  rw [part1] at p1 p2 p3 e ⊢
  obtain ⟨r0, r0'⟩ := bt_rng s 0
  rw [Lib.takeA s hl] at e
  have hc : bt s 0 ≤ 127 := by
    by_cases hc : bt s 0 ≤ 127
    · exact hc
    · rw [Lib.encodeRune, Lib.encodeRuneZ_two (by omega) (by omega)] at e; simp at e
  rw [Lib.decodeL_N]
  unfold bt at *
  unfold Lib.decodeN
  rw [if_pos (by omega)]
  simp
theorem hit_dec2 {s : Str} (h : hit s 2) (hl : 2 ≤ s.length) : Lib.decodeL s = ((part s 2 2).toNat, 2) := by
  obtain ⟨⟨p1, p2, p3⟩, e⟩ := h
  rw [part2] at p1 p2 p3 e ⊢
  obtain ⟨r0, r0'⟩ := bt_rng s 0
  obtain ⟨r1, r1'⟩ := bt_rng s 1
  rw [Lib.takeB s hl] at e
  generalize hcc : bt s 0 % 32 * 64 + bt s 1 % 64 = c at *
  have hc : 128 ≤ c := by
    by_cases hc : c ≤ 127
    · rw [Lib.encodeRune, Lib.encodeRuneZ_one (by omega) (by omega)] at e; simp at e
    · omega
  rw [Lib.encodeRune, Lib.encodeRuneZ_two (by omega) (by omega)] at e
  simp only [List.map_cons, List.map_nil, List.cons.injEq, and_true] at e
  obtain ⟨e0, e1⟩ := e
  have g0 := of_byte (by omega) (by omega) e0
  have g1 := of_byte (by omega) (by omega) e1
  rw [Lib.decodeL_N]
  unfold bt at *
  unfold Lib.decodeN
  rw [if_neg (by omega), if_pos (by omega), if_pos (by omega)]
  refine Prod.ext ?_ rfl
  simp only; omega
theorem hit_dec3 {s : Str} (h : hit s 3) (hl : 3 ≤ s.length) : Lib.decodeL s = ((part s 3 3).toNat, 3) := by
  obtain ⟨⟨p1, p2, p3⟩, e⟩ := h
  rw [part3] at p1 p2 p3 e ⊢
  obtain ⟨r0, r0'⟩ := bt_rng s 0
  obtain ⟨r1, r1'⟩ := bt_rng s 1
  obtain ⟨r2, r2'⟩ := bt_rng s 2
  rw [Lib.takeC s hl] at e
  generalize hcc : (bt s 0 % 16 * 64 + bt s 1 % 64) * 64 + bt s 2 % 64 = c at *
  have hc : 2048 ≤ c := by
    by_cases hc : c ≤ 127
    · rw [Lib.encodeRune, Lib.encodeRuneZ_one (by omega) (by omega)] at e; simp at e
    by_cases hc : c ≤ 2047
    · rw [Lib.encodeRune, Lib.encodeRuneZ_two (by omega) (by omega)] at e; simp at e
    · omega
  rw [Lib.encodeRune, Lib.encodeRuneZ_three (by omega)] at e
  simp only [List.map_cons, List.map_nil, List.cons.injEq, and_true] at e
  obtain ⟨e0, e1, e2⟩ := e
  have g0 := of_byte (by omega) (by omega) e0
  have g1 := of_byte (by omega) (by omega) e1
  have g2 := of_byte (by omega) (by omega) e2
  rw [Lib.decodeL_N]
  unfold bt at *
  unfold Lib.decodeN
  rw [if_neg (by omega), if_neg (by omega), if_pos (by omega), if_pos (by omega)]
  refine Prod.ext ?_ rfl
  simp only; omega
theorem hit_dec4 {s : Str} (h : hit s 4) (hl : 4 ≤ s.length) : Lib.decodeL s = ((part s 4 4).toNat, 4) := by
  obtain ⟨⟨p1, p2, p3⟩, e⟩ := h
  rw [part4] at p1 p2 p3 e ⊢
  obtain ⟨r0, r0'⟩ := bt_rng s 0
  obtain ⟨r1, r1'⟩ := bt_rng s 1
  obtain ⟨r2, r2'⟩ := bt_rng s 2
  obtain ⟨r3, r3'⟩ := bt_rng s 3
  rw [Lib.takeD s hl] at e
  generalize hcc : ((bt s 0 % 8 * 64 + bt s 1 % 64) * 64 + bt s 2 % 64) * 64 + bt s 3 % 64 = c at *
  have hc : 65536 ≤ c := by
    by_cases hc : c ≤ 127
    · rw [Lib.encodeRune, Lib.encodeRuneZ_one (by omega) (by omega)] at e; simp at e
    by_cases hc : c ≤ 2047
    · rw [Lib.encodeRune, Lib.encodeRuneZ_two (by omega) (by omega)] at e; simp at e
    by_cases hc : c ≤ 65535
    · rw [Lib.encodeRune, Lib.encodeRuneZ_three (by omega)] at e; simp at e
    · omega
  rw [Lib.encodeRune, Lib.encodeRuneZ_four (by omega) (by omega)] at e
  simp only [List.map_cons, List.map_nil, List.cons.injEq, and_true] at e
  obtain ⟨e0, e1, e2, e3⟩ := e
  have g0 := of_byte (by omega) (by omega) e0
  have g1 := of_byte (by omega) (by omega) e1
  have g2 := of_byte (by omega) (by omega) e2
  have g3 := of_byte (by omega) (by omega) e3
  rw [Lib.decodeL_N]
  unfold bt at *
  unfold Lib.decodeN
  rw [if_neg (by omega), if_neg (by omega), if_neg (by omega), if_pos (by omega), if_pos (by omega)]
  refine Prod.ext ?_ rfl
  simp only; omega
theorem hit_dec {s : Str} {w : Nat} (h : hit s w) (h1 : 1 ≤ w) (h4 : w ≤ 4) (hl : w ≤ s.length) : ((Lib.decodeL s).1 : Int) = part s w w ∧ (Lib.decodeL s).2 = w := by
  have hp := h.1.1
  obtain rfl | rfl | rfl | rfl : w = 1 ∨ w = 2 ∨ w = 3 ∨ w = 4 := by omega
  · rw [hit_dec1 h hl]; exact ⟨by simp only; omega, rfl⟩
  · rw [hit_dec2 h hl]; exact ⟨by simp only; omega, rfl⟩
  · rw [hit_dec3 h hl]; exact ⟨by simp only; omega, rfl⟩
  · rw [hit_dec4 h hl]; exact ⟨by simp only; omega, rfl⟩
theorem no_hit {s : Str} (hne : s ≠ []) (h : ∀ w, 1 ≤ w → w ≤ 4 → w ≤ s.length → ¬ hit s w) : Lib.decodeL s = (65533, 1) := by
  have hl : 0 < s.length := List.length_pos_iff.2 hne
  have hed := Lib.encode_decode s hne
  rw [Lib.decodeL_N] at hed ⊢
  have k0 := (s.getD 0 0).toNat_lt
  have k1 := (s.getD 1 0).toNat_lt
  have k2 := (s.getD 2 0).toNat_lt
  have k3 := (s.getD 3 0).toNat_lt
  rcases Lib.decodeN_shape s.length (s.getD 0 0).toNat (s.getD 1 0).toNat (s.getD 2 0).toNat (s.getD 3 0).toNat with ⟨c, e⟩ | ⟨c1, c2, c3, cv, e⟩ | ⟨c1, c2, c3, c4, cv, cs, e⟩ | ⟨c1, c2, c3, c4, c5, cv, cw, e⟩ | e
  · rw [e] at hed
    refine absurd ⟨?_, ?_⟩ (h 1 (by omega) (by omega) (by omega))
    · rw [part1]; unfold letP bt; omega
    · rw [part1, ← hed (by simp only; omega)]; rfl
  · rw [e] at hed
    have ep : part s 2 2 = (((s.getD 0 0).toNat % 32 * 64 + (s.getD 1 0).toNat % 64 : Nat) : Int) := by rw [part2]; unfold bt; omega
    refine absurd ⟨?_, ?_⟩ (h 2 (by omega) (by omega) (by omega))
    · rw [ep]; unfold letP; omega
    · rw [ep, ← hed (by simp)]
  · rw [e] at hed
    have ep : part s 3 3 = (((s.getD 0 0).toNat % 16 * 4096 + (s.getD 1 0).toNat % 64 * 64 + (s.getD 2 0).toNat % 64 : Nat) : Int) := by rw [part3]; unfold bt; omega
    refine absurd ⟨?_, ?_⟩ (h 3 (by omega) (by omega) (by omega))
    · rw [ep]; unfold letP; omega
    · rw [ep, ← hed (by simp)]
  · rw [e] at hed
    have ep : part s 4 4 = (((s.getD 0 0).toNat % 8 * 262144 + (s.getD 1 0).toNat % 64 * 4096 + (s.getD 2 0).toNat % 64 * 64 + (s.getD 3 0).toNat % 64 : Nat) : Int) := by rw [part4]; unfold bt; omega
    refine absurd ⟨?_, ?_⟩ (h 4 (by omega) (by omega) (by omega))
    · rw [ep]; unfold letP; omega
    · rw [ep, ← hed (by simp)]
  · exact e
end Go.VL

/- A text's letters, one after another; cleaned. -/
namespace Go.VL
open Go
def runesN : Nat → Str → List Int
  | 0, _ => []
  | n + 1, s => if s = [] then [] else (((Lib.decodeL s).1 : Nat) : Int) :: runesN n (s.drop (Lib.decodeL s).2)
def runes (s : Str) : List Int := runesN s.length s
theorem runesN_fuel : ∀ (n m : Nat) (s : Str), s.length ≤ n → s.length ≤ m → runesN n s = runesN m s
  | 0, m, s, hn, _ => by
    have : s = [] := List.eq_nil_of_length_eq_zero (by omega)
    subst this
    cases m <;> simp [runesN]
  | n + 1, 0, s, _, hm => by
    have : s = [] := List.eq_nil_of_length_eq_zero (by omega)
    subst this
    simp [runesN]
  | n + 1, m + 1, s, hn, hm => by
    by_cases hne : s = []
    · simp [runesN, hne]
    · have hw := Lib.decodeL_width s
      have hl : 0 < s.length := List.length_pos_iff.2 hne
      simp only [runesN, if_neg hne]
      rw [runesN_fuel n m _ (by rw [List.length_drop]; omega) (by rw [List.length_drop]; omega)]
theorem runes_step {s : Str} (hne : s ≠ []) : runes s = (((Lib.decodeL s).1 : Nat) : Int) :: runes (s.drop (Lib.decodeL s).2) := by
  have hw := Lib.decodeL_width s
  have hl : 0 < s.length := List.length_pos_iff.2 hne
  unfold runes
  obtain ⟨n, hn⟩ : ∃ n, s.length = n + 1 := ⟨s.length - 1, by omega⟩
  rw [hn]
  simp only [runesN, if_neg hne]
  rw [runesN_fuel n _ _ (by rw [List.length_drop]; omega) (Nat.le_refl _)]
theorem runes_nil : runes [] = [] := rfl
theorem runesN_len : ∀ (n : Nat) (s : Str), (runesN n s).length ≤ n
  | 0, s => by simp [runesN]
  | n + 1, s => by
    have := runesN_len n (s.drop (Lib.decodeL s).2)
    simp only [runesN]
    split
    · simp
    · simp only [List.length_cons]; omega
theorem runes_len (s : Str) : (runes s).length ≤ s.length := runesN_len _ _
theorem decodeL_letter (s : Str) : letP ((Lib.decodeL s).1 : Nat) := by
  rw [Lib.decodeL_N]
  have k0 := (s.getD 0 0).toNat_lt
  have k1 := (s.getD 1 0).toNat_lt
  have k2 := (s.getD 2 0).toNat_lt
  have k3 := (s.getD 3 0).toNat_lt
  unfold letP
  rcases Lib.decodeN_shape s.length (s.getD 0 0).toNat (s.getD 1 0).toNat (s.getD 2 0).toNat (s.getD 3 0).toNat with ⟨c, e⟩ | ⟨c1, c2, c3, cv, e⟩ | ⟨c1, c2, c3, c4, cv, cs, e⟩ | ⟨c1, c2, c3, c4, c5, cv, cw, e⟩ | e
  all_goals (rw [e]; simp only; omega)
theorem runesN_letter : ∀ (n : Nat) (s : Str), ∀ x ∈ runesN n s, letP x
  | 0, s, x, h => by simp [runesN] at h
  | n + 1, s, x, h => by
    simp only [runesN] at h
    split at h
    · simp at h
    · rcases List.mem_cons.mp h with rfl | h
      · exact decodeL_letter s
      · exact runesN_letter n _ x h
theorem runes_letter {s : Str} {x : Int} (h : x ∈ runes s) : letP x := runesN_letter _ _ x h
/-- The rune at a place, and its width. -/
theorem decode_drop (s : Str) (pos : Nat) : Utf8.decode ⟨s.toArray⟩ pos = Lib.decodeL (s.drop pos) := by
  rw [Lib.decode_N, Lib.decodeL_N]
  simp [List.getD_eq_getElem?_getD, List.getElem?_drop]
theorem runes_at {s : Str} {pos : Nat} (h : pos < s.length) : runes (s.drop pos) = (((Lib.decodeL (s.drop pos)).1 : Nat) : Int) :: runes (s.drop (pos + (Lib.decodeL (s.drop pos)).2)) := by
  rw [runes_step (by intro h0; have := congrArg List.length h0; simp at this; omega), List.drop_drop]
theorem width_at {s : Str} {pos : Nat} (h : pos < s.length) : 1 ≤ (Lib.decodeL (s.drop pos)).2 ∧ pos + (Lib.decodeL (s.drop pos)).2 ≤ s.length := by
  have h1 := Lib.decodeL_width (s.drop pos)
  have h2 := Lib.decodeL_le (s.drop pos) (by intro h0; have := congrArg List.length h0; simp at this; omega)
  rw [List.length_drop] at h2
  exact ⟨by omega, by omega⟩
/-- The first letter is a low one exactly if the first byte is that. -/
theorem first_low {s : Str} {c : Nat} (hc : c < 128) : (Lib.decodeL s).1 = c ∧ s ≠ [] ↔ ∃ x, s[0]? = some x ∧ x.toNat = c := by
  rw [Lib.decodeL_N]
  have k0 := (s.getD 0 0).toNat_lt
  have hd : s ≠ [] ↔ ∃ x, s[0]? = some x ∧ x = s.getD 0 0 := by
    cases s <;> simp
  rw [hd]
  constructor
  · rintro ⟨h, x, hx, e⟩
    refine ⟨x, hx, ?_⟩
    subst e
    rcases Lib.decodeN_shape s.length (s.getD 0 0).toNat (s.getD 1 0).toNat (s.getD 2 0).toNat (s.getD 3 0).toNat with ⟨c, e⟩ | ⟨c1, c2, c3, cv, e⟩ | ⟨c1, c2, c3, c4, cv, cs, e⟩ | ⟨c1, c2, c3, c4, c5, cv, cw, e⟩ | e
    all_goals (rw [e] at h; simp only at h; omega)
  · rintro ⟨x, hx, e⟩
    have e2 : x = s.getD 0 0 := by simp [List.getD_eq_getElem?_getD, hx]
    refine ⟨?_, x, hx, e2⟩
    rw [← e2, e]
    unfold Lib.decodeN
    rw [if_pos hc]
def cl : List Int → List Int
  | [] => []
  | n :: r => if n = 13 then (if r.head? = some 10 then cl r else 10 :: cl r) else if n = 0 then 65533 :: cl r else n :: cl r
def E (l : List Int) : Str := (l.map Lib.encodeRune).flatten
theorem enc_len (n : Int) : (Lib.encodeRune n).length ≤ 4 := by
  unfold Lib.encodeRune Lib.encodeRuneZ
  (repeat' split) <;> simp
theorem E_len (l : List Int) : (E l).length ≤ 4 * l.length := by
  induction l with
  | nil => simp [E]
  | cons x r ih => have := enc_len x; simp only [E, List.map_cons, List.flatten_cons, List.length_append, List.length_cons] at ih ⊢; omega
theorem E_cons (x : Int) (l : List Int) : E (x :: l) = Lib.encodeRune x ++ E l := rfl
theorem cl_len (l : List Int) : (cl l).length ≤ l.length := by
  induction l with
  | nil => simp [cl]
  | cons x r ih => simp only [cl]; (repeat' split) <;> simp <;> omega
theorem low_width {s : Str} (h : (Lib.decodeL s).1 < 128) : (Lib.decodeL s).2 = 1 := by
  rw [Lib.decodeL_N] at h ⊢
  rcases Lib.decodeN_shape s.length (s.getD 0 0).toNat (s.getD 1 0).toNat (s.getD 2 0).toNat (s.getD 3 0).toNat with ⟨c, e⟩ | ⟨c1, c2, c3, cv, e⟩ | ⟨c1, c2, c3, c4, cv, cs, e⟩ | ⟨c1, c2, c3, c4, c5, cv, cw, e⟩ | e
  all_goals rw [e] at h ⊢
  all_goals first | rfl | (exfalso; simp only at h; omega)
theorem head_runes {t : Str} : (runes t).head? = some 10 ↔ ∃ x, t[0]? = some x ∧ (x.toNat : Int) = 10 := by
  by_cases h : t = []
  · subst h; simp [runes_nil]
  · have hf := first_low (s := t) (c := 10) (by omega)
    rw [runes_step h]
    simp only [List.head?_cons, Option.some.injEq]
    constructor
    · intro h1
      obtain ⟨x, hx, hy⟩ := hf.mp ⟨by omega, h⟩
      exact ⟨x, hx, by omega⟩
    · rintro ⟨x, hx, hy⟩
      have := (hf.mpr ⟨x, hx, by omega⟩).1
      omega
end Go.VL
