/- A text's first letter, found by trying widths. -/
import Derived.Test.YtdiflegjgikpeaaDoorVTy3
import Derived.Lib.MapLaws
import Derived.Lib.TrimUEq
set_option linter.unusedVariables false
set_option linter.unusedSimpArgs false
set_option linter.unusedVariables false
namespace Go.VL
open Go
def letP (n : Int) : Prop := 0 ≤ n ∧ n ≤ 1114111 ∧ (n < 55296 ∨ n > 57343)
def bt (s : Str) (i : Nat) : Int := ((s.getD i 0).toNat : Nat)
def mm (w : Nat) : Int := if w = 2 then 32 else if w = 3 then 16 else 8
def part (s : Str) (w : Nat) : Nat → Int
  | 0 => 0
  | 1 => if w ≤ 1 then bt s 0 else bt s 0 % mm w
  | i + 2 => part s w (i + 1) * 64 + bt s (i + 1) % 64
def hit (s : Str) (w : Nat) : Prop := letP (part s w w) ∧ Lib.encodeRune (part s w w) = s.take w
theorem bt_rng (s : Str) (i : Nat) : 0 ≤ bt s i ∧ bt s i < 256 := by
  have := (s.getD i 0).toNat_lt
  unfold bt; omega
theorem of_byte {x : Int} {u : UInt8} (h0 : 0 ≤ x) (h1 : x < 256) (h : x.toNat.toUInt8 = u) : ((u.toNat : Nat) : Int) = x := by
  subst h
  have e : x.toNat.toUInt8.toNat = x.toNat % 256 := by simp
  omega
theorem part1 (s : Str) : part s 1 1 = bt s 0 := by simp [part]
theorem part2 (s : Str) : part s 2 2 = bt s 0 % 32 * 64 + bt s 1 % 64 := by simp [part, mm]
theorem part3 (s : Str) : part s 3 3 = (bt s 0 % 16 * 64 + bt s 1 % 64) * 64 + bt s 2 % 64 := by simp [part, mm]
theorem part4 (s : Str) : part s 4 4 = ((bt s 0 % 8 * 64 + bt s 1 % 64) * 64 + bt s 2 % 64) * 64 + bt s 3 % 64 := by simp [part, mm]
theorem hit_dec1 {s : Str} (h : hit s 1) (hl : 1 ≤ s.length) : Lib.decodeL s = ((part s 1 1).toNat, 1) := by
  obtain ⟨⟨p1, p2, p3⟩, e⟩ := h
  rw [part1] at p1 p2 p3 e ⊢
  obtain ⟨r0, r0'⟩ := bt_rng s 0
  rw [Lib.takeA s hl] at e
  have hc : bt s 0 ≤ 127 := by
    by_cases hc : bt s 0 ≤ 127
    · exact hc
    · rw [Lib.encodeRune, Lib.encodeRuneZ_two (by omega) (by omega)] at e; simp at e
  rw [Lib.decodeL_N]
  unfold bt at *
  unfold Lib.decodeN
  rw [if_pos (by omega)]
  simp
theorem hit_dec2 {s : Str} (h : hit s 2) (hl : 2 ≤ s.length) : Lib.decodeL s = ((part s 2 2).toNat, 2) := by
  obtain ⟨⟨p1, p2, p3⟩, e⟩ := h
  rw [part2] at p1 p2 p3 e ⊢
  obtain ⟨r0, r0'⟩ := bt_rng s 0
  obtain ⟨r1, r1'⟩ := bt_rng s 1
  rw [Lib.takeB s hl] at e
  generalize hcc : bt s 0 % 32 * 64 + bt s 1 % 64 = c at *
  have hc : 128 ≤ c := by
    by_cases hc : c ≤ 127
    · rw [Lib.encodeRune, Lib.encodeRuneZ_one (by omega) (by omega)] at e; simp at e
    · omega
  rw [Lib.encodeRune, Lib.encodeRuneZ_two (by omega) (by omega)] at e
  simp only [List.map_cons, List.map_nil, List.cons.injEq, and_true] at e
  obtain ⟨e0, e1⟩ := e
  have g0 := of_byte (by omega) (by omega) e0
  have g1 := of_byte (by omega) (by omega) e1
  rw [Lib.decodeL_N]
  unfold bt at *
  unfold Lib.decodeN
  rw [if_neg (by omega), if_pos (by omega), if_pos (by omega)]
  refine Prod.ext ?_ rfl
  simp only; omega
theorem hit_dec3 {s : Str} (h : hit s 3) (hl : 3 ≤ s.length) : Lib.decodeL s = ((part s 3 3).toNat, 3) := by
  obtain ⟨⟨p1, p2, p3⟩, e⟩ := h
  rw [part3] at p1 p2 p3 e ⊢
  obtain ⟨r0, r0'⟩ := bt_rng s 0
  obtain ⟨r1, r1'⟩ := bt_rng s 1
  obtain ⟨r2, r2'⟩ := bt_rng s 2
  rw [Lib.takeC s hl] at e
  generalize hcc : (bt s 0 % 16 * 64 + bt s 1 % 64) * 64 + bt s 2 % 64 = c at *
  have hc : 2048 ≤ c := by
    by_cases hc : c ≤ 127
    · rw [Lib.encodeRune, Lib.encodeRuneZ_one (by omega) (by omega)] at e; simp at e
    by_cases hc : c ≤ 2047
    · rw [Lib.encodeRune, Lib.encodeRuneZ_two (by omega) (by omega)] at e; simp at e
    · omega
  rw [Lib.encodeRune, Lib.encodeRuneZ_three (by omega)] at e
  simp only [List.map_cons, List.map_nil, List.cons.injEq, and_true] at e
  obtain ⟨e0, e1, e2⟩ := e
  have g0 := of_byte (by omega) (by omega) e0
  have g1 := of_byte (by omega) (by omega) e1
  have g2 := of_byte (by omega) (by omega) e2
  rw [Lib.decodeL_N]
  unfold bt at *
  unfold Lib.decodeN
  rw [if_neg (by omega), if_neg (by omega), if_pos (by omega), if_pos (by omega)]
  refine Prod.ext ?_ rfl
  simp only; omega
theorem hit_dec4 {s : Str} (h : hit s 4) (hl : 4 ≤ s.length) : Lib.decodeL s = ((part s 4 4).toNat, 4) := by
  obtain ⟨⟨p1, p2, p3⟩, e⟩ := h
  rw [part4] at p1 p2 p3 e ⊢
  obtain ⟨r0, r0'⟩ := bt_rng s 0
  obtain ⟨r1, r1'⟩ := bt_rng s 1
  obtain ⟨r2, r2'⟩ := bt_rng s 2
  obtain ⟨r3, r3'⟩ := bt_rng s 3
  rw [Lib.takeD s hl] at e
  generalize hcc : ((bt s 0 % 8 * 64 + bt s 1 % 64) * 64 + bt s 2 % 64) * 64 + bt s 3 % 64 = c at *
  have hc : 65536 ≤ c := by
    by_cases hc : c ≤ 127
    · rw [Lib.encodeRune, Lib.encodeRuneZ_one (by omega) (by omega)] at e; simp at e
    by_cases hc : c ≤ 2047
    · rw [Lib.encodeRune, Lib.encodeRuneZ_two (by omega) (by omega)] at e; simp at e
    by_cases hc : c ≤ 65535
    · rw [Lib.encodeRune, Lib.encodeRuneZ_three (by omega)] at e; simp at e
    · omega
  rw [Lib.encodeRune, Lib.encodeRuneZ_four (by omega) (by omega)] at e
  simp only [List.map_cons, List.map_nil, List.cons.injEq, and_true] at e
  obtain ⟨e0, e1, e2, e3⟩ := e
  have g0 := of_byte (by omega) (by omega) e0
  have g1 := of_byte (by omega) (by omega) e1
  have g2 := of_byte (by omega) (by omega) e2
  have g3 := of_byte (by omega) (by omega) e3
  rw [Lib.decodeL_N]
  unfold bt at *
  unfold Lib.decodeN
  rw [if_neg (by omega), if_neg (by omega), if_neg (by omega), if_pos (by omega), if_pos (by omega)]
  refine Prod.ext ?_ rfl
  simp only; omega
theorem hit_dec {s : Str} {w : Nat} (h : hit s w) (h1 : 1 ≤ w) (h4 : w ≤ 4) (hl : w ≤ s.length) : ((Lib.decodeL s).1 : Int) = part s w w ∧ (Lib.decodeL s).2 = w := by
  have hp := h.1.1
  obtain rfl | rfl | rfl | rfl : w = 1 ∨ w = 2 ∨ w = 3 ∨ w = 4 := by omega
  · rw [hit_dec1 h hl]; exact ⟨by simp only; omega, rfl⟩
  · rw [hit_dec2 h hl]; exact ⟨by simp only; omega, rfl⟩
  · rw [hit_dec3 h hl]; exact ⟨by simp only; omega, rfl⟩
  · rw [hit_dec4 h hl]; exact ⟨by simp only; omega, rfl⟩
theorem no_hit {s : Str} (hne : s ≠ []) (h : ∀ w, 1 ≤ w → w ≤ 4 → w ≤ s.length → ¬ hit s w) : Lib.decodeL s = (65533, 1) := by
  have hl : 0 < s.length := List.length_pos_iff.2 hne
  have hed := Lib.encode_decode s hne
  rw [Lib.decodeL_N] at hed ⊢
  have k0 := (s.getD 0 0).toNat_lt
  have k1 := (s.getD 1 0).toNat_lt
  have k2 := (s.getD 2 0).toNat_lt
  have k3 := (s.getD 3 0).toNat_lt
  rcases Lib.decodeN_shape s.length (s.getD 0 0).toNat (s.getD 1 0).toNat (s.getD 2 0).toNat (s.getD 3 0).toNat with ⟨c, e⟩ | ⟨c1, c2, c3, cv, e⟩ | ⟨c1, c2, c3, c4, cv, cs, e⟩ | ⟨c1, c2, c3, c4, c5, cv, cw, e⟩ | e
  · rw [e] at hed
    refine absurd ⟨?_, ?_⟩ (h 1 (by omega) (by omega) (by omega))
    · rw [part1]; unfold letP bt; omega
    · rw [part1, ← hed (by simp only; omega)]; rfl
  · rw [e] at hed
    have ep : part s 2 2 = (((s.getD 0 0).toNat % 32 * 64 + (s.getD 1 0).toNat % 64 : Nat) : Int) := by rw [part2]; unfold bt; omega
    refine absurd ⟨?_, ?_⟩ (h 2 (by omega) (by omega) (by omega))
    · rw [ep]; unfold letP; omega
    · rw [ep, ← hed (by simp)]
  · rw [e] at hed
    have ep : part s 3 3 = (((s.getD 0 0).toNat % 16 * 4096 + (s.getD 1 0).toNat % 64 * 64 + (s.getD 2 0).toNat % 64 : Nat) : Int) := by rw [part3]; unfold bt; omega
    refine absurd ⟨?_, ?_⟩ (h 3 (by omega) (by omega) (by omega))
    · rw [ep]; unfold letP; omega
    · rw [ep, ← hed (by simp)]
  · rw [e] at hed
    have ep : part s 4 4 = (((s.getD 0 0).toNat % 8 * 262144 + (s.getD 1 0).toNat % 64 * 4096 + (s.getD 2 0).toNat % 64 * 64 + (s.getD 3 0).toNat % 64 : Nat) : Int) := by rw [part4]; unfold bt; omega
    refine absurd ⟨?_, ?_⟩ (h 4 (by omega) (by omega) (by omega))
    · rw [ep]; unfold letP; omega
    · rw [ep, ← hed (by simp)]
  · exact e
end Go.VL
