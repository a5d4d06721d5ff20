/- Styles: cuts, trims, small letters, declarations, in plain Lean. -/
import Derived.Test.YtapcbcldibdnlaaDoorVStyle
import Derived.Lib.IndexMore
import Derived.Lib.SlTrimSet
set_option linter.unusedVariables false
set_option linter.unusedSimpArgs false
namespace Go.VL
open Go
theorem index_plc (t : Str) : ∀ s : Str, Lib.index s t = match plc t s with | some k => (k : Int) | none => -1
  | [] => by
    unfold Lib.index plc
    cases t <;> rfl
  | c :: r => by
    rw [Lib.index, plc]
    split
    · rfl
    · rw [index_plc t r]
      cases plc t r with
      | none => rfl
      | some k =>
        simp only [Option.map_some, beq_iff_eq]
        rw [if_neg (by omega)]
        rfl
theorem cut_plc (s t : Str) : Lib.cut s t = match plc t s with | some k => (s.take k, s.drop (k + t.length), true) | none => (s, [], false) := by
  unfold Lib.cut
  rw [index_plc]
  cases plc t s with
  | none => rfl
  | some k => simp
/-- A small letter for a great one. -/
def lowB (c : UInt8) : UInt8 := if 65 ≤ c.toNat ∧ c.toNat ≤ 90 then UInt8.ofNat (c.toNat + 32) else c
def stySp : Str := [32, 9, 10, 12, 13]
def trimR {α : Type} (p : α → Bool) (l : List α) : List α := (l.reverse.dropWhile p).reverse
theorem trimR_cons {α : Type} (p : α → Bool) (x : α) (l : List α) : trimR p (x :: l) = if trimR p l = [] then (if p x then [] else [x]) else x :: trimR p l := by
  unfold trimR
  rw [List.reverse_cons, List.dropWhile_append]
  by_cases h : l.reverse.dropWhile p = []
  · rw [h]
    cases hp : p x <;> simp [List.dropWhile, hp]
  · have h2 : (List.dropWhile p l.reverse).isEmpty = false := by simpa using h
    rw [h2]
    simp [h]
theorem trim_comm {α : Type} (p : α → Bool) : ∀ l : List α, (trimR p l).dropWhile p = trimR p (l.dropWhile p)
  | [] => rfl
  | x :: l => by
    have ih := trim_comm p l
    rw [trimR_cons]
    by_cases hp : p x = true
    · rw [List.dropWhile_cons_of_pos hp, ← ih]
      by_cases h : trimR p l = []
      · rw [if_pos h, if_pos hp, h]
      · rw [if_neg h, List.dropWhile_cons_of_pos hp]
    · rw [List.dropWhile_cons_of_neg hp, trimR_cons]
      by_cases h : trimR p l = []
      · rw [if_pos h, if_neg hp, List.dropWhile_cons_of_neg hp]
      · rw [if_neg h, List.dropWhile_cons_of_neg hp]
def trimSty (s : Str) : Str := trimR (stySp.contains ·) (s.dropWhile (stySp.contains ·))
theorem trimS_eq (s : Str) : Lib.trimS s stySp = trimSty s := by
  show (trimR (stySp.contains ·) s).dropWhile (stySp.contains ·) = _
  rw [trim_comm]; rfl
theorem dropWhile_len {α : Type} (p : α → Bool) : ∀ l : List α, (l.dropWhile p).length ≤ l.length
  | [] => by simp
  | x :: l => by
    rw [List.dropWhile]
    split
    · have := dropWhile_len p l; simp; omega
    · exact Nat.le_refl _
theorem trimR_len {α : Type} (p : α → Bool) (l : List α) : (trimR p l).length ≤ l.length := by
  unfold trimR
  have := dropWhile_len p l.reverse
  simp only [List.length_reverse] at this ⊢
  exact this
theorem trimSty_len (s : Str) : (trimSty s).length ≤ s.length := by
  have := trimR_len (stySp.contains ·) (s.dropWhile (stySp.contains ·))
  have := dropWhile_len (stySp.contains ·) s
  unfold trimSty
  omega
/-- The declaration of a piece. -/
def declOf (p : Str) : Option Attr := match plc [58] p with
  | none => none
  | some k => if nameB ((trimSty (p.take k)).map lowB) = true ∧ trimSty (p.drop (k + 1)) ≠ [] then some ⟨(trimSty (p.take k)).map lowB, trimSty (p.drop (k + 1))⟩ else none
def bareS (s : Str) : Str := brQ (s.length + 1) s
def piecesS (s : Str) : List Str := pcs [] 0 0 s
def parseS (s : Str) : List Attr := (piecesS (bareS s)).filterMap declOf
theorem brQ_len : ∀ (n : Nat) (s : Str), (brQ n s).length ≤ s.length
  | 0, s => by simp [brQ]
  | n + 1, [] => by simp [brQ]
  | n + 1, c :: r => by
    rw [brQ]
    split
    · split
      · simp
      · have := brQ_len n ((c :: r).drop (2 + (‹Nat› + 2)))
        simp only [List.length_drop] at this
        omega
    · have := brQ_len n r
      simp; omega
theorem bareS_len (s : Str) : (bareS s).length ≤ s.length := brQ_len _ _
theorem pcs_len : ∀ (s cur : Str) (d : Nat) (q : UInt8), (pcs cur d q s).length ≤ s.length + 1 ∧ ∀ p ∈ pcs cur d q s, p.length ≤ cur.length + s.length
  | [], cur, d, q => by simp [pcs]
  | c :: r, cur, d, q => by
    have h := fun cur' d' q' => pcs_len r cur' d' q'
    have h1 : ∀ d' q', (pcs (cur ++ [c]) d' q' r).length ≤ (c :: r).length + 1 ∧ ∀ p ∈ pcs (cur ++ [c]) d' q' r, p.length ≤ cur.length + (c :: r).length := fun d' q' => by
      obtain ⟨g1, g2⟩ := h (cur ++ [c]) d' q'
      refine ⟨by simp; omega, fun p hp => ?_⟩
      have := g2 p hp
      simp at this ⊢; omega
    rw [pcs]
    split
    · exact h1 _ _
    · split
      · exact h1 _ _
      · split
        · exact h1 _ _
        · split
          · exact h1 _ _
          · split
            · obtain ⟨g1, g2⟩ := h [] d 0
              refine ⟨by simp at g1 ⊢; omega, fun p hp => ?_⟩
              rcases List.mem_cons.mp hp with rfl | hp
              · omega
              · have := g2 p hp; simp at this ⊢; omega
            · exact h1 _ _
end Go.VL
