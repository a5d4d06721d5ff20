/- Styles, in plain Lean: remarks taken out; what lies between semicolons. -/
import Derived.Lib.IndexMore
import Derived.Lib.SlTrimSet
import Derived.Test.YtpekbppohnkdbaaDoorVName
set_option linter.unusedVariables false
set_option linter.unusedSimpArgs false
namespace Go.VL
open Go
/-- Where f stands first in a text. -/
def plc (f : Str) : Str → Option Nat
  | [] => if f.isPrefixOf [] then some 0 else none
  | c :: r => if f.isPrefixOf (c :: r) then some 0 else (plc f r).map (· + 1)
theorem plc_lt {f : Str} (hf : f ≠ []) : ∀ {s : Str} {k : Nat}, plc f s = some k → k + f.length ≤ s.length
  | [], k, h => by
    cases f with
    | nil => exact absurd rfl hf
    | cons x y => simp [plc] at h
  | c :: r, k, h => by
    unfold plc at h
    split at h
    · rename_i hp
      cases h
      have := (List.isPrefixOf_iff_prefix.mp hp).length_le
      omega
    · cases hr : plc f r with
      | none => rw [hr] at h; cases h
      | some j =>
        rw [hr] at h
        simp only [Option.map_some, Option.some.injEq] at h
        have := plc_lt hf hr
        simp only [List.length_cons]; omega
def o2 : Str := [47, 42]
def c2 : Str := [42, 47]
/-- Without remarks: by cuts. -/
def brP : Nat → Str → Str
  | 0, _ => []
  | n + 1, s => match plc o2 s with
    | none => s
    | some k => s.take k ++ match plc c2 (s.drop (k + 2)) with
      | none => []
      | some j => brP n (s.drop (k + 2 + (j + 2)))
/-- Without remarks: letter by letter. -/
def brQ : Nat → Str → Str
  | 0, _ => []
  | n + 1, s => match s with
    | [] => []
    | c :: r => if o2.isPrefixOf (c :: r) then (match plc c2 ((c :: r).drop 2) with
        | none => []
        | some j => brQ n ((c :: r).drop (2 + (j + 2))))
      else c :: brQ n r
theorem brP_cons {n : Nat} {c : UInt8} {r : Str} (h : o2.isPrefixOf (c :: r) = false) : brP (n + 1) (c :: r) = c :: brP (n + 1) r := by
  have e : plc o2 (c :: r) = (plc o2 r).map (· + 1) := by rw [plc, if_neg (by rw [h]; simp)]
  unfold brP
  rw [e]
  cases hr : plc o2 r with
  | none => simp
  | some k =>
    simp only [Option.map_some, List.take_succ_cons, List.cons_append]
    have e1 : (c :: r).drop (k + 1 + 2) = r.drop (k + 2) := by rw [show k + 1 + 2 = (k + 2) + 1 by omega, List.drop_succ_cons]
    rw [e1]
    cases plc c2 (r.drop (k + 2)) with
    | none => rfl
    | some j =>
      have e2 : (c :: r).drop (k + 1 + 2 + (j + 2)) = r.drop (k + 2 + (j + 2)) := by rw [show k + 1 + 2 + (j + 2) = (k + 2 + (j + 2)) + 1 by omega, List.drop_succ_cons]
      simp only [e2]
theorem br_eq : ∀ (m : Nat) (s : Str), s.length < m → ∀ n, s.length < n → brP n s = brQ m s
  | 0, s, h, n, hn => by omega
  | m + 1, [], h, n, hn => by
    obtain ⟨n, rfl⟩ : ∃ k, n = k + 1 := ⟨n - 1, by simp only [List.length_nil] at hn; omega⟩
    rfl
  | m + 1, c :: r, h, n, hn => by
    simp only [List.length_cons] at h hn
    obtain ⟨n, rfl⟩ : ∃ k, n = k + 1 := ⟨n - 1, by omega⟩
    by_cases hp : o2.isPrefixOf (c :: r) = true
    · have e : plc o2 (c :: r) = some 0 := by rw [plc, if_pos hp]
      have hl := (List.isPrefixOf_iff_prefix.mp hp).length_le
      simp only [o2, List.length_cons, List.length_nil] at hl
      unfold brP brQ
      rw [e]
      simp only [hp, if_true, List.take_zero, List.nil_append, Nat.zero_add]
      cases hc : plc c2 ((c :: r).drop 2) with
      | none => rfl
      | some j =>
        have hd : ((c :: r).drop (2 + (j + 2))).length ≤ r.length := by rw [List.length_drop, List.length_cons]; omega
        exact br_eq m _ (by omega) n (by omega)
    · have hp' : o2.isPrefixOf (c :: r) = false := by
        cases h : o2.isPrefixOf (c :: r) with
        | false => rfl
        | true => exact absurd h hp
      rw [brP_cons hp', brQ]
      simp only [hp', Bool.false_eq_true, if_false]
      rw [br_eq m r (by omega) (n + 1) (by omega)]
/-- Pieces: with the quote that is open (0: none). -/
def pcs : Str → Nat → UInt8 → Str → List Str
  | cur, d, q, [] => [cur]
  | cur, d, q, c :: r =>
    if q ≠ 0 then pcs (cur ++ [c]) d (if c = q then 0 else q) r
    else if c = 34 ∨ c = 39 then pcs (cur ++ [c]) d c r
    else if c = 40 then pcs (cur ++ [c]) (d + 1) 0 r
    else if c = 41 then pcs (cur ++ [c]) (d - 1) 0 r
    else if c = 59 ∧ d = 0 then cur :: pcs [] d 0 r
    else pcs (cur ++ [c]) d 0 r
/-- Pieces: a quoted text at once. -/
def pcsQ : Nat → Str → Nat → Str → List Str
  | 0, _, _, _ => []
  | n + 1, cur, d, s => match s with
    | [] => [cur]
    | c :: r =>
      if c = 34 ∨ c = 39 then (match plc [c] r with
        | none => [cur ++ (c :: r)]
        | some j => pcsQ n (cur ++ (c :: r.take (j + 1))) d (r.drop (j + 1)))
      else if c = 40 then pcsQ n (cur ++ [c]) (d + 1) r
      else if c = 41 then pcsQ n (cur ++ [c]) (d - 1) r
      else if c = 59 ∧ d = 0 then cur :: pcsQ n [] d r
      else pcsQ n (cur ++ [c]) d r
theorem plc_one {q c : UInt8} {r : Str} : plc [q] (c :: r) = if c = q then some 0 else (plc [q] r).map (· + 1) := by
  have e : plc [q] (c :: r) = (if ([q] : Str).isPrefixOf (c :: r) then some 0 else (plc [q] r).map (· + 1)) := rfl
  rw [e]
  have : ([q].isPrefixOf (c :: r)) = (q == c) := by simp [List.isPrefixOf]
  rw [this]
  by_cases h : c = q
  · subst h; simp
  · have : (q == c) = false := by simp [Ne.symm h]
    rw [this]; simp [h]
theorem pcs_quote {q : UInt8} (hq : q ≠ 0) (d : Nat) : ∀ (s cur : Str), pcs cur d q s = match plc [q] s with
    | none => [cur ++ s]
    | some j => pcs (cur ++ s.take (j + 1)) d 0 (s.drop (j + 1))
  | [], cur => by simp [pcs, plc]
  | c :: r, cur => by
    rw [pcs, if_pos hq, plc_one]
    by_cases h : c = q
    · simp [h]
    · rw [if_neg h, if_neg h, pcs_quote hq d r]
      cases plc [q] r with
      | none => simp
      | some j => simp
theorem pcs_eq : ∀ (n : Nat) (s cur : Str) (d : Nat), s.length < n → pcs cur d 0 s = pcsQ n cur d s
  | 0, s, cur, d, h => by omega
  | n + 1, [], cur, d, h => rfl
  | n + 1, c :: r, cur, d, h => by
    simp only [List.length_cons] at h
    rw [pcs, pcsQ]
    simp only [ne_eq, not_true_eq_false, if_false]
    by_cases hq : c = 34 ∨ c = 39
    · have hc0 : c ≠ 0 := by rintro rfl; rcases hq with h | h <;> exact absurd h (by decide)
      rw [if_pos hq, if_pos hq, pcs_quote hc0]
      cases hp : plc [c] r with
      | none => simp
      | some j =>
        simp only [List.append_assoc, List.singleton_append]
        exact pcs_eq n _ _ _ (by rw [List.length_drop]; omega)
    · rw [if_neg hq, if_neg hq]
      split
      · exact pcs_eq n r _ _ (by omega)
      · split
        · exact pcs_eq n r _ _ (by omega)
        · split
          · rw [pcs_eq n r _ _ (by omega)]
          · exact pcs_eq n r _ _ (by omega)
end Go.VL

/- Styles: cuts, trims, small letters, declarations, in plain Lean. -/
namespace Go.VL
open Go
theorem index_plc (t : Str) : ∀ s : Str, Lib.index s t = match plc t s with | some k => (k : Int) | none => -1
  | [] => by
    unfold Lib.index plc
    cases t <;> rfl
  | c :: r => by
    rw [Lib.index, plc]
    split
    · rfl
    · rw [index_plc t r]
      cases plc t r with
      | none => rfl
      | some k =>
        simp only [Option.map_some, beq_iff_eq]
        rw [if_neg (by omega)]
        rfl
theorem cut_plc (s t : Str) : Lib.cut s t = match plc t s with | some k => (s.take k, s.drop (k + t.length), true) | none => (s, [], false) := by
  unfold Lib.cut
  rw [index_plc]
  cases plc t s with
  | none => rfl
  | some k => simp
/-- A small letter for a great one. -/
def lowB (c : UInt8) : UInt8 := if 65 ≤ c.toNat ∧ c.toNat ≤ 90 then UInt8.ofNat (c.toNat + 32) else c
def stySp : Str := [32, 9, 10, 12, 13]
def trimR {α : Type} (p : α → Bool) (l : List α) : List α := (l.reverse.dropWhile p).reverse
theorem trimR_cons {α : Type} (p : α → Bool) (x : α) (l : List α) : trimR p (x :: l) = if trimR p l = [] then (if p x then [] else [x]) else x :: trimR p l := by
  unfold trimR
  rw [List.reverse_cons, List.dropWhile_append]
  by_cases h : l.reverse.dropWhile p = []
  · rw [h]
    cases hp : p x <;> simp [List.dropWhile, hp]
  · have h2 : (List.dropWhile p l.reverse).isEmpty = false := by simpa using h
    rw [h2]
    simp [h]
theorem trim_comm {α : Type} (p : α → Bool) : ∀ l : List α, (trimR p l).dropWhile p = trimR p (l.dropWhile p)
  | [] => rfl
  | x :: l => by
    have ih := trim_comm p l
    rw [trimR_cons]
    by_cases hp : p x = true
    · rw [List.dropWhile_cons_of_pos hp, ← ih]
      by_cases h : trimR p l = []
      · rw [if_pos h, if_pos hp, h]
      · rw [if_neg h, List.dropWhile_cons_of_pos hp]
    · rw [List.dropWhile_cons_of_neg hp, trimR_cons]
      by_cases h : trimR p l = []
      · rw [if_pos h, if_neg hp, List.dropWhile_cons_of_neg hp]
      · rw [if_neg h, List.dropWhile_cons_of_neg hp]
def trimSty (s : Str) : Str := trimR (stySp.contains ·) (s.dropWhile (stySp.contains ·))
theorem trimS_eq (s : Str) : Lib.trimS s stySp = trimSty s := by
  show (trimR (stySp.contains ·) s).dropWhile (stySp.contains ·) = _
  rw [trim_comm]; rfl
theorem dropWhile_len {α : Type} (p : α → Bool) : ∀ l : List α, (l.dropWhile p).length ≤ l.length
  | [] => by simp
  | x :: l => by
    rw [List.dropWhile]
    split
    · have := dropWhile_len p l; simp; omega
    · exact Nat.le_refl _
theorem trimR_len {α : Type} (p : α → Bool) (l : List α) : (trimR p l).length ≤ l.length := by
  unfold trimR
  have := dropWhile_len p l.reverse
  simp only [List.length_reverse] at this ⊢
  exact this
theorem trimSty_len (s : Str) : (trimSty s).length ≤ s.length := by
  have := trimR_len (stySp.contains ·) (s.dropWhile (stySp.contains ·))
  have := dropWhile_len (stySp.contains ·) s
  unfold trimSty
  omega
/-- The declaration of a piece. -/
def declOf (p : Str) : Option Attr := match plc [58] p with
  | none => none
  | some k => if nameB ((trimSty (p.take k)).map lowB) = true ∧ trimSty (p.drop (k + 1)) ≠ [] then some ⟨(trimSty (p.take k)).map lowB, trimSty (p.drop (k + 1))⟩ else none
def bareS (s : Str) : Str := brQ (s.length + 1) s
def piecesS (s : Str) : List Str := pcs [] 0 0 s
def parseS (s : Str) : List Attr := (piecesS (bareS s)).filterMap declOf
theorem brQ_len : ∀ (n : Nat) (s : Str), (brQ n s).length ≤ s.length
  | 0, s => by simp [brQ]
  | n + 1, [] => by simp [brQ]
  | n + 1, c :: r => by
    rw [brQ]
    split
    · split
      · simp
      · have := brQ_len n ((c :: r).drop (2 + (‹Nat› + 2)))
        simp only [List.length_drop] at this
        omega
    · have := brQ_len n r
      simp; omega
theorem bareS_len (s : Str) : (bareS s).length ≤ s.length := brQ_len _ _
theorem pcs_len : ∀ (s cur : Str) (d : Nat) (q : UInt8), (pcs cur d q s).length ≤ s.length + 1 ∧ ∀ p ∈ pcs cur d q s, p.length ≤ cur.length + s.length
  | [], cur, d, q => by simp [pcs]
  | c :: r, cur, d, q => by
    have h := fun cur' d' q' => pcs_len r cur' d' q'
    have h1 : ∀ d' q', (pcs (cur ++ [c]) d' q' r).length ≤ (c :: r).length + 1 ∧ ∀ p ∈ pcs (cur ++ [c]) d' q' r, p.length ≤ cur.length + (c :: r).length := fun d' q' => by
      obtain ⟨g1, g2⟩ := h (cur ++ [c]) d' q'
      refine ⟨by simp; omega, fun p hp => ?_⟩
      have := g2 p hp
      simp at this ⊢; omega
    rw [pcs]
    split
    · exact h1 _ _
    · split
      · exact h1 _ _
      · split
        · exact h1 _ _
        · split
          · exact h1 _ _
          · split
            · obtain ⟨g1, g2⟩ := h [] d 0
              refine ⟨by simp at g1 ⊢; omega, fun p hp => ?_⟩
              rcases List.mem_cons.mp hp with rfl | hp
              · omega
              · have := g2 p hp; simp at this ⊢; omega
            · exact h1 _ _
end Go.VL
