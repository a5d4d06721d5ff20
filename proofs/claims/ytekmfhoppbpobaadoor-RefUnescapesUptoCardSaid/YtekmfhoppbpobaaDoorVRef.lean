/- ref.Unescape in plain lists: a reference by its ';', and the same by its letters. -/
import Derived.Test.YtekmfhoppbpobaaDoorVUtf
import Derived.Lib.Bytealg
set_option linter.unusedVariables false
set_option linter.unusedSimpArgs false
namespace Go.VL.RefU
open Go Go.VL
/-- The worth of a digit; 99: it is none. -/
def digN (c : UInt8) : Nat := if 48 ≤ c.toNat ∧ c.toNat ≤ 57 then c.toNat - 48 else if 97 ≤ c.toNat ∧ c.toNat ≤ 102 then c.toNat - 87 else if 65 ≤ c.toNat ∧ c.toNat ≤ 70 then c.toNat - 55 else 99
def val (b : Nat) (l : Str) : Nat := l.foldl (fun n c => n * b + digN c) 0
def fixN (n : Nat) : Nat := if n = 0 ∨ ¬ (n ≤ 1114111 ∧ (n < 55296 ∨ n > 57343)) then 65533 else n
def okD (b : Nat) (c : UInt8) : Bool := decide (digN c < b)
def numd (b most : Nat) (ds : Str) : Option Nat := if ds = [] ∨ most < ds.length ∨ ds.all (okD b) = false then none else some (fixN (val b ds))
def names : List (Str × Nat) := [([97, 109, 112], 38), ([108, 116], 60), ([103, 116], 62), ([113, 117, 111, 116], 34), ([110, 98, 115, 112], 160), ([99, 111, 112, 121], 169)]
def namedL (s : Str) : Option Nat := (names.find? fun p => p.1 == s).map (·.2)
/-- The letter of what stands between & and ; -/
def letterL : Str → Option Nat
  | [] => namedL []
  | x :: ds => if x = 35 then (match ds with
      | [] => none
      | y :: r => if y = 120 ∨ y = 88 then numd 16 6 r else numd 10 7 (y :: r)) else namedL (x :: ds)
/-- What the code finds at a text's begin: the letter and how many bytes it takes. -/
def codeAt (t : Str) : Option (Nat × Nat) :=
  if t.head? = some 38 ∧ 0 < Lib.indexByte t 59 then (letterL ((t.take (Lib.indexByte t 59).toNat).drop 1)).map fun r => (r, (Lib.indexByte t 59).toNat + 1) else none
def refNm (t : Str) : Option (Nat × Nat) := (names.find? fun p => (38 :: p.1 ++ [59]).isPrefixOf t).map fun p => (p.2, p.1.length + 2)
def refD (t : Str) (at_ b most : Nat) : Option (Nat × Nat) :=
  let ds := (t.drop at_).takeWhile (okD b)
  if ds = [] ∨ most < ds.length ∨ t[at_ + ds.length]? ≠ some 59 then none else some (fixN (val b ds), at_ + ds.length + 1)
/-- .. and what the reference finds. -/
def refAt (t : Str) : Option (Nat × Nat) := match refNm t with
  | some x => some x
  | none => match t with
    | a :: h :: x :: r => if a = 38 ∧ h = 35 then (if x = 120 ∨ x = 88 then refD t 3 16 6 else refD t 2 10 7) else none
    | _ => none
theorem no59 {p : Str × Nat} (h : p ∈ names) : (59 : UInt8) ∉ p.1 := by
  simp only [names, List.mem_cons, List.not_mem_nil, or_false] at h
  rcases h with rfl | rfl | rfl | rfl | rfl | rfl <;> decide
theorem pre_iff : ∀ (n c v : Str), (59 : UInt8) ∉ n → (59 : UInt8) ∉ c → ((n ++ [59]).isPrefixOf (c ++ 59 :: v) = (n == c))
  | [], [], v, _, _ => by simp [List.isPrefixOf]
  | [], x :: c, v, _, hc => by
    simp only [List.mem_cons, not_or] at hc
    have : ((59 : UInt8) == x) = false := by simpa using hc.1
    simp [List.isPrefixOf, this]
  | x :: n, [], v, hn, _ => by
    simp only [List.mem_cons, not_or] at hn
    have : (x == (59 : UInt8)) = false := by simpa using fun e => hn.1 e.symm
    simp [List.isPrefixOf, this]
  | x :: n, y :: c, v, hn, hc => by
    simp only [List.mem_cons, not_or] at hn hc
    have ih := pre_iff n c v hn.2 hc.2
    simp only [List.cons_append, List.isPrefixOf, ih]
    by_cases h : x = y
    · subst h; simp
    · have : (x == y) = false := by simpa using h
      simp [this, h]
theorem pre_none {n u : Str} (hu : (59 : UInt8) ∉ u) : (n ++ [59]).isPrefixOf u = false := by
  cases h : (n ++ [59]).isPrefixOf u with
  | false => rfl
  | true =>
    have h2 := List.isPrefixOf_iff_prefix.1 h
    exact absurd (h2.subset (by simp)) hu
theorem split59 : ∀ (u : Str), (59 : UInt8) ∈ u → ∃ c v, u = c ++ 59 :: v ∧ (59 : UInt8) ∉ c
  | [], h => by simp at h
  | x :: u, h => by
    by_cases hx : x = 59
    · exact ⟨[], u, by simp [hx], by simp⟩
    · obtain ⟨c, v, rfl, hc⟩ := split59 u ((List.mem_cons.1 h).resolve_left fun e => hx e.symm)
      exact ⟨x :: c, v, rfl, fun e => (List.mem_cons.1 e).elim (fun e => hx e.symm) hc⟩
theorem find_congr {α : Type} {p q : α → Bool} {l : List α} (h : ∀ x ∈ l, p x = q x) : l.find? p = l.find? q := by
  induction l with
  | nil => rfl
  | cons a r ih => simp only [List.find?, h a (by simp), ih fun x hx => h x (by simp [hx])]
theorem refNm_none {t : Str} (h : ∀ n : Str, (59 : UInt8) ∉ n → (38 :: n ++ [59]).isPrefixOf t = false) : refNm t = none := by
  unfold refNm
  rw [find_congr (q := fun _ => false) fun p hp => h p.1 (no59 hp)]
  rfl
theorem idx_at : ∀ (c v : Str), (59 : UInt8) ∉ c → Lib.indexByte (c ++ 59 :: v) 59 = c.length
  | [], v, _ => by simp [Lib.indexByte]
  | x :: c, v, h => by
    simp only [List.mem_cons, not_or] at h
    have ih := idx_at c v h.2
    have hx : (x == (59 : UInt8)) = false := by simpa using fun e => h.1 e.symm
    have hx2 : ¬ x = 59 := fun e => h.1 e.symm
    simp [Lib.indexByte, ih, hx, hx2] <;> omega
theorem idx_none : ∀ (c : Str), (59 : UInt8) ∉ c → Lib.indexByte c 59 = -1
  | [], _ => by simp [Lib.indexByte]
  | x :: c, h => by
    simp only [List.mem_cons, not_or] at h
    have ih := idx_none c h.2
    have hx : (x == (59 : UInt8)) = false := by simpa using fun e => h.1 e.symm
    have hx2 : ¬ x = 59 := fun e => h.1 e.symm
    simp [Lib.indexByte, ih, hx, hx2]
theorem not59 {b : Nat} (hb : b ≤ 16) : okD b 59 = false := by
  have : digN 59 = 99 := by decide
  simp [okD, this]; omega
theorem tw_len {b : Nat} {l : Str} (h : l.all (okD b) = true) : l.takeWhile (okD b) = l := by
  rw [List.all_eq_true] at h
  induction l with
  | nil => rfl
  | cons x r ih => simp [List.takeWhile, h x (by simp), ih fun y hy => h y (by simp [hy])]
/-- Digits up to the first ';', told in both ways. -/
theorem tw_split {b : Nat} (hb : b ≤ 16) : ∀ (c v : Str), (59 : UInt8) ∉ c →
    (c.all (okD b) = true → (c ++ 59 :: v).takeWhile (okD b) = c) ∧ (c.all (okD b) = false → ((c ++ 59 :: v).takeWhile (okD b)).length < c.length ∧ (c ++ 59 :: v)[((c ++ 59 :: v).takeWhile (okD b)).length]? ≠ some 59)
  | [], v, _ => ⟨fun _ => by simp [List.takeWhile, not59 hb], fun h => by simp at h⟩
  | x :: c, v, h => by
    simp only [List.mem_cons, not_or] at h
    obtain ⟨i1, i2⟩ := tw_split hb c v h.2
    by_cases hx : okD b x = true
    · simp only [List.all_cons, hx, Bool.true_and, List.cons_append, List.takeWhile]
      exact ⟨fun e => by rw [i1 e], fun e => by
        obtain ⟨j1, j2⟩ := i2 e
        exact ⟨by simp only [List.length_cons]; omega, by simpa using j2⟩⟩
    · have hx' : okD b x = false := by simpa using hx
      simp only [List.all_cons, hx', Bool.false_and, List.cons_append, List.takeWhile]
      exact ⟨(fun e => by cases e), fun _ => ⟨by simp, by simpa using fun e => h.1 e.symm⟩⟩
theorem refD_eq {t pre ds v : Str} {b most : Nat} (hb : b ≤ 16) (ht : t = pre ++ (ds ++ 59 :: v)) (hd : (59 : UInt8) ∉ ds) : refD t pre.length b most = (numd b most ds).map fun r => (r, pre.length + ds.length + 1) := by
  have e1 : t.drop pre.length = ds ++ 59 :: v := by rw [ht]; simp
  obtain ⟨i1, i2⟩ := tw_split hb ds v hd
  unfold refD numd
  simp only [e1]
  cases ha : ds.all (okD b) with
  | true =>
    rw [i1 ha]
    have e2 : t[pre.length + ds.length]? = some 59 := by rw [ht, ← List.append_assoc, List.getElem?_append_right (by simp)]; simp
    simp only [e2, ne_eq, not_true_eq_false, or_false, Bool.true_eq_false]
    split <;> simp
  | false =>
    obtain ⟨j1, j2⟩ := i2 ha
    have e2 : t[pre.length + ((ds ++ 59 :: v).takeWhile (okD b)).length]? ≠ some 59 := by
      rw [ht, List.getElem?_append_right (by simp)]
      simpa using j2
    simp [e2]
theorem refD_none {t : Str} {at_ b most : Nat} (h : (59 : UInt8) ∉ t) : refD t at_ b most = none := by
  unfold refD
  have : t[at_ + ((t.drop at_).takeWhile (okD b)).length]? ≠ some 59 := fun e => h (List.mem_of_getElem? e)
  simp [this]
theorem codeAt_eq (t : Str) : codeAt t = refAt t := by
  match t with
  | [] => simp [codeAt, refAt, refNm, names]
  | a :: u =>
    by_cases ha : a = 38
    · subst ha
      by_cases hu : (59 : UInt8) ∈ u
      · obtain ⟨c, v, rfl, hc⟩ := split59 u hu
        have hi : Lib.indexByte ((38 : UInt8) :: (c ++ 59 :: v)) 59 = ((c.length + 1 : Nat) : Int) := idx_at (38 :: c) v (by simp [hc])
        have e1 : codeAt (38 :: (c ++ 59 :: v)) = (letterL c).map fun r => (r, c.length + 2) := by
          have h3 : (((38 : UInt8) :: (c ++ 59 :: v)).take (c.length + 1)).drop 1 = c := by simp
          unfold codeAt
          rw [hi, if_pos ⟨rfl, by omega⟩, Int.toNat_natCast, h3]
        have e2 : refNm (38 :: (c ++ 59 :: v)) = (namedL c).map fun r => (r, c.length + 2) := by
          unfold refNm namedL
          rw [find_congr (q := fun p => p.1 == c) fun p hp => by
            simp only [List.cons_append, List.isPrefixOf, beq_self_eq_true, Bool.true_and]
            exact pre_iff p.1 c v (no59 hp) hc]
          cases hf : names.find? fun p => p.1 == c with
          | none => rfl
          | some p =>
            have := List.find?_some hf
            have h4 : p.1 = c := by simpa using this
            simp [h4]
        rw [e1]; unfold refAt; rw [e2]
        match c, hc with
        | [], _ => 
          have : namedL [] = none := by decide
          simp only [letterL, this, Option.map_none, List.nil_append]
          match v with
          | [] => rfl
          | [x] => rfl
          | x :: y :: r => rfl
        | x :: c, hc =>
          by_cases hx : x = 35
          · subst hx
            have hn : namedL (35 :: c) = none := by simp [namedL, names]
            simp only [letterL, hn, Option.map_none, if_true]
            match c, hc with
            | [], _ =>
              simp only [List.cons_append, List.nil_append, and_self, if_true]
              have h5 : ¬ ((59 : UInt8) = 120 ∨ (59 : UInt8) = 88) := by decide
              rw [if_neg h5]
              have := refD_eq (t := 38 :: 35 :: 59 :: v) (pre := [38, 35]) (ds := []) (v := v) (b := 10) (most := 7) (by omega) rfl (by simp)
              simpa [numd] using this.symm
            | y :: c, hc =>
              simp only [List.cons_append, and_self, if_true]
              simp only [List.mem_cons, not_or] at hc
              by_cases hy : y = 120 ∨ y = 88
              · rw [if_pos hy, if_pos hy]
                have := refD_eq (t := 38 :: 35 :: y :: (c ++ 59 :: v)) (pre := [38, 35, y]) (ds := c) (v := v) (b := 16) (most := 6) (by omega) rfl hc.2.2
                simp only [List.length_cons, List.length_nil] at this ⊢
                rw [this]
                have e : c.length + 1 + 1 + 2 = 0 + 1 + 1 + 1 + c.length + 1 := by omega
                rw [e]
              · rw [if_neg hy, if_neg hy]
                have := refD_eq (t := 38 :: 35 :: y :: (c ++ 59 :: v)) (pre := [38, 35]) (ds := y :: c) (v := v) (b := 10) (most := 7) (by omega) rfl (by simp [hc.2])
                simp only [List.length_cons, List.length_nil] at this ⊢
                rw [this]
                have e : c.length + 1 + 1 + 2 = 0 + 1 + 1 + (c.length + 1) + 1 := by omega
                rw [e]
          · simp only [letterL, if_neg hx]
            cases hN : namedL (x :: c) with
            | some r => rfl
            | none =>
              simp only [Option.map_none]
              match c with
              | [] => simp [hx]
              | y :: c => simp [hx]
      · have hi := idx_none (38 :: u) (by simp [hu])
        have e1 : codeAt (38 :: u) = none := by unfold codeAt; rw [hi]; simp
        have e2 : refNm (38 :: u) = none := refNm_none fun n hn => by
          simp only [List.cons_append, List.isPrefixOf, beq_self_eq_true, Bool.true_and]
          exact pre_none hu
        rw [e1]; unfold refAt; rw [e2]
        match u, hu with
        | [], _ => rfl
        | [x], _ => rfl
        | h :: x :: r, hu =>
          have h59 : (59 : UInt8) ∉ (38 :: h :: x :: r : Str) := by simpa using hu
          simp only [refD_none h59, ite_self]
    · have e1 : codeAt (a :: u) = none := by simp [codeAt, ha]
      have e2 : refNm (a :: u) = none := refNm_none fun n hn => by
        have : ((38 : UInt8) == a) = false := by simpa using fun e => ha e.symm
        simp [List.isPrefixOf, this]
      rw [e1]; unfold refAt; rw [e2]
      match u with
      | [] => rfl
      | [x] => rfl
      | h :: x :: r => simp [ha]
theorem refNm_wide {t : Str} {n w : Nat} (h : refNm t = some (n, w)) : 1 ≤ w ∧ w ≤ t.length := by
  unfold refNm at h
  cases hf : names.find? fun p => (38 :: p.1 ++ [59]).isPrefixOf t with
  | none => rw [hf] at h; cases h
  | some p =>
    simp only [hf, Option.map_some, Option.some.injEq, Prod.mk.injEq] at h
    have := (List.isPrefixOf_iff_prefix.1 (by simpa using List.find?_some hf) : (38 :: p.1 ++ [59]) <+: t).length_le
    simp at this
    omega
theorem refD_wide {t : Str} {at_ b most n w : Nat} (h : refD t at_ b most = some (n, w)) : 1 ≤ w ∧ w ≤ t.length := by
  unfold refD at h
  dsimp only at h
  split at h
  · cases h
  · rename_i hc
    simp only [not_or, ne_eq] at hc
    have := (List.getElem?_eq_some_iff.1 (Decidable.not_not.1 hc.2.2)).1
    simp only [Option.some.injEq, Prod.mk.injEq] at h
    omega
theorem refAt_wide {t : Str} {n w : Nat} (h : refAt t = some (n, w)) : 1 ≤ w ∧ w ≤ t.length := by
  unfold refAt at h
  cases hn : refNm t with
  | some x => rw [hn] at h; simp only [Option.some.injEq] at h; subst h; exact refNm_wide hn
  | none =>
    rw [hn] at h
    match t, h with
    | a :: g :: x :: r, h =>
      dsimp only at h
      split at h
      · split at h <;> exact refD_wide h
      · cases h
/-- The text with its references turned to letters. -/
def unF : Nat → Str → Str
  | 0, _ => []
  | _ + 1, [] => []
  | n + 1, c :: r => match refAt (c :: r) with
    | some (x, w) => Lib.encodeRune x ++ unF n ((c :: r).drop w)
    | none => c :: unF n r
def un (t : Str) : Str := unF t.length t
theorem unF_fuel : ∀ (n m : Nat) (t : Str), t.length ≤ n → t.length ≤ m → unF n t = unF m t
  | 0, m, [], _, _ => by cases m <;> rfl
  | n + 1, 0, [], _, _ => rfl
  | n + 1, m + 1, [], _, _ => rfl
  | n + 1, m + 1, c :: r, hn, hm => by
    simp only [List.length_cons] at hn hm
    simp only [unF]
    cases h : refAt (c :: r) with
    | none => simp only; rw [unF_fuel n m r (by omega) (by omega)]
    | some x =>
      obtain ⟨x, w⟩ := x
      have := refAt_wide h
      simp only [List.length_cons] at this
      simp only
      rw [unF_fuel n m _ (by simp; omega) (by simp; omega)]
theorem un_nil : un [] = [] := rfl
theorem un_some {t : Str} {n w : Nat} (h : refAt t = some (n, w)) : un t = Lib.encodeRune n ++ un (t.drop w) := by
  have hw := refAt_wide h
  match t, hw with
  | c :: r, hw =>
    simp only [List.length_cons] at hw
    show unF (r.length + 1) (c :: r) = _
    rw [unF, h]
    dsimp only
    rw [un, unF_fuel r.length _ _ (by simp; omega) (Nat.le_refl _)]
theorem un_none {c : UInt8} {r : Str} (h : refAt (c :: r) = none) : un (c :: r) = c :: un r := by
  show unF (r.length + 1) (c :: r) = _
  rw [unF, h]
  rfl
theorem fixN_letter (n : Nat) : fixN n ≤ 1114111 ∧ (fixN n < 55296 ∨ fixN n > 57343) := by
  unfold fixN
  split
  · omega
  · rename_i h
    simp only [not_or, Decidable.not_not] at h
    exact h.2
theorem refNm_letter {t : Str} {n w : Nat} (h : refNm t = some (n, w)) : n ≤ 1114111 ∧ (n < 55296 ∨ n > 57343) := by
  unfold refNm at h
  cases hf : names.find? fun p => (38 :: p.1 ++ [59]).isPrefixOf t with
  | none => rw [hf] at h; cases h
  | some p =>
    simp only [hf, Option.map_some, Option.some.injEq, Prod.mk.injEq] at h
    have hm := List.mem_of_find?_eq_some hf
    simp only [names, List.mem_cons, List.not_mem_nil, or_false] at hm
    rw [← h.1]
    rcases hm with rfl | rfl | rfl | rfl | rfl | rfl <;> decide
theorem refD_letter {t : Str} {at_ b most n w : Nat} (h : refD t at_ b most = some (n, w)) : n ≤ 1114111 ∧ (n < 55296 ∨ n > 57343) := by
  unfold refD at h
  dsimp only at h
  split at h
  · cases h
  · simp only [Option.some.injEq, Prod.mk.injEq] at h
    rw [← h.1]
    exact fixN_letter _
theorem refAt_letter {t : Str} {n w : Nat} (h : refAt t = some (n, w)) : n ≤ 1114111 ∧ (n < 55296 ∨ n > 57343) := by
  unfold refAt at h
  cases hn : refNm t with
  | some x => rw [hn] at h; simp only [Option.some.injEq] at h; subst h; exact refNm_letter hn
  | none =>
    rw [hn] at h
    match t, h with
    | a :: g :: x :: r, h =>
      dsimp only at h
      split at h
      · split at h <;> exact refD_letter h
      · cases h
/-! For the walks. -/
theorem val_snoc (b : Nat) (l : Str) (x : UInt8) : val b (l ++ [x]) = val b l * b + digN x := by simp [val, List.foldl_append]
theorem val_lt' {b : Nat} : ∀ (l : Str) (a : Nat), l.all (okD b) = true → l.foldl (fun n c => n * b + digN c) a < (a + 1) * b ^ l.length
  | [], a, _ => by simp
  | x :: l, a, h => by
    simp only [List.all_cons, Bool.and_eq_true] at h
    have h1 := val_lt' l (a * b + digN x) h.2
    have h2 : digN x < b := by simpa [okD] using h.1
    simp only [List.foldl_cons, List.length_cons, Nat.pow_succ]
    have h3 : a * b + digN x + 1 ≤ (a + 1) * b := by rw [Nat.add_mul]; omega
    have h4 : (a * b + digN x + 1) * b ^ l.length ≤ (a + 1) * b * b ^ l.length := Nat.mul_le_mul_right _ h3
    have h5 : (a + 1) * (b ^ l.length * b) = (a + 1) * b * b ^ l.length := by rw [Nat.mul_assoc, Nat.mul_comm b]
    omega
theorem val_lt {b : Nat} (l : Str) (h : l.all (okD b) = true) : val b l < b ^ l.length := by
  have := val_lt' l 0 h
  simpa [val] using this
theorem val_le {b : Nat} (hb : b ≤ 16) (h0 : 0 < b) {l : Str} (h : l.all (okD b) = true) (hl : l.length ≤ 8) : val b l < 4294967296 := by
  have h1 := val_lt l h
  have h2 : b ^ l.length ≤ 16 ^ l.length := Nat.pow_le_pow_left hb _
  have h3 : 16 ^ l.length ≤ 16 ^ 8 := Nat.pow_le_pow_right (by omega) hl
  omega
theorem tw_lt {p : UInt8 → Bool} : ∀ {l : Str} {k : Nat}, k ≤ (l.takeWhile p).length → (k < (l.takeWhile p).length ↔ ∃ x, l[k]? = some x ∧ p x = true)
  | [], k, _ => by simp
  | y :: l, k, h => by
    by_cases hy : p y = true
    · simp only [List.takeWhile, hy] at h ⊢
      cases k with
      | zero => simp [hy]
      | succ k =>
        have ih := tw_lt (p := p) (l := l) (k := k) (by simpa using h)
        simpa using ih
    · have hy' : p y = false := by simpa using hy
      simp only [List.takeWhile, hy'] at h ⊢
      obtain rfl : k = 0 := by simpa using h
      simp [hy']
theorem tw_get {p : UInt8 → Bool} : ∀ {l : Str} {k : Nat}, k < (l.takeWhile p).length → (l.takeWhile p)[k]? = l[k]?
  | [], k, h => by simp at h
  | y :: l, k, h => by
    by_cases hy : p y = true
    · simp only [List.takeWhile, hy] at h ⊢
      cases k with
      | zero => rfl
      | succ k => simpa using tw_get (p := p) (l := l) (k := k) (by simpa using h)
    · have hy' : p y = false := by simpa using hy
      simp [List.takeWhile, hy'] at h
theorem tw_all {p : UInt8 → Bool} : ∀ (l : Str), (l.takeWhile p).all p = true
  | [] => rfl
  | y :: l => by
    by_cases hy : p y = true
    · simp [List.takeWhile, hy, tw_all l]
    · have hy' : p y = false := by simpa using hy
      simp [List.takeWhile, hy']
theorem all_take {p : UInt8 → Bool} {l : Str} (h : l.all p = true) (k : Nat) : (l.take k).all p = true := by
  rw [List.all_eq_true] at h ⊢
  exact fun x hx => h x (List.mem_of_mem_take hx)
theorem tw_le (p : UInt8 → Bool) : ∀ (l : Str), (l.takeWhile p).length ≤ l.length
  | [] => by simp
  | y :: l => by
    have := tw_le p l
    by_cases hy : p y = true
    · simp [List.takeWhile, hy]; omega
    · have hy' : p y = false := by simpa using hy
      simp [List.takeWhile, hy']
theorem pre_take {n t : Str} : n.isPrefixOf t = true ↔ n.length ≤ t.length ∧ t.take n.length = n := by
  rw [List.isPrefixOf_iff_prefix, List.prefix_iff_eq_take]
  constructor
  · intro h
    have := congrArg List.length h
    simp at this
    exact ⟨by omega, h.symm⟩
  · exact fun h => h.2.symm
end Go.VL.RefU
