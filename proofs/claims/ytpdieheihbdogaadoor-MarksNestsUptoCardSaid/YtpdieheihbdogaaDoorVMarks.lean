/- Runs of text with marks, in plain Lean: by runs, and letter by letter. -/
import Derived.Test.YtpdieheihbdogaaDoorVName
import Derived.Test.YtpdieheihbdogaaDoorVTy4
import Derived.Lib.Strings
import Derived.Lib.FieldsLaws
set_option linter.unusedVariables false
set_option linter.unusedSimpArgs false
namespace Go.VL
open Go
def oddT : Str := [98, 114, 32, 104, 114, 32, 105, 109, 103, 32, 105, 110, 112, 117, 116, 32, 115, 99, 114, 105, 112, 116, 32, 115, 116, 121, 108, 101, 32, 116, 101, 120, 116, 97, 114, 101, 97, 32, 116, 105, 116, 108, 101]
def oddL : List Str := [[98, 114], [104, 114], [105, 109, 103], [105, 110, 112, 117, 116], [115, 99, 114, 105, 112, 116], [115, 116, 121, 108, 101], [116, 101, 120, 116, 97, 114, 101, 97], [116, 105, 116, 108, 101]]
theorem odd_eq : Lib.fields oddT = oddL := by decide
theorem odd_low : ∀ b ∈ oddT, b.toNat < 128 := by decide
def badM (m : Str) : Bool := !nameB m || oddL.any (m == ·)
def dupM (l : List Str) (j : Nat) : Bool := match l[j]? with | some m => (l.take j).any (m == ·) | none => false
def chkM (l : List Str) : Int := if l.length > 4 then 1 else if l.any badM then 5 else if (List.range l.length).any (dupM l) then 8 else 0
theorem dupM_at {l : List Str} {j : Nat} {m : Str} (h : l[j]? = some m) : dupM l j = (l.take j).any (m == ·) := by simp [dupM, h]
theorem dup_yes {l : List Str} {j : Nat} (hj : j < l.length) (h : dupM l j = true) : (List.range l.length).any (dupM l) = true := List.any_eq_true.mpr ⟨j, List.mem_range.mpr hj, h⟩
theorem dup_no {l : List Str} (h : ∀ j, j < l.length → dupM l j = false) : (List.range l.length).any (dupM l) = false := List.any_eq_false.mpr fun j hj => by simp [h j (List.mem_range.mp hj)]
theorem dup_pair {l : List Str} {i k : Nat} {m : Str} (hk : k < i) (h1 : l[i]? = some m) (h2 : l[k]? = some m) : (List.range l.length).any (dupM l) = true := by
  refine dup_yes (List.getElem?_eq_some_iff.mp h1).1 ?_
  rw [dupM_at h1]
  exact List.any_eq_true.mpr ⟨m, List.mem_of_getElem? (i := k) (by rw [List.getElem?_take]; simp [hk, h2]), by simp⟩
theorem dup_two {l : List Str} {i k : Nat} {m : Str} (hk : i ≠ k) (h1 : l[i]? = some m) (h2 : l[k]? = some m) : (List.range l.length).any (dupM l) = true := by
  rcases Nat.lt_or_gt_of_ne hk with h | h
  · exact dup_pair h h2 h1
  · exact dup_pair h h1 h2
theorem dup_none {l : List Str} (h : ∀ (i k : Nat) (m : Str), i ≠ k → l[i]? = some m → l[k]? = some m → False) : (List.range l.length).any (dupM l) = false := dup_no fun j hj => by
  obtain ⟨m, hm⟩ : ∃ m, l[j]? = some m := ⟨l[j], by simp [hj]⟩
  rw [dupM_at hm, List.any_eq_false]
  intro x hx
  obtain ⟨k, hk⟩ := List.getElem?_of_mem hx
  rw [List.getElem?_take] at hk
  split at hk
  · rename_i hlt
    simp only [beq_iff_eq]
    rintro rfl
    exact h j k m (by omega) hm hk
  · cases hk
theorem chkM_nodup {l : List Str} (h : chkM l = 0) : l.length ≤ 4 ∧ l.Nodup := by
  unfold chkM at h
  split at h
  · cases h
  · split at h
    · cases h
    · split at h
      · cases h
      · rename_i h1 h2 h3
        refine ⟨by omega, List.pairwise_iff_getElem.mpr fun i j hi hj hij he => h3 ?_⟩
        exact dup_two (i := i) (k := j) (m := l[i]) (by omega) (by simp [hi]) (by simp [hj, he])

/-- The marks of a run, in the order of the line's. -/
def nmd (marks ms : List Str) : List Str := marks.filter fun m => ms.any (m == ·)
def okM (marks : List Str) (r : Run) : Bool := r.marks.all fun m => marks.any (m == ·)
def addM (out : List Run) (q : Run) : List Run := if q.text = [] then out else out ++ [q]
def stepM (marks : List Str) (out : List Run) (r : Run) : List Run :=
  match out.getLast? with
  | some q => if q.marks = nmd marks r.marks then out.dropLast ++ [⟨q.text ++ r.text, q.marks⟩] else addM out ⟨r.text, nmd marks r.marks⟩
  | none => addM out ⟨r.text, nmd marks r.marks⟩
def normM (marks : List Str) (l : List Run) : List Run := l.foldl (stepM marks) []
def normF (marks : List Str) (l : List Run) : List Run × Int := if l.all (okM marks) then (normM marks l, 0) else ([], 5)
def fltM (marks : List Str) (l : List Run) : Int := if chkM marks ≠ 0 then chkM marks else if l.length > 60 then 1 else 0
def normA (marks : List Str) (l : List Run) : List Run × Int := if fltM marks l ≠ 0 then ([], fltM marks l) else normF marks l
theorem fltM_bad {marks : List Str} (l : List Run) (h : ¬ chkM marks = 0) : fltM marks l = chkM marks := by rw [fltM, if_pos h]
theorem fltM_long {marks : List Str} {l : List Run} (h : chkM marks = 0) (hl : l.length > 60) : fltM marks l = 1 := by rw [fltM, if_neg (by simp [h]), if_pos hl]
theorem fltM_ok {marks : List Str} {l : List Run} (h : chkM marks = 0) (hl : ¬ l.length > 60) : fltM marks l = 0 := by rw [fltM, if_neg (by simp [h]), if_neg hl]
theorem fltM_zero {marks : List Str} {l : List Run} (h : fltM marks l = 0) : chkM marks = 0 ∧ ¬ l.length > 60 := by
  by_cases h0 : chkM marks = 0
  · by_cases h1 : l.length > 60
    · rw [fltM_long h0 h1] at h; cases h
    · exact ⟨h0, h1⟩
  · rw [fltM_bad l h0] at h; exact absurd h h0
theorem normA_bad {marks : List Str} {l : List Run} (h : ¬ fltM marks l = 0) : normA marks l = ([], fltM marks l) := by rw [normA, if_pos h]
theorem normA_ok {marks : List Str} {l : List Run} (h : fltM marks l = 0) : normA marks l = normF marks l := by rw [normA, if_neg (by simp [h])]

/-- Letter by letter. -/
def tagM (marks : List Str) (l : List Run) : List (UInt8 × List Str) := l.flatMap fun r => r.text.map fun c => (c, nmd marks r.marks)
def gstep (out : List Run) (b : UInt8 × List Str) : List Run :=
  match out.getLast? with
  | some q => if q.marks = b.2 then out.dropLast ++ [⟨q.text ++ [b.1], q.marks⟩] else out ++ [⟨[b.1], b.2⟩]
  | none => out ++ [⟨[b.1], b.2⟩]
def grp (l : List (UInt8 × List Str)) : List Run := l.foldl gstep []

theorem gfold {M : List Str} : ∀ (t : Str) (x : Str) (out : List Run), (t.map fun c => (c, M)).foldl gstep (out ++ [⟨x, M⟩]) = out ++ [⟨x ++ t, M⟩]
  | [], x, out => by simp
  | c :: t, x, out => by
    simp only [List.map_cons, List.foldl_cons]
    have : gstep (out ++ [⟨x, M⟩]) (c, M) = out ++ [⟨x ++ [c], M⟩] := by simp [gstep]
    rw [this, gfold t]
    simp
theorem gstep_run (marks : List Str) (out : List Run) (r : Run) : (r.text.map fun c => (c, nmd marks r.marks)).foldl gstep out = stepM marks out r := by
  obtain ⟨t, ms⟩ := r
  generalize hM : nmd marks ms = M
  rcases List.eq_nil_or_concat out with rfl | ⟨o, q, rfl⟩
  · cases t with
    | nil => simp [stepM, addM]
    | cons c t =>
      have h : gstep [] (c, M) = [] ++ [⟨[c], M⟩] := by simp [gstep]
      simp only [List.map_cons, List.foldl_cons, h, gfold]
      simp [stepM, addM, hM]
  · rw [List.concat_eq_append]
    by_cases hq : q.marks = M
    · obtain ⟨x, ms'⟩ := q
      simp only at hq
      subst hq
      rw [gfold]
      simp [stepM, hM]
    · cases t with
      | nil => simp [stepM, addM, hM, hq]
      | cons c t =>
        have h : gstep (o ++ [q]) (c, M) = (o ++ [q]) ++ [⟨[c], M⟩] := by simp [gstep, hq]
        simp only [List.map_cons, List.foldl_cons, h, gfold]
        simp [stepM, addM, hM, hq]
theorem grp_tag_from (marks : List Str) : ∀ (l : List Run) (out : List Run), (tagM marks l).foldl gstep out = l.foldl (stepM marks) out
  | [], out => rfl
  | r :: l, out => by
    simp only [tagM, List.flatMap_cons, List.foldl_append, List.foldl_cons]
    rw [gstep_run]
    exact grp_tag_from marks l _
theorem grp_tag (marks : List Str) (l : List Run) : grp (tagM marks l) = normM marks l := grp_tag_from marks l []
theorem grp_succ {L : List (UInt8 × List Str)} {i : Nat} {b : UInt8 × List Str} (h : L[i]? = some b) : grp (L.take (i + 1)) = gstep (grp (L.take i)) b := by
  rw [List.take_add_one, h]
  simp [grp, List.foldl_append]
theorem gstep_last (out : List Run) (b : UInt8 × List Str) : ∃ q, (gstep out b).getLast? = some q ∧ q.marks = b.2 := by
  unfold gstep
  cases h : out.getLast? with
  | none => exact ⟨_, by simp; rfl, rfl⟩
  | some q =>
    simp only
    split
    · rename_i hq
      exact ⟨⟨q.text ++ [b.1], q.marks⟩, by simp, hq⟩
    · exact ⟨⟨[b.1], b.2⟩, by simp, rfl⟩
theorem grp_last {L : List (UInt8 × List Str)} {i : Nat} {b : UInt8 × List Str} (h : L[i]? = some b) : ∃ q, (grp (L.take (i + 1))).getLast? = some q ∧ q.marks = b.2 := by
  rw [grp_succ h]; exact gstep_last _ _

/-- A set of marks as a number. -/
def setN : List Str → (Str → Bool) → Nat
  | [], _ => 0
  | x :: r, p => 2 * setN r p + (if p x then 1 else 0)
theorem setN_cons (x : Str) (r : List Str) (p : Str → Bool) : setN (x :: r) p = 2 * setN r p + (if p x then 1 else 0) := rfl
theorem setN_bit (p : Str → Bool) : ∀ (l : List Str) (k : Nat), (setN l p).testBit k = match l[k]? with | some x => p x | none => false
  | [], k => by simp [setN]
  | x :: r, 0 => by cases h : p x <;> simp [setN, h, Nat.testBit_zero]
  | x :: r, k + 1 => by
    rw [Nat.testBit_succ]
    have : setN (x :: r) p / 2 = setN r p := by rw [setN_cons]; split <;> omega
    rw [this, setN_bit p r k]
    simp
theorem setN_lt (p : Str → Bool) : ∀ (l : List Str), setN l p < 2 ^ l.length
  | [] => by simp [setN]
  | x :: r => by
    have := setN_lt p r
    rw [setN_cons, List.length_cons, Nat.pow_succ]
    split <;> omega
theorem nodup_at {l : List Str} (h : l.Nodup) {i j : Nat} (hi : i < l.length) (hj : j < l.length) (he : l[i] = l[j]) : i = j := by
  rcases Nat.lt_trichotomy i j with hlt | heq | hlt
  · exact absurd he ((List.pairwise_iff_getElem.mp h) i j hi hj hlt)
  · exact heq
  · exact absurd he.symm ((List.pairwise_iff_getElem.mp h) j i hj hi hlt)
theorem setN_none {l : List Str} {p : Str → Bool} (h : ∀ x ∈ l, p x = false) : setN l p = 0 := by
  induction l with
  | nil => rfl
  | cons x r ih => simp [setN, h x (by simp), ih fun y hy => h y (by simp [hy])]
theorem setN_add {l : List Str} {p q : Str → Bool} {k : Nat} {m : Str} (hn : l.Nodup) (hk : l[k]? = some m) (hq : ∀ x, q x = (p x || (x == m))) : setN l q = setN l p ||| 2 ^ k := by
  apply Nat.eq_of_testBit_eq
  intro j
  rw [Nat.testBit_or, setN_bit, setN_bit, Nat.testBit_two_pow]
  cases hj : l[j]? with
  | none =>
    have : k ≠ j := fun e => by subst e; rw [hk] at hj; cases hj
    simp [this]
  | some x =>
    simp only [hq]
    congr 1
    by_cases he : k = j
    · subst he; rw [hk] at hj; cases hj; simp
    · have : x ≠ m := fun e => he (by
        subst e
        obtain ⟨h1, h2⟩ := List.getElem?_eq_some_iff.mp hk
        obtain ⟨h3, h4⟩ := List.getElem?_eq_some_iff.mp hj
        exact nodup_at hn h1 h3 (h2.trans h4.symm))
      simp [this, he]
theorem setN_inj {l : List Str} {p q : Str → Bool} (h : setN l p = setN l q) : ∀ x ∈ l, p x = q x := fun x hx => by
  obtain ⟨k, hk⟩ := List.getElem?_of_mem hx
  have := congrArg (·.testBit k) h
  simp only [setN_bit, hk] at this
  exact this
theorem nmd_self (marks ms : List Str) : nmd marks (nmd marks ms) = nmd marks ms := by
  unfold nmd
  apply List.filter_congr
  intro x hx
  rw [Bool.eq_iff_iff]
  simp only [List.any_eq_true, List.mem_filter, beq_iff_eq]
  constructor
  · rintro ⟨y, ⟨_, z, hz, h1⟩, rfl⟩; exact ⟨z, hz, h1⟩
  · rintro ⟨y, hy, rfl⟩; exact ⟨x, ⟨hx, x, hy, rfl⟩, rfl⟩
/-- The number of a list of marks. -/
def setM (marks ms : List Str) : Nat := setN marks fun m => ms.any (m == ·)
theorem setM_inj {marks a b : List Str} (ha : nmd marks a = a) (hb : nmd marks b = b) : setM marks a = setM marks b ↔ a = b := by
  constructor
  · intro h
    rw [← ha, ← hb]
    exact List.filter_congr (setN_inj h)
  · rintro rfl; rfl
theorem setM_lt (marks ms : List Str) (h : marks.length ≤ 4) : setM marks ms < 16 := Nat.lt_of_lt_of_le (setN_lt _ _) (Nat.pow_le_pow_right (by omega : 2 > 0) h)
theorem setM_nmd (marks ms : List Str) : setM marks (nmd marks ms) = setM marks ms := by
  apply Nat.eq_of_testBit_eq
  intro j
  unfold setM
  rw [setN_bit, setN_bit]
  cases hj : marks[j]? with
  | none => rfl
  | some x =>
    simp only
    have hx := List.mem_of_getElem? hj
    rw [Bool.eq_iff_iff]
    simp only [nmd, List.any_eq_true, List.mem_filter, beq_iff_eq]
    constructor
    · rintro ⟨y, ⟨_, z, hz, h1⟩, rfl⟩; exact ⟨z, hz, h1⟩
    · rintro ⟨y, hy, rfl⟩; exact ⟨x, ⟨hx, x, hy, rfl⟩, rfl⟩
theorem setM_nil (marks : List Str) : setM marks [] = 0 := setN_none fun _ _ => rfl
theorem setM_add {marks ms : List Str} {k : Nat} {m : Str} (hn : marks.Nodup) (hk : marks[k]? = some m) : setM marks (ms ++ [m]) = setM marks ms ||| 2 ^ k := setN_add hn hk fun x => by simp [List.any_append]
theorem setM_bit {marks ms : List Str} {k : Nat} {m : Str} (hk : marks[k]? = some m) : (setM marks ms).testBit k = ms.any (m == ·) := by unfold setM; rw [setN_bit, hk]
theorem tag_self {marks : List Str} {l : List Run} {b : UInt8 × List Str} (h : b ∈ tagM marks l) : nmd marks b.2 = b.2 := by
  unfold tagM at h
  obtain ⟨r, _, h⟩ := List.mem_flatMap.mp h
  obtain ⟨c, _, rfl⟩ := List.mem_map.mp h
  exact nmd_self _ _
theorem stepM_nil (marks : List Str) (r : Run) : stepM marks [] r = addM [] ⟨r.text, nmd marks r.marks⟩ := rfl
theorem stepM_same {marks : List Str} (o : List Run) {q r : Run} (h : q.marks = nmd marks r.marks) : stepM marks (o ++ [q]) r = o ++ [⟨q.text ++ r.text, q.marks⟩] := by simp [stepM, h]
theorem stepM_else {marks : List Str} (o : List Run) {q r : Run} (h : ¬ q.marks = nmd marks r.marks) : stepM marks (o ++ [q]) r = addM (o ++ [q]) ⟨r.text, nmd marks r.marks⟩ := by simp [stepM, h]
theorem addM_nil (o : List Run) {q : Run} (h : q.text = []) : addM o q = o := by simp [addM, h]
theorem addM_some (o : List Run) {q : Run} (h : ¬ q.text = []) : addM o q = o ++ [q] := by simp [addM, h]
/-- How many letters. -/
def totM (l : List Run) : Nat := (l.map fun r => r.text.length).sum
theorem totM_app (a b : List Run) : totM (a ++ b) = totM a + totM b := by simp [totM]
theorem totM_one (r : Run) : totM [r] = r.text.length := by simp [totM]
theorem totM_mem {l : List Run} {q : Run} (h : q ∈ l) : q.text.length ≤ totM l := by
  obtain ⟨a, b, rfl⟩ := List.append_of_mem h
  simp [totM]; omega
theorem addM_tot (o : List Run) (q : Run) : totM (addM o q) = totM o + q.text.length := by
  unfold addM; split
  · rename_i h; simp [h]
  · rw [totM_app, totM_one]
theorem addM_len (o : List Run) (q : Run) : (addM o q).length ≤ o.length + 1 := by unfold addM; split <;> simp
theorem stepM_tot (marks : List Str) (o : List Run) (r : Run) : totM (stepM marks o r) = totM o + r.text.length := by
  rcases List.eq_nil_or_concat o with rfl | ⟨o, q, rfl⟩
  · rw [stepM_nil, addM_tot]
  · rw [List.concat_eq_append]
    by_cases h : q.marks = nmd marks r.marks
    · rw [stepM_same o h, totM_app, totM_app, totM_one, totM_one]; simp; omega
    · rw [stepM_else o h, addM_tot]
theorem stepM_len (marks : List Str) (o : List Run) (r : Run) : (stepM marks o r).length ≤ o.length + 1 := by
  rcases List.eq_nil_or_concat o with rfl | ⟨o, q, rfl⟩
  · rw [stepM_nil]; exact addM_len _ _
  · rw [List.concat_eq_append]
    by_cases h : q.marks = nmd marks r.marks
    · rw [stepM_same o h]; simp
    · rw [stepM_else o h]; exact addM_len _ _
theorem normM_succ (marks : List Str) {l : List Run} {i : Nat} {r : Run} (h : l[i]? = some r) : normM marks (l.take (i + 1)) = stepM marks (normM marks (l.take i)) r := by
  rw [List.take_add_one, h]; simp [normM]
theorem totM_succ {l : List Run} {i : Nat} {r : Run} (h : l[i]? = some r) : totM (l.take (i + 1)) = totM (l.take i) + r.text.length := by
  rw [List.take_add_one, h]; simp [totM]
theorem totM_take (l : List Run) (i : Nat) : totM (l.take i) ≤ totM l := by
  have := totM_app (l.take i) (l.drop i)
  rw [List.take_append_drop] at this
  omega
theorem normM_tot (marks : List Str) (l : List Run) : ∀ i, i ≤ l.length → totM (normM marks (l.take i)) = totM (l.take i)
  | 0, _ => by simp [normM, totM]
  | i + 1, h => by
    obtain ⟨r, hr⟩ : ∃ r, l[i]? = some r := ⟨l[i], by simp [show i < l.length by omega]⟩
    rw [normM_succ marks hr, stepM_tot, normM_tot marks l i (by omega), totM_succ hr]
theorem normM_len (marks : List Str) (l : List Run) : ∀ i, i ≤ l.length → (normM marks (l.take i)).length ≤ i
  | 0, _ => by simp [normM]
  | i + 1, h => by
    obtain ⟨r, hr⟩ : ∃ r, l[i]? = some r := ⟨l[i], by simp [show i < l.length by omega]⟩
    have := normM_len marks l i (by omega)
    have := stepM_len marks (normM marks (l.take i)) r
    rw [normM_succ marks hr]; omega
theorem nmd_succ {marks ms : List Str} {k : Nat} {m : Str} (h : marks[k]? = some m) : nmd (marks.take (k + 1)) ms = nmd (marks.take k) ms ++ (if ms.any (m == ·) then [m] else []) := by
  rw [List.take_add_one, h]
  unfold nmd
  rw [List.filter_append]
  congr 1
  simp only [Option.toList, List.filter_cons, List.filter_nil]
theorem nmd_len (marks ms : List Str) : (nmd marks ms).length ≤ marks.length := List.length_filter_le _ _
theorem addM_marks {marks : List Str} {o : List Run} {q : Run} (ho : ∀ x ∈ o, ∃ ms, x.marks = nmd marks ms) (hq : ∃ ms, q.marks = nmd marks ms) : ∀ x ∈ addM o q, ∃ ms, x.marks = nmd marks ms := by
  unfold addM; split
  · exact ho
  · intro x hx
    rcases List.mem_append.mp hx with h | h
    · exact ho x h
    · simp at h; subst h; exact hq
theorem stepM_marks {marks : List Str} {o : List Run} (r : Run) (ho : ∀ x ∈ o, ∃ ms, x.marks = nmd marks ms) : ∀ x ∈ stepM marks o r, ∃ ms, x.marks = nmd marks ms := by
  rcases List.eq_nil_or_concat o with rfl | ⟨o, q, rfl⟩
  · rw [stepM_nil]; exact addM_marks ho ⟨_, rfl⟩
  · rw [List.concat_eq_append] at ho ⊢
    by_cases h : q.marks = nmd marks r.marks
    · rw [stepM_same o h]
      intro x hx
      rcases List.mem_append.mp hx with h' | h'
      · exact ho x (List.mem_append.mpr (.inl h'))
      · simp at h'; subst h'; exact ⟨_, h⟩
    · rw [stepM_else o h]; exact addM_marks ho ⟨_, rfl⟩
theorem normM_marks (marks : List Str) (l : List Run) : ∀ i, i ≤ l.length → ∀ x ∈ normM marks (l.take i), ∃ ms, x.marks = nmd marks ms
  | 0, _ => by simp [normM]
  | i + 1, h => by
    obtain ⟨r, hr⟩ : ∃ r, l[i]? = some r := ⟨l[i], by simp [show i < l.length by omega]⟩
    rw [normM_succ marks hr]
    exact stepM_marks r (normM_marks marks l i (by omega))
theorem orN (s k : Nat) (hs : s < 16) (hk : k < 4) : bitsI .or .i64 (s : Int) (1 * 2 ^ (min k 64)) = ((s ||| 2 ^ k : Nat) : Int) := by
  have h : ∀ (s : Fin 16) (k : Fin 4), bitsI .or .i64 ((s : Nat) : Int) (1 * 2 ^ (min (k : Nat) 64)) = (((s : Nat) ||| 2 ^ (k : Nat) : Nat) : Int) := by decide +kernel
  exact h ⟨s, hs⟩ ⟨k, hk⟩
theorem andN (s k : Nat) (hs : s < 16) (hk : k < 4) : bitsI .and .i64 ((s : Int).fdiv (2 ^ (min k 64))) 1 = if s.testBit k then 1 else 0 := by
  have h : ∀ (s : Fin 16) (k : Fin 4), bitsI .and .i64 (((s : Nat) : Int).fdiv (2 ^ (min (k : Nat) 64))) 1 = if (s : Nat).testBit k then 1 else 0 := by decide +kernel
  exact h ⟨s, hs⟩ ⟨k, hk⟩
theorem powN (k : Nat) (hk : k < 4) : (1 : Int) * 2 ^ (min k 64) ≤ 8 ∧ (1 : Int) ≤ 1 * 2 ^ (min k 64) := by
  have h : ∀ (k : Fin 4), (1 : Int) * 2 ^ (min (k : Nat) 64) ≤ 8 ∧ (1 : Int) ≤ 1 * 2 ^ (min (k : Nat) 64) := by decide +kernel
  exact h ⟨k, hk⟩
/-- The reference's rows: a number a letter; the letters. -/
def setsM (marks : List Str) (L : List (UInt8 × List Str)) : List Int := L.map fun b => ((setM marks b.2 : Nat) : Int)
def textM (L : List (UInt8 × List Str)) : Str := L.map (·.1)
theorem tagM_succ (marks : List Str) {l : List Run} {i : Nat} {r : Run} (h : l[i]? = some r) : tagM marks (l.take (i + 1)) = tagM marks (l.take i) ++ r.text.map fun c => (c, nmd marks r.marks) := by
  rw [List.take_add_one, h]; simp [tagM]
theorem setsM_app (marks : List Str) (A : List (UInt8 × List Str)) (t : Str) (ms : List Str) : setsM marks (A ++ t.map fun c => (c, nmd marks ms)) = setsM marks A ++ List.replicate t.length ((setM marks ms : Nat) : Int) := by
  simp only [setsM, List.map_append, List.map_map]
  congr 1
  rw [List.eq_replicate_iff]
  refine ⟨by simp, fun x hx => ?_⟩
  obtain ⟨c, _, rfl⟩ := List.mem_map.mp hx
  simp only [Function.comp, setM_nmd]
theorem textM_app (A : List (UInt8 × List Str)) (t : Str) (ms : List Str) : textM (A ++ t.map fun c => (c, ms)) = textM A ++ t := by simp [textM, Function.comp_def]
theorem setsM_len (marks : List Str) (L : List (UInt8 × List Str)) : (setsM marks L).length = L.length := by simp [setsM]
theorem textM_len (L : List (UInt8 × List Str)) : (textM L).length = L.length := by simp [textM]
theorem tagM_len (marks : List Str) (l : List Run) : (tagM marks l).length = totM l := by
  induction l with
  | nil => rfl
  | cons r l ih =>
    have : tagM marks (r :: l) = (r.text.map fun c => (c, nmd marks r.marks)) ++ tagM marks l := rfl
    rw [this, List.length_append, ih]; simp [totM]
theorem setM_snoc {marks ms : List Str} {a : Nat} {m : Str} {k : Nat} (hn : marks.Nodup) (h : ms[a]? = some m) (hk : marks[k]? = some m) : setM marks (ms.take (a + 1)) = setM marks (ms.take a) ||| 2 ^ k := by
  rw [List.take_add_one, h]; exact setM_add hn hk
theorem setsM_at (marks : List Str) {L : List (UInt8 × List Str)} {i : Nat} {b : UInt8 × List Str} (h : L[i]? = some b) : (setsM marks L)[i]? = some ((setM marks b.2 : Nat) : Int) := by simp [setsM, h]
theorem textM_at {L : List (UInt8 × List Str)} {i : Nat} {b : UInt8 × List Str} (h : L[i]? = some b) : (textM L)[i]? = some b.1 := by simp [textM, h]
theorem grp_len (L : List (UInt8 × List Str)) : ∀ i, i ≤ L.length → (grp (L.take i)).length ≤ i ∧ totM (grp (L.take i)) = i
  | 0, _ => by simp [grp, totM]
  | i + 1, h => by
    obtain ⟨b, hb⟩ : ∃ b, L[i]? = some b := ⟨L[i], by simp [show i < L.length by omega]⟩
    obtain ⟨h1, h2⟩ := grp_len L i (by omega)
    rw [grp_succ hb]
    generalize grp (L.take i) = O at *
    rcases List.eq_nil_or_concat O with rfl | ⟨o, q, rfl⟩
    · simp [gstep, totM] at *; omega
    · rw [List.concat_eq_append] at *
      simp only [gstep, List.getLast?_concat]
      split
      · simp only [List.dropLast_concat, totM_app, totM_one, List.length_append, List.length_cons, List.length_nil] at *; omega
      · simp only [totM_app, totM_one, List.length_append, List.length_cons, List.length_nil] at *; omega
theorem totM_sz (l : List Run) : totM l ≤ szLL (l.map Run.d) := by
  induction l with
  | nil => simp [totM]
  | cons r l ih =>
    have h1 : totM (r :: l) = r.text.length + totM l := by simp [totM]
    rw [h1]
    simp only [List.map_cons, szLL, Run.d, szL, szD]
    omega
theorem mem_run {l : List Run} {r : Run} (h : r ∈ l) : r.text.length ≤ szLL (l.map Run.d) ∧ szLL (r.marks.map iS) ≤ szLL (l.map Run.d) := by
  have := szLL_mem (List.mem_map_of_mem (f := Run.d) h)
  simp only [Run.d, szL, szD] at this
  omega
theorem normA_small (marks : List Str) (l : List Run) : (normA marks l).1.length ≤ l.length ∧ ∀ r ∈ (normA marks l).1, r.marks.length ≤ marks.length := by
  unfold normA
  split
  · simp
  · unfold normF
    split
    · have h1 := normM_len marks l l.length (Nat.le_refl _)
      have h2 := normM_marks marks l l.length (Nat.le_refl _)
      rw [List.take_length] at h1 h2
      refine ⟨h1, fun r hr => ?_⟩
      obtain ⟨ms, e⟩ := h2 r hr
      rw [e]; exact nmd_len _ _
    · simp
end Go.VL
