/- Nodes told as runs with marks, in plain Lean. -/
import Derived.Test.YtdiflegjgikpeaaDoorVMarks
set_option linter.unusedVariables false
set_option linter.unusedSimpArgs false
namespace Go.VL
open Go
/-- What comes ahead of something else. -/
def contM (o : List Run) (p : List Run × Int) : List Run × Int := if p.2 = 0 then (o ++ p.1, 0) else ([], p.2)
def oddN (a : Str) (b : List Attr) (c : Str) (ps : List Nd) : Prop := 0 < b.length ∨ (a = [] ∧ 0 < ps.length) ∨ (a ≠ [] ∧ c ≠ [])
instance (a : Str) (b : List Attr) (c : Str) (ps : List Nd) : Decidable (oddN a b c ps) := by unfold oddN; infer_instance
mutual
def flN (marks : List Str) (w : List Str) : Nd → List Run × Int
  | .mk a b c ps => if oddN a b c ps then ([], 4) else if a = [] then ([⟨c, w⟩], 0) else if marks.any (a == ·) then flL marks (w ++ [a]) ps else ([], 5)
def flL (marks : List Str) (w : List Str) : List Nd → List Run × Int
  | [] => ([], 0)
  | n :: r => if (flN marks w n).2 = 0 then contM (flN marks w n).1 (flL marks w r) else ([], (flN marks w n).2)
end
theorem contM_nil (p : List Run × Int) (h : p.2 ≠ 0 → p.1 = []) : contM [] p = p := by
  obtain ⟨x, e⟩ := p
  unfold contM
  by_cases he : e = 0
  · simp [he]
  · have : x = [] := h he; subst this; simp [he]
theorem contM_two (o x : List Run) (p : List Run × Int) : contM o (contM x p) = contM (o ++ x) p := by
  obtain ⟨y, e⟩ := p
  unfold contM
  by_cases he : e = 0 <;> simp [he]
mutual
theorem flN_err (marks : List Str) : ∀ (n : Nd) (w : List Str), (flN marks w n).2 ≠ 0 → (flN marks w n).1 = []
  | .mk a b c ps, w => by
    unfold flN
    split
    · simp
    · split
      · simp
      · split
        · exact flL_err marks ps _
        · simp
theorem flL_err (marks : List Str) : ∀ (l : List Nd) (w : List Str), (flL marks w l).2 ≠ 0 → (flL marks w l).1 = []
  | [], w => by simp [flL]
  | n :: r, w => by
    unfold flL
    split
    · unfold contM; split <;> simp
    · simp
end
theorem flL_drop {marks w : List Str} {l : List Nd} {i : Nat} {n : Nd} (h : l[i]? = some n) : flL marks w (l.drop i) = if (flN marks w n).2 = 0 then contM (flN marks w n).1 (flL marks w (l.drop (i + 1))) else ([], (flN marks w n).2) := by
  obtain ⟨h1, h2⟩ := List.getElem?_eq_some_iff.mp h
  rw [List.drop_eq_getElem_cons h1, h2, flL]
/-- What comes of the whole is told by what is left. -/
def leftM (marks w : List Str) (l : List Nd) (i : Nat) (o : List Run) : Prop := flL marks w l = contM o (flL marks w (l.drop i))
theorem leftM_start (marks w : List Str) (l : List Nd) : leftM marks w l 0 [] := by
  unfold leftM
  rw [List.drop_zero, contM_nil _ (flL_err marks l w)]
theorem leftM_done {marks w : List Str} {l : List Nd} {i : Nat} {o : List Run} (h : leftM marks w l i o) (hi : l.length ≤ i) : flL marks w l = (o, 0) := by
  unfold leftM at h
  rw [List.drop_eq_nil_of_le hi, flL] at h
  rw [h]; simp [contM]
theorem leftM_stop {marks w : List Str} {l : List Nd} {i : Nat} {o : List Run} {n : Nd} {e : Int} (h : leftM marks w l i o) (hn : l[i]? = some n) (he : (flN marks w n).2 = e) (h0 : e ≠ 0) : flL marks w l = ([], e) := by
  unfold leftM at h
  rw [flL_drop hn, if_neg (by rw [he]; exact h0), he] at h
  rw [h]; simp [contM, h0]
theorem leftM_next {marks w : List Str} {l : List Nd} {i : Nat} {o x : List Run} {n : Nd} (h : leftM marks w l i o) (hn : l[i]? = some n) (he : flN marks w n = (x, 0)) : leftM marks w l (i + 1) (o ++ x) := by
  unfold leftM at h ⊢
  rw [flL_drop hn, he] at h
  rw [h, if_pos rfl, contM_two]
theorem flN_odd {marks w : List Str} {a : Str} {b : List Attr} {c : Str} {ps : List Nd} (h : oddN a b c ps) : flN marks w (.mk a b c ps) = ([], 4) := by rw [flN, if_pos h]
theorem flN_text {marks w : List Str} {b : List Attr} {c : Str} {ps : List Nd} (h : ¬ oddN [] b c ps) : flN marks w (.mk [] b c ps) = ([⟨c, w⟩], 0) := by rw [flN, if_neg h, if_pos rfl]
theorem flN_none {marks w : List Str} {a : Str} {b : List Attr} {c : Str} {ps : List Nd} (h : ¬ oddN a b c ps) (ha : ¬ a = []) (hm : marks.any (a == ·) = false) : flN marks w (.mk a b c ps) = ([], 5) := by rw [flN, if_neg h, if_neg ha, if_neg (by rw [hm]; simp)]
theorem flN_elem {marks w : List Str} {a : Str} {b : List Attr} {c : Str} {ps : List Nd} (h : ¬ oddN a b c ps) (ha : ¬ a = []) (hm : marks.any (a == ·) = true) : flN marks w (.mk a b c ps) = flL marks (w ++ [a]) ps := by rw [flN, if_neg h, if_neg ha, if_pos hm]
mutual
theorem flN_len (marks : List Str) : ∀ (n : Nd) (w : List Str), (flN marks w n).1.length ≤ n.sz ∧ totM (flN marks w n).1 ≤ szL n.d ∧ ∀ r ∈ (flN marks w n).1, r.marks.length ≤ w.length + n.sz
  | .mk a b c ps, w => by
    have ih := flL_len marks ps (w ++ [a])
    rw [List.length_append, List.length_cons, List.length_nil] at ih
    simp only [Nd.sz, Nd.d, szL, szD]
    unfold flN
    split
    · simp [totM]
    · split
      · simp [totM]; omega
      · split
        · obtain ⟨h1, h2, h3⟩ := ih
          exact ⟨by omega, by omega, fun r hr => by have := h3 r hr; omega⟩
        · simp [totM]
theorem flL_len (marks : List Str) : ∀ (l : List Nd) (w : List Str), (flL marks w l).1.length ≤ szs l ∧ totM (flL marks w l).1 ≤ szLL (nds l) ∧ ∀ r ∈ (flL marks w l).1, r.marks.length ≤ w.length + szs l
  | [], w => by simp [flL, totM]
  | n :: r, w => by
    obtain ⟨h1, h2, h3⟩ := flN_len marks n w
    obtain ⟨k1, k2, k3⟩ := flL_len marks r w
    unfold flL
    simp only [szs, nds, szLL]
    split
    · unfold contM
      split
      · simp only [List.length_append, totM_app]
        refine ⟨by omega, by omega, fun q hq => ?_⟩
        rcases List.mem_append.mp hq with h | h
        · have := h3 q h; omega
        · have := k3 q h; omega
      · simp [totM]
    · simp [totM]
end
def flatA (marks : List Str) (l : List Nd) : List Run × Int := if chkM marks ≠ 0 then ([], chkM marks) else if (flL marks [] l).2 ≠ 0 then ([], (flL marks [] l).2) else normA marks (flL marks [] l).1
end Go.VL
