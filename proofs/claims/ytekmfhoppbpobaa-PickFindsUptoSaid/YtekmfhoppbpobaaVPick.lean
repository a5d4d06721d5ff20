/- Elements that are found: by what ends ahead, or by those they stand in. -/
import Derived.Test.YtekmfhoppbpobaaVTree
import Derived.Test.YtekmfhoppbpobaaVShow
set_option linter.unusedVariables false
set_option linter.unusedSimpArgs false
namespace Go.VL
open Go
def atP (p : Pick) (a : Attr) : Bool := a.name == p.attr
def fitP (p : Pick) (n : Nd) : Bool := (p.name == [] || p.name == n.name) && (p.attr == [] || n.attrs.any (atP p))
def endK (l : List Pick) (r w : List Bool) (n : Nd) (k : Nat) : Bool := match l[k]? with
  | some p => ((k == 0) || (p.deep && w.getD (k - 1) false) || (!p.deep && r.getD (k - 1) false)) && fitP p n
  | none => false
def ends (l : List Pick) (r w : List Bool) (n : Nd) : List Bool := (List.range l.length).map (endK l r w n)
def farK (w e : List Bool) (k : Nat) : Bool := w.getD k false || e.getD k false
def far (w e : List Bool) : List Bool := (List.range w.length).map (farK w e)
theorem ends_len (l r w n) : (ends l r w n).length = l.length := by simp [ends]
theorem far_len (w e) : (far w e).length = w.length := by simp [far]
theorem ends_get {l : List Pick} {r w : List Bool} {n : Nd} {k : Nat} (h : k < l.length) : (ends l r w n)[k]? = some (endK l r w n k) := by simp [ends, h]
theorem far_get {w e : List Bool} {k : Nat} (h : k < w.length) : (far w e)[k]? = some (farK w e k) := by simp [far, h]
mutual
def wN (l : List Pick) : Nd → Int → List Int → List Bool → List Bool → List (List Int)
  | .mk a b c ps, i, path, r, w => if a = [] then [] else
    (if (ends l r w (.mk a b c ps)).getLast? = some true then [path ++ [i]] else []) ++ wL l ps 0 (path ++ [i]) (ends l r w (.mk a b c ps)) (far w (ends l r w (.mk a b c ps)))
def wL (l : List Pick) : List Nd → Int → List Int → List Bool → List Bool → List (List Int)
  | [], _, _, _, _ => []
  | n :: q, i, path, r, w => wN l n i path r w ++ wL l q (i + 1) path r w
end
theorem wL_take (l : List Pick) : ∀ {ns : List Nd} {i : Nat} {n : Nd} {k : Int} (path : List Int) (r w : List Bool), ns[i]? = some n → wL l (ns.take (i + 1)) k path r w = wL l (ns.take i) k path r w ++ wN l n (k + i) path r w
  | [], _, _, _, _, _, _, h => by simp at h
  | m :: q, 0, n, k, path, r, w, h => by simp at h; subst h; simp [wL]
  | m :: q, i + 1, n, k, path, r, w, h => by
    have := wL_take l (ns := q) (i := i) (n := n) (k := k + 1) path r w (by simpa using h)
    simp only [List.take_succ_cons, wL, this, List.append_assoc]
    have e : k + 1 + (i : Int) = k + ((i + 1 : Nat) : Int) := by omega
    rw [e]
mutual
theorem wN_len (l : List Pick) : ∀ (n : Nd) (i : Int) (path : List Int) (r w : List Bool), (wN l n i path r w).length ≤ n.sz
  | .mk a b c ps, i, path, r, w => by
    have := wL_len l ps 0 (path ++ [i]) (ends l r w (.mk a b c ps)) (far w (ends l r w (.mk a b c ps)))
    rw [wN]
    simp only [Nd.sz]
    split
    · simp
    · rw [List.length_append]; split <;> simp <;> omega
theorem wL_len (l : List Pick) : ∀ (ns : List Nd) (i : Int) (path : List Int) (r w : List Bool), (wL l ns i path r w).length ≤ szs ns
  | [], _, _, _, _ => by simp [wL]
  | n :: q, i, path, r, w => by
    have h1 := wN_len l n i path r w
    have h2 := wL_len l q (i + 1) path r w
    simp only [wL, szs, List.length_append]; omega
end
mutual
theorem wN_mem (l : List Pick) : ∀ (n : Nd) (i : Int) (path : List Int) (r w : List Bool) (p : List Int), p ∈ wN l n i path r w → p.length ≤ path.length + n.sz
  | .mk a b c ps, i, path, r, w, p, h => by
    have h1 := wL_mem l ps 0 (path ++ [i]) (ends l r w (.mk a b c ps)) (far w (ends l r w (.mk a b c ps))) p
    rw [wN] at h
    simp only [Nd.sz]
    split at h
    · simp at h
    · rcases List.mem_append.mp h with h | h
      · split at h
        · simp at h; subst h; simp <;> omega
        · simp at h
      · have := h1 h
        simp only [List.length_append, List.length_cons, List.length_nil] at this; omega
theorem wL_mem (l : List Pick) : ∀ (ns : List Nd) (i : Int) (path : List Int) (r w : List Bool) (p : List Int), p ∈ wL l ns i path r w → p.length ≤ path.length + szs ns
  | [], _, _, _, _, p, h => by simp [wL] at h
  | n :: q, i, path, r, w, p, h => by
    simp only [szs]
    rw [wL] at h
    rcases List.mem_append.mp h with h | h
    · have := wN_mem l n i path r w p h; omega
    · have := wL_mem l q (i + 1) path r w p h; omega
end
/-- Do the first picks, so many, mean the last of a chain? -/
def meantS (l : List Pick) : Nat → List Nd → Bool
  | 0, _ => false
  | k + 1, ch => match ch.getLast?, l[k]? with
    | some n, some p => fitP p n && ((k == 0) || (if p.deep then (List.range (ch.length - 1)).any (fun j => meantS l k (ch.take (j + 1))) else meantS l k ch.dropLast))
    | _, _ => false
def wAny (l : List Pick) (k : Nat) (ch : List Nd) : Bool := (List.range ch.length).any fun j => meantS l k (ch.take (j + 1))
mutual
def lN (l : List Pick) : Nd → Int → List Nd → List Int → List (List Int)
  | .mk a b c ps, i, ch, path => if a = [] then [] else
    (if meantS l l.length (ch ++ [.mk a b c ps]) = true then [path ++ [i]] else []) ++ lL l ps 0 (ch ++ [.mk a b c ps]) (path ++ [i])
def lL (l : List Pick) : List Nd → Int → List Nd → List Int → List (List Int)
  | [], _, _, _ => []
  | n :: q, i, ch, path => lN l n i ch path ++ lL l q (i + 1) ch path
end
def Rel (l : List Pick) (ch : List Nd) (r w : List Bool) : Prop := w.length = l.length ∧ ∀ k, k < l.length → r.getD k false = meantS l (k + 1) ch ∧ w.getD k false = wAny l (k + 1) ch
theorem meantS_snoc (l : List Pick) (k : Nat) (ch : List Nd) (n : Nd) : meantS l (k + 1) (ch ++ [n]) = match l[k]? with
    | some p => fitP p n && ((k == 0) || (if p.deep then wAny l k ch else meantS l k ch))
    | none => false := by
  rw [meantS]
  simp only [List.getLast?_append, List.getLast?_singleton, Option.some_or, List.dropLast_concat, List.length_append, List.length_cons, List.length_nil, Nat.zero_add, Nat.add_sub_cancel]
  cases l[k]? with
  | none => rfl
  | some p =>
    simp only
    have e : (List.range ch.length).any (fun j => meantS l k ((ch ++ [n]).take (j + 1))) = wAny l k ch := by
      unfold wAny
      have h2 : ∀ j ∈ List.range ch.length, meantS l k ((ch ++ [n]).take (j + 1)) = meantS l k (ch.take (j + 1)) := fun j hj => by
        rw [List.take_append_of_le_length (by have := List.mem_range.mp hj; omega)]
      have key : ∀ (q : List Nat), (∀ j ∈ q, meantS l k ((ch ++ [n]).take (j + 1)) = meantS l k (ch.take (j + 1))) → q.any (fun j => meantS l k ((ch ++ [n]).take (j + 1))) = q.any (fun j => meantS l k (ch.take (j + 1))) := fun q => by
        induction q with
        | nil => intro _; rfl
        | cons x r ih => intro h; rw [List.any_cons, List.any_cons, h x (by simp), ih fun j hj => h j (by simp [hj])]
      exact key _ h2
    rw [e]
theorem wAny_snoc (l : List Pick) (k : Nat) (ch : List Nd) (n : Nd) : wAny l k (ch ++ [n]) = (wAny l k ch || meantS l k (ch ++ [n])) := by
  unfold wAny
  rw [List.length_append, List.length_cons, List.length_nil, Nat.zero_add, List.range_succ, List.any_append]
  simp only [List.any_cons, List.any_nil, Bool.or_false]
  congr 1
  · have key : ∀ (q : List Nat), (∀ j ∈ q, j < ch.length) → q.any (fun j => meantS l k ((ch ++ [n]).take (j + 1))) = q.any (fun j => meantS l k (ch.take (j + 1))) := fun q => by
      induction q with
      | nil => intro _; rfl
      | cons x r ih => intro h; rw [List.any_cons, List.any_cons, ih fun j hj => h j (by simp [hj]), List.take_append_of_le_length (by have := h x (by simp); omega)]
    exact key _ fun j hj => List.mem_range.mp hj
  · rw [List.take_of_length_le (by simp)]
theorem Rel.step {l : List Pick} {ch : List Nd} {r w : List Bool} (h : Rel l ch r w) (n : Nd) : Rel l (ch ++ [n]) (ends l r w n) (far w (ends l r w n)) := by
  refine ⟨by rw [far_len]; exact h.1, fun k hk => ?_⟩
  have he : (ends l r w n).getD k false = meantS l (k + 1) (ch ++ [n]) := by
    rw [List.getD_eq_getElem?_getD, ends_get hk, meantS_snoc]
    simp only [Option.getD_some, endK]
    cases hp : l[k]? with
    | none => rfl
    | some p =>
      simp only
      cases k with
      | zero => simp
      | succ k =>
        obtain ⟨h1, h2⟩ := h.2 k (by omega)
        simp only [Nat.add_sub_cancel, h1, h2]
        cases p.deep <;> simp [Bool.and_comm]
  refine ⟨he, ?_⟩
  rw [List.getD_eq_getElem?_getD, far_get (by rw [h.1]; exact hk), Option.getD_some, farK, he, (h.2 k hk).2, wAny_snoc]
theorem Rel.last {l : List Pick} {ch : List Nd} {r w : List Bool} (h : Rel l ch r w) (n : Nd) (hl : l ≠ []) : (ends l r w n).getLast? = some true ↔ meantS l l.length (ch ++ [n]) = true := by
  obtain ⟨k, hk⟩ : ∃ k, l.length = k + 1 := ⟨l.length - 1, by have := List.length_pos_iff.mpr hl; omega⟩
  have hs := (h.step n).2 k (by omega)
  rw [List.getLast?_eq_getElem?, ends_len, hk, Nat.add_sub_cancel]
  rw [← hs.1, List.getD_eq_getElem?_getD]
  have : k < l.length := by omega
  rw [ends_get this]
  simp
mutual
theorem found_N {l : List Pick} (hl : l ≠ []) : ∀ (n : Nd) (i : Int) (ch : List Nd) (path : List Int) (r w : List Bool), Rel l ch r w → wN l n i path r w = lN l n i ch path
  | .mk a b c ps, i, ch, path, r, w, h => by
    have h1 := found_L hl ps 0 (ch ++ [.mk a b c ps]) (path ++ [i]) _ _ (h.step (.mk a b c ps))
    rw [wN, lN, h1]
    by_cases ha : a = []
    · rw [if_pos ha, if_pos ha]
    · rw [if_neg ha, if_neg ha]
      congr 1
      have := h.last (.mk a b c ps) hl
      by_cases hm : meantS l l.length (ch ++ [.mk a b c ps]) = true
      · rw [if_pos (this.mpr hm), if_pos hm]
      · rw [if_neg (fun q => hm (this.mp q)), if_neg hm]
theorem found_L {l : List Pick} (hl : l ≠ []) : ∀ (ns : List Nd) (i : Int) (ch : List Nd) (path : List Int) (r w : List Bool), Rel l ch r w → wL l ns i path r w = lL l ns i ch path
  | [], _, _, _, _, _, _ => by rw [wL, lL]
  | n :: q, i, ch, path, r, w, h => by rw [wL, lL, found_N hl n i ch path r w h, found_L hl q (i + 1) ch path r w h]
end
theorem Rel.start (l : List Pick) : Rel l [] (List.replicate l.length false) (List.replicate l.length false) := by
  refine ⟨by simp, fun k hk => ?_⟩
  simp [List.getD_eq_getElem?_getD, hk, meantS, wAny]
theorem lL_take (l : List Pick) : ∀ {ns : List Nd} {i : Nat} {n : Nd} {k : Int} (ch : List Nd) (path : List Int), ns[i]? = some n → lL l (ns.take (i + 1)) k ch path = lL l (ns.take i) k ch path ++ lN l n (k + i) ch path
  | [], _, _, _, _, _, h => by simp at h
  | m :: q, 0, n, k, ch, path, h => by simp at h; subst h; simp [lL]
  | m :: q, i + 1, n, k, ch, path, h => by
    have := lL_take l (ns := q) (i := i) (n := n) (k := k + 1) ch path (by simpa using h)
    simp only [List.take_succ_cons, lL, this, List.append_assoc]
    have e : k + 1 + (i : Int) = k + ((i + 1 : Nat) : Int) := by omega
    rw [e]
mutual
theorem lN_len (l : List Pick) : ∀ (n : Nd) (i : Int) (ch : List Nd) (path : List Int), (lN l n i ch path).length ≤ n.sz
  | .mk a b c ps, i, ch, path => by
    have := lL_len l ps 0 (ch ++ [.mk a b c ps]) (path ++ [i])
    rw [lN]
    simp only [Nd.sz]
    split
    · simp
    · rw [List.length_append]; split <;> simp <;> omega
theorem lL_len (l : List Pick) : ∀ (ns : List Nd) (i : Int) (ch : List Nd) (path : List Int), (lL l ns i ch path).length ≤ szs ns
  | [], _, _, _ => by simp [lL]
  | n :: q, i, ch, path => by
    have h1 := lN_len l n i ch path
    have h2 := lL_len l q (i + 1) ch path
    simp only [lL, szs, List.length_append]; omega
end
/-- The first of one, the others of another. -/
def mix {α : Type} (a b : List α) (k : Nat) : List α := a.take k ++ b.drop k
theorem mix_set {α : Type} {a b : List α} {k : Nat} {x : α} (hl : a.length = b.length) (h : a[k]? = some x) : (mix a b k).set k x = mix a b (k + 1) := by
  have hk := (List.getElem?_eq_some_iff.mp h).1
  unfold mix
  rw [List.take_add_one, h, List.set_append]
  have e : (a.take k).length = k := by rw [List.length_take]; omega
  rw [if_neg (by omega), e, Nat.sub_self]
  rw [List.drop_eq_getElem_cons (show k < b.length by omega), List.set_cons_zero]
  simp
theorem mix_get {α : Type} {a b : List α} {k : Nat} (hl : a.length = b.length) (hk : k ≤ a.length) : (mix a b k)[k]? = b[k]? := by
  unfold mix
  have e : (a.take k).length = k := by rw [List.length_take]; omega
  rw [List.getElem?_append_right (by omega), e, Nat.sub_self, List.getElem?_drop, Nat.add_zero]
theorem mix_get' {α : Type} {a b : List α} {k : Nat} {x : α} (h : a[k]? = some x) : (mix a b (k + 1))[k]? = some x := by
  have hk := (List.getElem?_eq_some_iff.mp h).1
  unfold mix
  rw [List.getElem?_append_left (by rw [List.length_take]; omega), List.getElem?_take, if_pos (by omega), h]
theorem mix_len {α : Type} {a b : List α} {k : Nat} (hl : a.length = b.length) (hk : k ≤ a.length) : (mix a b k).length = a.length := by
  unfold mix; rw [List.length_append, List.length_take, List.length_drop]; omega
theorem mix_zero {α : Type} (a b : List α) : mix a b 0 = b := by simp [mix]
theorem mix_end {α : Type} {a b : List α} (hl : a.length = b.length) : mix a b a.length = a := by
  unfold mix; rw [List.take_length, List.drop_eq_nil_of_le (by omega), List.append_nil]
end Go.VL
