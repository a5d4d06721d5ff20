/- auto.pairs: what holds between two rounds. -/
import Derived.Test.YtkjiccficfcaeaaMapPair
import Derived.Test.YtkjiccficfcaeaaPairStep
import Derived.Laws.OwnMore
import Derived.RangeFuncBox
import Derived.Deep.AppendLies
set_option linter.unusedVariables false
set_option linter.unusedSimpArgs false
namespace Go.VL.PairsA
open Go Go.Proofs Go.VL Go.RowKit Go.Maps Go.VL.MapPair Go.VL.PairStep
set_option maxRecDepth 100000
def pcs2 (all : List (Int × Int)) : List Value := all.flatMap fun x => [.int .i64 x.1, .int .i64 x.2]
theorem pcs2_snoc (all : List (Int × Int)) (x : Int × Int) : pcs2 (all ++ [x]) = pcs2 all ++ [.int .i64 x.1, .int .i64 x.2] := by simp [pcs2]
theorem pcs2_at : ∀ {all : List (Int × Int)} {i : Nat} {x : Int × Int}, all[i]? = some x → (pcs2 all)[i * 2]? = some (.int .i64 x.1) ∧ (pcs2 all)[i * 2 + 1]? = some (.int .i64 x.2)
  | [], i, x, h => by simp at h
  | y :: l, 0, x, h => by simp at h; subst h; exact ⟨rfl, rfl⟩
  | y :: l, i + 1, x, h => by
    have ih := pcs2_at (all := l) (i := i) (x := x) (by simpa using h)
    have e : pcs2 (y :: l) = [.int .i64 y.1, .int .i64 y.2] ++ pcs2 l := rfl
    rw [e, List.getElem?_append_right (by simp; omega), List.getElem?_append_right (by simp; omega)]
    simp only [List.length_cons, List.length_nil]
    rw [show (i + 1) * 2 - (0 + 1 + 1) = i * 2 by omega, show (i + 1) * 2 + 1 - (0 + 1 + 1) = i * 2 + 1 by omega]
    exact ih
/-- A pair within two machines of na and nb states. -/
def inR (na nb : Nat) (x : Int × Int) : Prop := (-1 ≤ x.1 ∧ x.1 < na) ∧ (-1 ≤ x.2 ∧ x.2 < nb)
theorem inR.small {na nb : Nat} {x : Int × Int} (h : inR na nb x) (ha : na ≤ 40) (hb : nb ≤ 40) : small x := ⟨⟨h.1.1, by have := h.1.2; omega⟩, h.2.1, by have := h.2.2; omega⟩
/-- No more pairs than there are. -/
theorem few_len : ∀ (N : Nat) (l : List Nat), l.Nodup → (∀ x ∈ l, x < N) → l.length ≤ N
  | 0, l, _, h => by
    cases l with
    | nil => simp
    | cons a l => exact absurd (h a (by simp)) (by omega)
  | N + 1, l, hd, h => by
    have hf := few_len N (l.filter (· ≠ N)) (hd.filter _) (fun x hx => by
      simp at hx
      have := h x hx.1
      omega)
    have hc : l.length ≤ (l.filter (· ≠ N)).length + 1 := by
      clear hf h
      induction l with
      | nil => simp
      | cons a l ih =>
        obtain ⟨h1, h2⟩ := List.nodup_cons.1 hd
        by_cases ha : a = N
        · subst ha
          have : l.filter (· ≠ a) = l := List.filter_eq_self.2 (fun x hx => by simp; rintro rfl; exact h1 hx)
          rw [List.filter_cons]
          simp only [ne_eq, not_true_eq_false, decide_false, Bool.false_eq_true, if_false, List.length_cons]
          simp only [ne_eq] at this
          rw [this]; omega
        · have := ih h2
          rw [List.filter_cons]
          simp [ha] at this ⊢
          omega
    omega
theorem few {na nb : Nat} {all : List (Int × Int)} (hd : all.Nodup) (hr : ∀ x ∈ all, inR na nb x) : all.length ≤ (na + 1) * (nb + 1) := by
  have h := few_len ((na + 1) * (nb + 1)) (all.map fun x => (x.1 + 1).toNat * (nb + 1) + (x.2 + 1).toNat) ?_ ?_
  · simpa using h
  · refine List.Pairwise.map _ ?_ (hd.imp_of_mem (fun ha hb hne => ?_) : all.Pairwise fun x y => (x.1 + 1).toNat * (nb + 1) + (x.2 + 1).toNat ≠ (y.1 + 1).toNat * (nb + 1) + (y.2 + 1).toNat)
    · intro a b h; exact h
    · rename_i x y
      intro e
      obtain ⟨⟨a1, a2⟩, a3, a4⟩ := hr x ha
      obtain ⟨⟨b1, b2⟩, b3, b4⟩ := hr y hb
      have q1 : (x.2 + 1).toNat < nb + 1 := by omega
      have q2 : (y.2 + 1).toNat < nb + 1 := by omega
      have d1 := congrArg (· / (nb + 1)) e
      have d2 := congrArg (· % (nb + 1)) e
      simp only [Nat.mul_add_mod_of_lt, q1, q2, Nat.mul_comm _ (nb + 1), Nat.mul_add_div (Nat.succ_pos nb), Nat.div_eq_of_lt, Nat.add_zero, Nat.mul_add_mod, Nat.mod_eq_of_lt] at d1 d2
      exact hne (Prod.ext (by omega) (by omega))
  · intro z hz
    simp at hz
    obtain ⟨a, b, hab, rfl⟩ := hz
    obtain ⟨⟨a1, a2⟩, a3, a4⟩ := hr (a, b) hab
    have h1 : (a + 1).toNat ≤ na := by simp at a2; omega
    have h2 : (b + 1).toNat ≤ nb := by simp at a4; omega
    exact Nat.lt_of_le_of_lt (Nat.add_le_add (Nat.mul_le_mul h1 (Nat.le_refl (nb + 1))) h2) (by rw [Nat.add_mul na 1]; omega)
end Go.VL.PairsA
