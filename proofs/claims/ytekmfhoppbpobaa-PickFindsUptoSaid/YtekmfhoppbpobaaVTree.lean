/- How deep nodes stand; the parts of a row of them. -/
import Derived.Test.YtekmfhoppbpobaaVTy3
set_option linter.unusedVariables false
set_option linter.unusedSimpArgs false
set_option linter.unusedVariables false
namespace Go.VL
open Go
mutual
def Nd.dp : Nd → Nat
  | .mk _ _ _ ps => dps ps + 1
def dps : List Nd → Nat
  | [] => 0
  | n :: r => max n.dp (dps r)
end
def parts : List Nd → List Nd
  | [] => []
  | n :: r => n.ps ++ parts r
theorem Nd.dp_eq (n : Nd) : n.dp = dps n.ps + 1 := by cases n; simp [Nd.dp, Nd.ps]
theorem dps_app (a b : List Nd) : dps (a ++ b) = max (dps a) (dps b) := by
  induction a with
  | nil => simp [dps]
  | cons n r ih => simp only [List.cons_append, dps, ih]; omega
theorem dps_take {l : List Nd} {i : Nat} {n : Nd} (h : l[i]? = some n) : dps (l.take (i + 1)) = max (dps (l.take i)) n.dp := by
  rw [List.take_add_one, h, dps_app]
  simp [dps]
mutual
theorem Nd.dp_le : ∀ n : Nd, n.dp ≤ n.sz
  | .mk _ _ _ ps => by have := dps_le ps; simp [Nd.dp, Nd.sz]; omega
theorem dps_le : ∀ l : List Nd, dps l ≤ szs l
  | [] => by simp [dps]
  | n :: r => by have := dps_le r; have := Nd.dp_le n; simp [dps, szs]; omega
end
theorem szs_parts (l : List Nd) : szs l = l.length + szs (parts l) := by
  induction l with
  | nil => simp [szs, parts]
  | cons n r ih => simp [szs, parts, szs_app, n.sz_eq]; omega
theorem dps_parts (l : List Nd) (h : l ≠ []) : dps l = dps (parts l) + 1 := by
  induction l with
  | nil => simp at h
  | cons n r ih =>
    cases r with
    | nil => simp [dps, parts, n.dp_eq]
    | cons m r => have := ih (by simp); simp only [dps, parts, dps_app, Nd.dp_eq] at this ⊢; omega
theorem parts_app (a b : List Nd) : parts (a ++ b) = parts a ++ parts b := by
  induction a with
  | nil => simp [parts]
  | cons n r ih => simp [parts, ih]
theorem parts_take {l : List Nd} {i : Nat} {n : Nd} (h : l[i]? = some n) : parts (l.take (i + 1)) = parts (l.take i) ++ n.ps := by
  rw [List.take_add_one, h, parts_app]; simp [parts]
end Go.VL
