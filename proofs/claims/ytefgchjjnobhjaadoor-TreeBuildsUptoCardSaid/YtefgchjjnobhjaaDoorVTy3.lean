/- More arguments of a law, typed. -/
import Derived.Test.YtefgchjjnobhjaaDoorVTy
set_option linter.unusedVariables false
set_option linter.unusedSimpArgs false
namespace Go.VL
open Go Go.RowKit
variable {P : Program}
abbrev Decl := Attr
theorem ty_decls {t n s : Nat} {fs : Array Field} (h1 : P.underlying t = some (.slice n)) (h2 : P.underlying n = some (.struct fs)) (hf : fts fs = [s, s]) (hs : P.underlying s = some .string) {l : List D} (h : TyD P t l) : ∃ xs : List Attr, l = [.sl (xs.map Attr.d)] := by
  obtain ⟨es, rfl, he⟩ := h.sl_inv h1
  obtain ⟨xs, rfl⟩ := list_of' (f := Attr.d) fun c hc => ty_attr h2 hf hs (he c hc)
  exact ⟨xs, rfl⟩
theorem len_attr (l : List Attr) : l.length ≤ szLL (l.map Attr.d) := len_map_sz (fun x => by simp [Attr.d, szL, szD]; omega) l
theorem map_take_succ {α β : Type} {f : α → β} {l : List α} {i : Nat} {x : α} (h : l[i]? = some x) : (l.take (i + 1)).map f = (l.take i).map f ++ [f x] := by
  rw [List.take_add_one, h]; simp
theorem drop_cons {α : Type} {l : List α} {i : Nat} {x : α} (h : l[i]? = some x) : l.drop i = x :: l.drop (i + 1) := by
  obtain ⟨h1, h2⟩ := List.getElem?_eq_some_iff.mp h
  rw [List.drop_eq_getElem_cons h1, h2]
end Go.VL
namespace Go.VL
theorem bytesOfD_nums : ∀ s : List UInt8, bytesOfD (numsD s) = some s
  | [] => rfl
  | x :: r => by
    have := bytesOfD_nums r
    simp only [numsD] at this
    simp [numsD, bytesOfD, this]
end Go.VL
