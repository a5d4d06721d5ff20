/- slices.Clone of a token's attributes, walked. -/
import Derived.Test.YtefgchjjnobhjaaDoorBtFind
import Derived.Lib.SliceRun
set_option linter.unusedVariables false
set_option linter.unusedSimpArgs false
namespace Go.VL.BtClone
open Go Go.Proofs Go.VL Go.RowKit Go.VL.BtA Go.VL.BtFind
set_option maxRecDepth 100000
/-- Attributes that came in. -/
def AtA (w : World) (v : Value) (l : List Attr) : Prop := (l = [] ∧ ∃ a c, v = .slice a 0 c) ∨ ∃ g o c, v = .slice (some ⟨g, o, none⟩) l.length c ∧ 1 ≤ l.length ∧ ∀ (i : Nat) (a : Attr), l[i]? = some a → w.cell? ⟨g, o + i * 2, none⟩ = some (strV a.name) ∧ w.cell? ⟨g, o + (i * 2 + 1), none⟩ = some (strV a.value)
theorem AtA.below {w W : World} {v : Value} {l : List Attr} (h : AtA w v l) (hb : Below w.heap.size w W) : AtA W v l := by
  have cw : ∀ {a : Addr} {x : Value}, w.cell? a = some x → W.cell? a = some x := fun {a x} hx => by
    have e := hb.block a.block (World.block_lt_of_cell? _ _ hx)
    rw [← hx]; exact World.cell?_of_block e
  rcases h with h | ⟨g, o, c, h1, h2, h3⟩
  · exact .inl h
  · exact .inr ⟨g, o, c, h1, h2, fun i a hi => ⟨cw (h3 i a hi).1, cw (h3 i a hi).2⟩⟩
theorem acs_at : ∀ {l : List Attr} {j : Nat} {u : Value}, (acs l)[j]? = some u → ∃ i a, l[i]? = some a ∧ ((j = i * 2 ∧ u = strV a.name) ∨ (j = i * 2 + 1 ∧ u = strV a.value))
  | [], j, u, h => by simp [acs] at h
  | a :: l, 0, u, h => by simp [acs] at h; exact ⟨0, a, rfl, .inl ⟨rfl, h.symm⟩⟩
  | a :: l, 1, u, h => by simp [acs] at h; exact ⟨0, a, rfl, .inr ⟨rfl, h.symm⟩⟩
  | a :: l, j + 2, u, h => by
    have e : acs (a :: l) = [strV a.name, strV a.value] ++ acs l := rfl
    rw [e, List.getElem?_append_right (by simp)] at h
    simp at h
    obtain ⟨i, b, hb, h2⟩ := acs_at h
    refine ⟨i + 1, b, by simpa using hb, ?_⟩
    rcases h2 with ⟨rfl, h2⟩ | ⟨rfl, h2⟩
    · exact .inl ⟨by omega, h2⟩
    · exact .inr ⟨by omega, h2⟩
theorem acs_len (l : List Attr) : (acs l).length = l.length * 2 := by
  induction l with
  | nil => rfl
  | cons a l ih =>
    have e : acs (a :: l) = [strV a.name, strV a.value] ++ acs l := rfl
    rw [e, List.length_append, ih]; simp; omega
theorem acs_one {l : List Attr} {u : Value} (h : u ∈ acs l) : u.oneCell' = true := by
  obtain ⟨j, hj⟩ := List.getElem?_of_mem h
  obtain ⟨i, a, _, ⟨_, rfl⟩ | ⟨_, rfl⟩⟩ := acs_at hj <;> rfl
theorem infoA : (Tryd.prog.info? 59).map (fun i => (i.zero, i.size, i.bytes)) = some (some (.agg #[.string ByteArray.empty, .string ByteArray.empty]), 2, 32) := by kernel_rfl
theorem info_parts' {P : Program} {e : TypeId} {z : Option Value} {n b : Nat} (h : (P.info? e).map (fun i => (i.zero, i.size, i.bytes)) = some (z, n, b)) : ∃ i, P.info? e = some i ∧ i.zero = z ∧ i.size = n ∧ i.bytes = b := by
  obtain ⟨i, hi, hz⟩ := Option.map_eq_some_iff.1 h
  simp only [Prod.mk.injEq] at hz
  exact ⟨i, hi, hz.1, hz.2.1, hz.2.2⟩
set_option maxHeartbeats 4000000 in
theorem clone_raw {W : World} {n0 : Nat} (hn0 : n0 ≤ W.heap.size) {v : Value} {l : List Attr} (hl : l.length < 2 ^ 40) (h : AtA W v l) : Calls Tryd.prog 19 #[v] W fun e W' => ∃ u, e = .returned u ∧ Below W.heap.size W W' ∧ W'.ownsRow n0 59 2 u l.length (acs l) := by
  obtain ⟨i0, hi, hz0, hz1, hz2⟩ := info_parts' infoA
  have hes : ∀ (W : World) (a : Option Addr) (n c : Nat), (binOp .eql 37 (.slice a n c) (.slice none 0 0)).run Tryd.prog W = .ok (.bool a.isNone) W := fun W a n c =>
    Lib.run_eql_slice_nil W 37 59 a n c 0 0 Tryd.underlying37
  rcases h with ⟨rfl, a, c, rfl⟩ | ⟨g, o, c, rfl, h2, h3⟩
  · go_enter Tryd.func19, Tryd.ntmps19
    cases a with
    | none =>
      go_wp2
      go_ret
      exact ⟨_, rfl, Below.refl _ _, World.ownsRow_nil _ _ _ _⟩
    | some a =>
      go_wp2
      go_ret
      exact ⟨_, rfl, (Below.refl _ W).alloc (Nat.le_refl _) _, World.ownsRow_lit W #[] 0 hn0 (by decide) rfl⟩
  · go_enter Tryd.func19, Tryd.ntmps19
    go_wp2_with (at_builtin; go_loud (refine wpList_append_lies _ rfl _ _ 37 rfl n0 59 i0 _ 2 32 Tryd.underlying37 hi hz0 hz1 hz2 rfl (by decide) _ 0 [] rfl (World.ownsRow_lit W #[] 0 hn0 (by decide) rfl) ⟨g, o, none⟩ l.length c (acs l) rfl (acs_len l) ?_ (fun u hu => acs_one hu) (by omega) ?_ (by omega) (by simp; omega) (W.heap.size + 1) (by simp) ?_); rotate_left 2; intro g2 cap2 W3 hown' hgrow hor hlt3)
    · go_ret
      simp only [Nat.zero_add, List.nil_append] at hown'
      exact ⟨_, rfl, ((Below.refl _ W).alloc (Nat.le_refl _) _).grown hgrow (by simp) (fun k e => by cases e; exact Nat.le_refl _), hown'⟩
    · intro j u hj
      obtain ⟨i, a, ha, hk⟩ := acs_at hj
      have hk3 := h3 i a ha
      have cw : ∀ {ad : Addr} {x : Value}, W.cell? ad = some x → (W.alloc (.cells #[] 59)).cell? ad = some x := fun {ad x} hx => by
        rw [← hx]; exact World.cell?_of_block (Below.heap_alloc W _ _ (World.block_lt_of_cell? _ _ hx))
      rw [Addr.add_lit]
      rcases hk with ⟨rfl, rfl⟩ | ⟨rfl, rfl⟩
      · exact cw hk3.1
      · exact cw hk3.2
    · have : maxLen = 9223372036854775807 := rfl
      omega
end Go.VL.BtClone
