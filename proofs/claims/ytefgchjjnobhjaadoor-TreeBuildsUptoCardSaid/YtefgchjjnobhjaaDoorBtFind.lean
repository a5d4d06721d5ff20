/- tree.builder's find, last, closeAt, walked. -/
import Derived.Test.YtefgchjjnobhjaaDoorBtA
import Derived.WalkSpells
import Derived.Calls
import Derived.Deep.LoopGhost
import Derived.Deep.QuietTactic
import Derived.BigQuiet
set_option linter.unusedVariables false
set_option linter.unusedSimpArgs false
namespace Go.VL.BtFind
open Go Go.Proofs Go.VL Go.RowKit Go.VL.BtA
set_option maxRecDepth 100000
theorem esQ_at {Q : List Rec} {x : Nat} (hx : 1 ≤ x) {e : Ent} (h : (esQ Q)[x - 1]? = some e) : ∃ r, Q[x]? = some r ∧ r.e = e := by
  unfold esQ at h
  rw [List.getElem?_map, List.getElem?_tail, show x - 1 + 1 = x by omega] at h
  cases hq : Q[x]? with
  | none => rw [hq] at h; cases h
  | some r => rw [hq] at h; exact ⟨r, rfl, by simpa using h⟩
theorem esQ_of {Q : List Rec} {j : Nat} {r : Rec} (h : Q[j + 1]? = some r) : (esQ Q)[j]? = some r.e := by
  unfold esQ
  rw [List.getElem?_map, List.getElem?_tail, h]; rfl
section
variable {w W : World} {bb : Nat} {Q : List Rec} {s : List Nat} {vs : Value} {c : Int} {mute : Str}
theorem _root_.Go.VL.BtA.Bt.b1 (h : Bt w bb Q s vs c mute W) : W.cell? ⟨bb, 1, none⟩ = some vs := by simp [World.cell?, h.bld]
theorem _root_.Go.VL.BtA.Bt.b2 (h : Bt w bb Q s vs c mute W) : W.cell? ⟨bb, 2, none⟩ = some (.int .i64 c) := by simp [World.cell?, h.bld]
theorem _root_.Go.VL.BtA.Bt.b3 (h : Bt w bb Q s vs c mute W) : W.cell? ⟨bb, 3, none⟩ = some (strV mute) := by simp [World.cell?, h.bld]
theorem _root_.Go.VL.BtA.Bt.b0 (h : Bt w bb Q s vs c mute W) : W.cell? ⟨bb, 0, none⟩ = some (ptrQ Q 0) := by simp [World.cell?, h.bld]
theorem _root_.Go.VL.BtA.Bt.bf (h : Bt w bb Q s vs c mute W) (j : Nat) : W.frozen? ⟨bb, j, none⟩ = false := by simp [World.frozen?, h.bld]
theorem ptrQ_at {k : Nat} {r : Rec} (h : Q[k]? = some r) : ptrQ Q k = .pointer (some ⟨r.o, 0, none⟩) := by rw [ptrQ, h]; rfl
/-- The place x on the stack. -/
theorem _root_.Go.VL.BtA.Bt.on (h : Bt w bb Q s vs c mute W) {j x : Nat} (hx : s[j]? = some x) : ∃ r, Q[x]? = some r ∧ r.e.tx = false ∧ nameE (esQ Q) x = r.e.name ∧ (stkV Q s)[j + 1]? = some (.pointer (some ⟨r.o, 0, none⟩)) := by
  obtain ⟨h1, e, he, ht⟩ := h.ws x (List.mem_of_getElem? hx)
  obtain ⟨r, hr, rfl⟩ := esQ_at h1 he
  exact ⟨r, hr, ht, by simp [nameE, he], by simp [stkV, hx, ptrQ_at hr]⟩
theorem strV_eq {a b : Str} : (strV a = strV b) ↔ a = b := by
  unfold strV
  constructor
  · intro h; simp at h; exact h
  · rintro rfl; rfl
theorem w64 {n : Nat} (h : n < 2 ^ 40) : wrap64 ((n : Int) + 1 - 1) = n := by unfold wrap64; omega
set_option maxHeartbeats 4000000 in
theorem find_raw (h : Bt w bb Q s vs c mute W) (nm : Str) : Calls Tryd.prog 9 #[.pointer (some ⟨bb, 0, none⟩), .string ⟨nm.toArray⟩] W fun e W' => e = .returned (.int .i64 ((fnd (esQ Q) nm s : Nat) : Int)) ∧ W' = W := by
  obtain ⟨g, cap, rfl, hcap⟩ := h.form
  have d1 := h.b1
  have hbig := h.sl
  go_enter Tryd.func9, Tryd.ntmps9
  go_wp2
  go_loopg [5] s.length (fun gg v W' => gg ≤ s.length ∧ v = .int .i64 gg ∧ W' = W ∧ fx (esQ Q) nm s gg = fnd (esQ Q) nm s)
  case atStart => exact ⟨Nat.le_refl _, rfl, rfl, rfl⟩
  case round =>
    obtain ⟨hj, rfl, rfl, hfx⟩ := hrel
    cases gk with
    | zero =>
      go_wp2
      go_ret
      exact ⟨by rw [← hfx]; rfl, rfl⟩
    | succ j =>
      obtain ⟨x, hx⟩ : ∃ x, s[j]? = some x := ⟨_, List.getElem?_eq_getElem (by omega)⟩
      obtain ⟨r, hr, ht, hnm, hst⟩ := h.on hx
      have hk := h.rk x r hr
      have e1 : wr.cell? ⟨g, j + 1, none⟩ = some (.pointer (some ⟨r.o, 0, none⟩)) := by rw [h.stk.cellAt _ (by omega)]; exact hst
      have e2 : wr.cell? ⟨r.o, 0, none⟩ = some (.pointer (some ⟨r.nb, 0, none⟩)) := by simp [World.cell?, hk.o, npV, ht, ptrV]
      have e3 : wr.cell? ⟨r.nb, 0, none⟩ = some (.string ⟨r.e.name.toArray⟩) := by simp [World.cell?, (hk.nod ht).1, strV]
      have hj2 : (0 : Int) < ((j + 1 : Nat) : Int) := by omega
      go_wp2
      · rename_i hc
        go_ret
        have e : r.e.name = nm := by simpa using hc
        have e5 : fnd (esQ Q) nm s = j + 1 := by
          rw [← hfx, fx, if_pos]
          rw [List.getD_eq_getElem?_getD, hx]
          show nameE (esQ Q) x = nm
          rw [hnm, e]
        rw [e5]
        exact ⟨rfl, rfl⟩
      · rename_i hc
        have e : r.e.name ≠ nm := by simpa using hc
        go_roundg j
        case measure => omega
        case rel =>
          refine ⟨by omega, rfl, rfl, ?_⟩
          rw [← hfx]
          conv => rhs; rw [fx]
          rw [if_neg]
          rw [List.getD_eq_getElem?_getD, hx]
          show nameE (esQ Q) x ≠ nm
          rw [hnm]; exact e
theorem last_raw (h : Bt w bb Q s vs c mute W) : Calls Tryd.prog 20 #[.pointer (some ⟨bb, 0, none⟩)] W fun e W' => e = .returned (ptrQ Q (topS s)) ∧ Bt w bb Q s vs c mute W' ∧ Below W.heap.size W W' := by
  obtain ⟨g, cap, rfl, hcap⟩ := h.form
  have d1 := h.b1
  have hbig := h.sl
  have hst : (stkV Q s)[s.length]? = some (ptrQ Q (topS s)) := by
    unfold stkV topS
    rw [List.getElem?_map]
    rcases List.eq_nil_or_concat s with rfl | ⟨a, x, rfl⟩
    · rfl
    · simp
  have e1 : W.cell? ⟨g, s.length, none⟩ = some (ptrQ Q (topS s)) := by rw [h.stk.cellAt _ (by omega)]; exact hst
  have hi : ((s.length : Nat) : Int) < ((s.length + 1 : Nat) : Int) := by omega
  go_enter Tryd.func20, Tryd.ntmps20
  go_wp2_with fail
  go_quiet (fail)
  go_wp2
  go_ret
  exact ⟨rfl, h.drewN nq, rfl, rfl, rfl, Nat.le_refl _, fun _ _ => rfl⟩
theorem close_raw (h : Bt w bb Q s vs c mute W) (i : Nat) (hi : i ≤ s.length + 1) : Calls Tryd.prog 8 #[.pointer (some ⟨bb, 0, none⟩), .int .i64 (i : Int)] W fun e W' => e = .returned (.tuple #[]) ∧ (∃ vs', Bt w bb Q (pclose s i) vs' c mute W') ∧ W.grownBy W' (some bb) := by
  obtain ⟨g, cap, rfl, hcap⟩ := h.form
  have d1 := h.b1
  have f1 := h.bf 1
  go_enter Tryd.func8, Tryd.ntmps8
  by_cases hi0 : 1 ≤ i
  · have hi1 : (0 : Int) < i := by omega
    have hi2 : (i : Int) ≤ cap := by omega
    go_wp2
    go_end0
    exact ⟨rfl, ⟨_, h.take rfl hi0 hi⟩, setCell_grown _ _ _⟩
  · have hi1 : i = 0 := by omega
    subst hi1
    go_wp2
    go_end0
    exact ⟨rfl, ⟨_, h⟩, rfl, rfl, rfl, Nat.le_refl _, fun _ _ _ => rfl⟩
end
end Go.VL.BtFind
