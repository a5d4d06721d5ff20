/- Regions and code. -/
import Derived.Test.YtefgchjjnobhjaaDoorVV
import Derived.Scope
set_option linter.unusedVariables false
set_option linter.unusedSimpArgs false
namespace Go.VL
open Go Go.RowKit

variable {P : Program} {X O : Nat → Prop} {w0 w w' : World} {θ θ' θ0 : Th} {st : St} {a : Act} {N : Nat → Prop}

theorem RepT.skip : RepT w N θ undef (.tup []) := .tup #[] [] rfl fun _ _ h => by simp at h
theorem RepT.skip_inv {v : Value} (h : RepT w N θ v (.tup [])) : v = undef := by
  cases h with
  | tup vs _ hl _ =>
    have : vs = #[] := Array.eq_empty_of_size_eq_zero (by simpa using hl)
    subst this; rfl
theorem grd_sound {ops : Array Oper} {o : Oper} {yes no : Prop} (hs : Sat P X O w0 θ st a w) (h : grd ops.toList st o yes no) :
    (Region.wanted o (yielded ops a.tmps) = true ∧ yes) ∨ (Region.wanted o (yielded ops a.tmps) = false ∧ no) := by
  unfold grd at h
  unfold Region.wanted
  cases hg : o.guard with
  | none => simp only [hg] at h; exact .inl ⟨rfl, h⟩
  | some p =>
    obtain ⟨j, want⟩ := p
    simp only [hg, nth_eq] at h ⊢
    cases hj : ops.toList[j]? with
    | none => simp [hj] at h
    | some oj =>
      simp only [hj] at h
      cases hd : oj.dst with
      | none => simp [hd] at h
      | some d =>
        simp only [hd] at h
        split at h
        case h_3 => exact h.elim
        case h_2 =>
          rename_i hb hT
          have hlt := Nat.blt_eq.mp hb
          have ht := hs.tm d
          rw [hT] at ht
          have ht := ht.skip_inv
          rw [← hs.nts] at hlt
          have hy : yielded ops a.tmps j = none := by
            have h1 : ops[j]? = some oj := by rw [← Array.getElem?_toList]; exact hj
            have h2 : a.tmps[d]? = some undef := by
              rw [← ht]; simp [Array.getD_eq_getD_getElem?, hlt]
            simp only [yielded, h1, Option.bind_some, hd, h2, undef]
          rw [hy]
          exact .inr ⟨by simp, h⟩
        rename_i b hb hT
        have hlt := Nat.blt_eq.mp hb
        have ht := hs.tm d
        rw [hT] at ht
        have ht := ht.bool_inv
        rw [← hs.nts] at hlt
        have hy : yielded ops a.tmps j = some b := by
          have h1 : ops[j]? = some oj := by rw [← Array.getElem?_toList]; exact hj
          have h2 : a.tmps[d]? = some (.bool b) := by
            rw [← ht]; simp [Array.getD_eq_getD_getElem?, hlt]
          simp only [yielded, h1, Option.bind_some, hd, h2]
        rw [hy]
        cases b <;> cases want
        · exact .inl ⟨by simp, h.2 rfl⟩
        · exact .inr ⟨by simp, h.2 rfl⟩
        · exact .inr ⟨by simp, h.1 rfl⟩
        · exact .inl ⟨by simp, h.1 rfl⟩

theorem evOps_sound {tab : Tab} (tk : TabOK P tab) {ops : Array Oper} {Q : Exit → Act → World → Prop} {K : St → Prop} (hQ : ∀ st θ' a w, Sub θ0 θ' → Sat P X O w0 θ' st a w → K st → Q .normal a w) :
    ∀ (l : List Oper) (i : Nat) (st : St) (θ : Th) (a : Act) (w : World), ops.toList.drop i = l → Sub θ0 θ → Sat P X O w0 θ st a w → evOps P tab ops.toList K l st → wpOps P ops Q (List.range' i l.length) a w
  | [], i, st, θ, a, w, _, hsub, hs, h => hQ st θ a w hsub hs h
  | o :: r, i, st, θ, a, w, hd, hsub, hs, h => by
    have hi : ops[i]? = some o := by
      have : (ops.toList.drop i)[0]? = some o := by rw [hd]; rfl
      rw [List.getElem?_drop] at this
      simpa using this
    have hd' : ops.toList.drop (i + 1) = r := by
      rw [← List.drop_drop, hd]; rfl
    simp only [List.length_cons, List.range'_succ, wpOps, hi]
    simp only [evOps] at h
    rcases grd_sound hs h with ⟨h1, h2⟩ | ⟨h1, h2⟩
    · rw [if_pos h1]
      refine .inl (evOp_sound tk hs (fun a' w' ⟨st', θ', k1, k2, k3⟩ => ?_) h2)
      exact evOps_sound tk hQ r (i + 1) st' θ' a' w' hd' (hsub.trans k1) k2 k3
    · rw [if_neg (by rw [h1]; simp)]
      obtain ⟨st', θ', k1, k2, k3⟩ := putK_post h2 hs RepT.skip
      exact evOps_sound tk hQ r (i + 1) st' θ' _ w hd' (hsub.trans k1) k2 k3

theorem WP.mono {B : Nat} {c : Code} {Q Q' : Ex → St → Prop} (h : WP P B c Q st) (hq : ∀ e st, Q e st → Q' e st) : WP P B c Q' st :=
  fun X O w0 θ a w hs => wp_mono (h X O w0 θ a w hs) fun _ _ _ ⟨e', st', θ', h1, h2, h3, h4⟩ => ⟨e', st', θ', h1, hq _ _ h2, h3, h4⟩

theorem ev_sound {tab : Tab} {B : Nat} (tk : TabOK P tab) : ∀ (c : Code) (Q : Ex → St → Prop) (st : St), ev P tab B c Q st → WP P B c Q st
  | .skip, Q, st, h => fun X O w0 θ a w hs => wp_skip ⟨.normal, st, θ, rfl, h, fun _ _ _ hl => hl, hs⟩
  | .region id ops false, Q, st, h => fun X O w0 θ a w hs => by
    refine wp_region ?_
    have := evOps_sound tk (θ0 := θ) (ops := ops) (Q := fun e a' w' => ∃ e' st' θ', e = Ex.to e' ∧ Q e' st' ∧ (∀ id l, id < B → θ id = some l → θ' id = some l) ∧ Sat P X O w0 θ' st' a' w') (K := Q .normal)
      (fun st' θ' a' w' k1 k2 k3 => ⟨.normal, st', θ', rfl, k3, fun id l _ hl => k1 id l hl, k2⟩) ops.toList 0 st θ a w rfl (Sub.refl θ) hs h
    rw [List.range_eq_range']
    simpa using this
  | .region id ops true, Q, st, h => h
  | .seq x y, Q, st, h => fun X O w0 θ a w hs => by
    refine wp_seq (wp_mono (ev_sound tk x _ st h X O w0 θ a w hs) fun e a' w' ⟨e', st', θ', h1, h2, h3, h4⟩ => ?_)
    cases e' with
    | normal =>
      subst h1
      exact wp_mono (ev_sound tk y Q st' h2 X O w0 θ' a' w' h4) fun e a2 w2 ⟨e2, st2, θ2, k1, k2, k3, k4⟩ => ⟨e2, st2, θ2, k1, k2, fun id l hb hl => k3 id l hb (h3 id l hb hl), k4⟩
    | exit id => subst h1; exact ⟨.exit id, st', θ', rfl, h2, h3, h4⟩
    | ret => subst h1; exact ⟨.ret, st', θ', rfl, h2, h3, h4⟩
  | .cond c x y, Q, st, h => fun X O w0 θ a w hs => by
    simp only [ev] at h
    have hc := hs.val c
    split at h
    case h_2 => exact h.elim
    rename_i t ht
    rw [ht] at hc
    refine wp_cond hc.bool_inv ?_
    cases t with
    | true => exact ev_sound tk x Q st (h.1 rfl) X O w0 θ a w hs
    | false => exact ev_sound tk y Q st (h.2 rfl) X O w0 θ a w hs
  | .block id c, Q, st, h => fun X O w0 θ a w hs => by
    refine wp_block (wp_mono (ev_sound tk c _ st h X O w0 θ a w hs) fun e a' w' ⟨e', st', θ', h1, h2, h3, h4⟩ => ?_)
    cases e' with
    | normal => subst h1; exact ⟨.normal, st', θ', rfl, h2, h3, h4⟩
    | exit j =>
      subst h1
      simp only [Ex.inBlk] at h2
      simp only [Ex.to, Exit.inBlock]
      cases hb : Nat.beq j id with
      | true =>
        have := Nat.eq_of_beq_eq_true hb
        subst this
        simp only [hb] at h2
        rw [if_pos rfl]
        exact ⟨.normal, st', θ', rfl, h2, h3, h4⟩
      | false =>
        have := Nat.ne_of_beq_eq_false hb
        simp only [hb] at h2
        rw [if_neg this]
        exact ⟨.exit j, st', θ', rfl, h2, h3, h4⟩
    | ret => subst h1; exact ⟨.ret, st', θ', rfl, h2, h3, h4⟩
  | .loop c, Q, st, h => h
  | .exit id, Q, st, h => fun X O w0 θ a w hs => wp_exit ⟨.exit id, st, θ, rfl, h, fun _ _ _ hl => hl, hs⟩
  | .ret, Q, st, h => fun X O w0 θ a w hs => wp_ret ⟨.ret, st, θ, rfl, h, fun _ _ _ hl => hl, hs⟩
  | .label l, Q, st, h => fun X O w0 θ a w hs => wp_label ⟨.normal, st, θ, rfl, h, fun _ _ _ hl => hl, hs⟩
  | .scope c, Q, st, h => fun X O w0 θ a w hs => by
    refine wp_scope_straight (wp_mono (ev_sound tk c Q st h X O w0 θ a w hs) fun e a' w' ⟨e', st', θ', h1, h2, h3, h4⟩ => ?_)
    subst h1
    cases e' with
    | normal => exact ⟨.normal, st', θ', rfl, h2, h3, h4⟩
    | exit id => exact ⟨.exit id, st', θ', rfl, h2, h3, h4⟩
    | ret => exact ⟨.ret, st', θ', rfl, h2, h3, h4⟩
end Go.VL
