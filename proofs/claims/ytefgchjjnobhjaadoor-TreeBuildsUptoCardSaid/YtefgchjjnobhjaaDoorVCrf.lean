/- A variable of one's own that is not written any more: told by what it holds. -/
import Derived.Test.YtefgchjjnobhjaaDoorVNc
set_option linter.unusedVariables false
set_option linter.unusedSimpArgs false
namespace Go.VL
open Go Go.RowKit
variable {P : Program} {X O : Nat → Prop} {w0 w w' : World} {θ θ' θ0 : Th} {st : St} {a : Act}
def crF (id : Nat) (cs : List D) : T → T
  | .ref i p o => match Nat.beq id i with | true => .cref (cs.drop o) | false => .ref i p o
  | .full i => match Nat.beq id i with | true => .dead | false => .full i
  | .own i o k => match Nat.beq id i with | true => .dead | false => .own i o k
  | .mp i => match Nat.beq id i with | true => .dead | false => .mp i
  | .itr i => match Nat.beq id i with | true => .dead | false => .itr i
  | .bs i => match Nat.beq id i with | true => .dead | false => .bs i
  | t => t
def St.crf (st : St) (id : Nat) (cs : List D) : St := match st with | ⟨t, h, n, nt⟩ => ⟨frzE (crF id cs) t, frzH (crF id cs) (remL h [id]), n, nt⟩
theorem RepT.crf {id : Nat} {t : TypeId} {cs : List D} {h : Hp} {B : Nat} {v : Value} {x : T} (hp : HpS P X O B θ h w) (hl : look h id = some (.var t (cs.map T.d))) (ht : RepT w (Nn X θ h) θ v x) :
    RepT w (Nn X θ (Go.VL.remL h [id])) θ v (x.tr (crF id cs)) := by
  have hE : Ext w (Nn X θ h) w (Nn X θ (Go.VL.remL h [id])) := Ext.shrink fun b => Nn_remL
  obtain ⟨l0, k1, e1, e2, b0, c0, fr, m1, m2, m3, m4, m5⟩ := hp.ob id _ hl
  have hfree : ¬ Nn X θ (Go.VL.remL h [id]) b0 := by
    intro hN
    rcases hN with hx | ⟨i, o, l2, q1, q2, q3⟩
    · exact (hp.rng id _ l0 b0 hl k1 m1).2.1 hx
    · rw [look_remL] at q1
      by_cases he : i ∈ [id]
      · simp [he] at q1
      · rw [if_neg he] at q1
        have := hp.inj i id o _ l2 l0 b0 q1 hl q2 k1 q3 m1
        subst this
        exact he (by simp)
  have hlt : b0 < w.heap.size := (Array.getElem?_eq_some_iff.1 m2).1
  induction ht with
  | d hd => simp only [T.tr, crF]; exact .d (hd.ext hE)
  | agg vs xs hl _ ih => simp only [T.tr]; exact .agg vs _ (by rw [trL_length]; exact hl) (tr_list (N := Nn X θ h) ih)
  | tup vs xs hl _ ih => simp only [T.tr]; exact .tup vs _ (by rw [trL_length]; exact hl) (tr_list (N := Nn X θ h) ih)
  | fn f vs xs hl _ ih => simp only [T.tr]; exact .fn f vs _ (by rw [trL_length]; exact hl) (tr_list (N := Nn X θ h) ih)
  | full i l1 hl b cap hb hlc hz ad hab hsp ho =>
    simp only [T.tr, crF]
    cases hm : Nat.beq id i with
    | false => exact .full i l1 hl b cap hb hlc hz ad hab hsp ho
    | true => exact .dead _
  | full0 i l1 hl h0 =>
    simp only [T.tr, crF]
    cases hm : Nat.beq id i with
    | false => exact .full0 i l1 hl h0
    | true => exact .dead _
  | own i off len l1 hl b hb ad cap hlc hab hsp hin ho hz =>
    simp only [T.tr, crF]
    cases hm : Nat.beq id i with
    | false => exact .own i off len l1 hl b hb ad cap hlc hab hsp hin ho hz
    | true => exact .dead _
  | own0 i off l1 hl =>
    simp only [T.tr, crF]
    cases hm : Nat.beq id i with
    | false => exact .own0 i off l1 hl
    | true => exact .dead _
  | nils => simp only [T.tr, crF]; exact .nils
  | ref i p off l1 hl' b hb =>
    simp only [T.tr, crF]
    cases hm : Nat.beq id i with
    | false => exact .ref i p off l1 hl' b hb
    | true =>
      have := Nat.eq_of_beq_eq_true hm
      subst this
      rw [k1] at hl'
      cases hl'
      rw [m1] at hb
      cases hb
      rw [e1, e2, Nat.mul_zero, Nat.zero_add]
      show RepT w _ θ _ (T.cref (cs.drop off))
      try rw [Nat.zero_add]
      have hat : ∀ (j : Nat) (x : D), (cs.drop off)[j]? = some x → ∃ u, c0[off + j]? = some u ∧ RepD w (Nn X θ (Go.VL.remL h [id])) u x := fun j x hx => by
        rw [List.getElem?_drop] at hx
        obtain ⟨u, u1, u2⟩ := m5 (off + j) (.d x) (by rw [List.getElem?_map, hx]; rfl)
        exact ⟨u, u1, u2.d_inv.ext hE⟩
      refine .cref ⟨b0, off, none⟩ _ (fun j => c0.getD (off + j) undef) (fun _ => ⟨rfl, hfree, hlt⟩) (fun j x hx => ?_) (fun j x hx => ?_)
      · obtain ⟨u, u1, u2⟩ := hat j x hx
        simp [cellAt, World.cell?, m2, u1]
      · obtain ⟨u, u1, u2⟩ := hat j x hx
        simpa [u1] using u2
  | cref ad cs' c hb hc hr => simp only [T.tr, crF]; exact (RepT.cref (θ := θ) ad cs' c hb hc hr).ext hE (Szp.refl w) (Sub.refl θ)
  | nilp => simp only [T.tr, crF]; exact .nilp
  | nilf => simp only [T.tr, crF]; exact .nilf
  | nili => simp only [T.tr, crF]; exact .nili
  | ifc t _ ih => simp only [T.tr]; exact .ifc t ih
  | mp i l1 hl b hb =>
    simp only [T.tr, crF]
    cases hm : Nat.beq id i with
    | false => exact .mp i l1 hl b hb
    | true => exact .dead _
  | itr i l1 hl b hb =>
    simp only [T.tr, crF]
    cases hm : Nat.beq id i with
    | false => exact .itr i l1 hl b hb
    | true => exact .dead _
  | bs i v l1 hl b hb h =>
    simp only [T.tr, crF]
    cases hm : Nat.beq id i with
    | false => exact .bs i v l1 hl b hb h
    | true => exact .dead _
  | dead v => simp only [T.tr, crF]; exact .dead v
theorem Sat.crf {id : Nat} {t : TypeId} {cs : List D} (hs : Sat P X O w0 θ st a w) (hl : look st.h id = some (.var t (cs.map T.d))) : Sat P X O w0 θ (st.crf id cs) a w := by
  unfold St.crf
  obtain ⟨tt, h, n, nt⟩ := st
  simp only at hl ⊢
  have hhp : HpS P X O w0.heap.size θ h w := hs.hp
  have hN : (Nn X θ (frzH (crF id cs) (Go.VL.remL h [id]))) = Nn X θ (Go.VL.remL h [id]) := funext fun b => propext Nn_frzH
  have hE : Ext w (Nn X θ h) w (Nn X θ (Go.VL.remL h [id])) := Ext.shrink fun b => Nn_remL
  refine ⟨fun i => ?_, ⟨fun i o hi => ?_, fun i i' o1 o2 l1 l2 c h1 h2 => ?_, fun i o l1 c h1 => ?_⟩, hs.fresh, hs.dfr, hs.nts, hs.kp, hs.xb, hs.gl⟩
  · rw [get_frzE rfl]
    show RepT w (Nn X θ (frzH (crF id cs) (Go.VL.remL h [id]))) θ _ _
    rw [hN]
    exact (hs.tm i).crf hhp hl
  · show ∃ l', θ i = some l' ∧ ObS P w (Nn X θ (frzH (crF id cs) (Go.VL.remL h [id]))) θ l' o
    rw [hN]
    rw [look_frzH, look_remL] at hi
    by_cases he : i ∈ [id]
    · simp [he] at hi
    · rw [if_neg he] at hi
      cases ho : look h i with
      | none => simp [ho] at hi
      | some o' =>
        simp [ho] at hi
        obtain ⟨l1, k1, k2⟩ := hhp.ob i o' ho
        refine ⟨l1, k1, ?_⟩
        have k3 := k2.ext hE (Szp.refl w) (Sub.refl θ) (fun _ _ => rfl)
        cases o' with
        | row e es => simp [Ob.tr] at hi; subst hi; exact k3
        | map es => simp [Ob.tr] at hi; subst hi; exact k3
        | iter s p => simp [Ob.tr] at hi; subst hi; exact k3
        | var t ts =>
          simp [Ob.tr] at hi; subst hi
          obtain ⟨e1, e2, b, cs2, fr, m1, m2, m3, m4, m5⟩ := k2
          refine ⟨e1, e2, b, cs2, fr, m1, m2, m3, by rw [trL_length]; exact m4, fun j x hx => ?_⟩
          rw [trL_get] at hx
          cases ht : ts[j]? with
          | none => simp [ht] at hx
          | some y =>
            simp [ht] at hx
            subst hx
            obtain ⟨u, u1, u2⟩ := m5 j y ht
            exact ⟨u, u1, u2.crf hhp hl⟩
  · have key : ∀ {i o}, look (frzH (crF id cs) (Go.VL.remL h [id])) i = some o → ∃ o', look h i = some o' := fun {i o} hi => by
      rw [look_frzH, look_remL] at hi
      by_cases he : i ∈ [id]
      · simp [he] at hi
      · rw [if_neg he] at hi
        cases ho : look h i with
        | none => simp [ho] at hi
        | some o' => exact ⟨o', rfl⟩
    obtain ⟨o1', k1⟩ := key h1
    obtain ⟨o2', k2⟩ := key h2
    exact hhp.inj i i' o1' o2' l1 l2 c k1 k2
  · have : ∃ o', look h i = some o' := by
      rw [look_frzH, look_remL] at h1
      by_cases he : i ∈ [id]
      · simp [he] at h1
      · rw [if_neg he] at h1
        cases ho : look h i with
        | none => simp [ho] at h1
        | some o' => exact ⟨o', rfl⟩
    obtain ⟨o', k⟩ := this
    exact hhp.rng i o' l1 c k
theorem WP.crf {B : Nat} {c : Code} {Q : Ex → St → Prop} {t : TypeId} (id : Nat) (cs : List D) (S : St) (hl : look st.h id = some (.var t (cs.map T.d))) (hS : st.crf id cs = S) (h : WP P B c Q S) : WP P B c Q st := fun X O w0 θ a w hs => h X O w0 θ a w (hS ▸ hs.crf hl)
/-- A state told as another, wherever the code stands. -/
theorem WP.conv {B : Nat} {c : Code} {Q : Ex → St → Prop} (S : St) (h : into B st S) (k : WP P B c Q S) : WP P B c Q st := fun X O w0 θ a w hs => by
  obtain ⟨θ3, r1, r2⟩ := hs.into h
  refine wp_mono (k X O w0 θ3 a w r2) fun e a' w' ⟨e', st', θ', m1, m2, m3, m4⟩ => ⟨e', st', θ', m1, m2, fun id l hb hl => m3 id l hb (r1 id l hb hl), m4⟩
/-- What several ways come to is shown once, behind them. -/
theorem WP.later {P : Program} {G : Prop} {α : Type} {B : Nat} {c : Code} {Q : Ex → St → Prop} (S : α → St) (F : α → Prop) (k : (∀ x, F x → WP P B c Q (S x)) → G) (H : ∀ x, F x → WP P B c Q (S x)) : G := k H
end Go.VL
