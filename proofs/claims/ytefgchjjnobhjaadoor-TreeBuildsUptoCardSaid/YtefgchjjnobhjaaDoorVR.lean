/- Calls. -/
import Derived.Test.YtefgchjjnobhjaaDoorVQ
set_option linter.unusedVariables false
set_option linter.unusedSimpArgs false
namespace Go.VL
open Go Go.RowKit

variable {P : Program} {X O : Nat → Prop} {w0 w w' : World} {θ θ' : Th} {st : St} {a : Act} {N : Nat → Prop}

theorem subN_iff {l m : List Nat} : subN l m = true ↔ ∀ i ∈ l, i ∈ m := by
  induction l with
  | nil => simp [subN]
  | cons x r ih =>
    simp only [subN]
    cases hm : memN m x with
    | true => simp only [ih, List.mem_cons, forall_eq_or_imp]; exact ⟨fun h => ⟨memN_iff.mp hm, h⟩, fun h => h.2⟩
    | false => simp only [List.mem_cons, forall_eq_or_imp, Bool.false_eq_true, false_iff]; rintro ⟨h, _⟩; rw [memN_iff.mpr h] at hm; cases hm
theorem nodupN_iff {l : List Nat} : nodupN l = true → l.Nodup := by
  induction l with
  | nil => simp
  | cons x r ih =>
    simp only [nodupN]
    cases hm : memN r x with
    | true => simp
    | false => intro h; simp only [List.nodup_cons]; exact ⟨(fun hh => by rw [memN_iff.mpr hh] at hm; cases hm), ih h⟩
theorem disjN_iff {l m : List Nat} : disjN l m = true → ∀ i ∈ l, i ∉ m := by
  induction l with
  | nil => simp
  | cons x r ih =>
    simp only [disjN]
    cases hm : memN m x with
    | true => simp
    | false =>
      intro h i hi hh
      rcases List.mem_cons.mp hi with rfl | hi
      · rw [memN_iff.mpr hh] at hm; cases hm
      · exact ih h i hi hh
theorem closN_spec {h : Hp} {ids : List Nat} : ∀ {l : List Nat}, closN h ids l = true → ∀ i ∈ l, ∃ o, look h i = some o ∧ ∀ k ∈ o.ids, k ∈ ids
  | [], _, i, hi => by simp at hi
  | x :: r, hc, i, hi => by
    simp only [closN] at hc
    cases hl : look h x with
    | none => simp [hl] at hc
    | some o =>
      simp only [hl] at hc
      cases hs : subN o.ids ids with
      | false => simp [hs] at hc
      | true =>
        simp only [hs] at hc
        rcases List.mem_cons.mp hi with rfl | hi
        · exact ⟨o, hl, subN_iff.mp hs⟩
        · exact closN_spec hc i hi
theorem posOf_get {l : List Nat} {i : Nat} (h : i ∈ l) : posOf l i < l.length ∧ l[posOf l i]? = some i := by
  induction l with
  | nil => simp at h
  | cons x r ih =>
    simp only [posOf]
    by_cases he : x = i
    · subst he; simp
    · rw [beqf he]
      obtain ⟨h1, h2⟩ := ih (by simpa [Ne.symm (a := x) he, eq_comm, he] using h)
      exact ⟨by simp only [List.length_cons]; omega, by simpa using h2⟩

/-- Renaming. -/
theorem RepT.rn {ρ : Nat → Nat} {N' : Nat → Prop} {v : Value} {x : T} (h : RepT w N θ v x) (hE : Ext w N w N') (hρ : ∀ i ∈ x.ids, ∀ l, θ i = some l → θ' (ρ i) = some l) : RepT w N' θ' v (x.tr (renF ρ)) := by
  have hlist : ∀ {vs : Array Value} {xs : List T}, (∀ (i : Nat) (x : T), xs[i]? = some x → (∀ k ∈ x.ids, ∀ l, θ k = some l → θ' (ρ k) = some l) → RepT w N' θ' (vs.getD i undef) (x.tr (renF ρ))) → (∀ k ∈ idsL xs, ∀ l, θ k = some l → θ' (ρ k) = some l) →
      ∀ (i : Nat) (x : T), (trL (renF ρ) xs)[i]? = some x → RepT w N' θ' (vs.getD i undef) x := fun {vs xs} ih hk i x hx => by
    rw [trL_get] at hx
    cases hxi : xs[i]? with
    | none => simp [hxi] at hx
    | some y =>
      simp [hxi] at hx
      subst hx
      refine ih i y hxi (fun k hk' => hk k ?_)
      have : ∀ {xs : List T} {i : Nat} {y : T}, xs[i]? = some y → ∀ k ∈ y.ids, k ∈ idsL xs := by
        intro xs
        induction xs with
        | nil => intro i y h; simp at h
        | cons z r ih2 =>
          intro i y h k hk
          simp only [idsL, List.mem_append]
          cases i with
          | zero => simp at h; subst h; exact .inl hk
          | succ i => exact .inr (ih2 (by simpa using h) k hk)
      exact this hxi k hk'
  induction h with
  | d h => simp only [T.tr, renF]; exact .d (h.ext hE)
  | agg vs xs hl _ ih => simp only [T.tr]; exact .agg vs _ (by rw [trL_length]; exact hl) (hlist (fun i x hx => ih i x hx) (by simpa [T.ids] using hρ))
  | tup vs xs hl _ ih => simp only [T.tr]; exact .tup vs _ (by rw [trL_length]; exact hl) (hlist (fun i x hx => ih i x hx) (by simpa [T.ids] using hρ))
  | fn f vs xs hl _ ih => simp only [T.tr]; exact .fn f vs _ (by rw [trL_length]; exact hl) (hlist (fun i x hx => ih i x hx) (by simpa [T.ids] using hρ))
  | full id l1 hl b cap hb hlc hz ad hab hsp ho => simp only [T.tr, renF]; exact .full _ l1 (hρ id (by simp [T.ids]) l1 hl) b cap hb hlc hz ad hab hsp ho
  | full0 id l1 hl h0 => simp only [T.tr, renF]; exact .full0 _ l1 (hρ id (by simp [T.ids]) l1 hl) h0
  | own id off len l1 hl b hb ad cap hlc hab hsp hin ho hz => simp only [T.tr, renF]; exact .own _ off len l1 (hρ id (by simp [T.ids]) l1 hl) b hb ad cap hlc hab hsp hin ho hz
  | own0 id off l1 hl => simp only [T.tr, renF]; exact .own0 _ off l1 (hρ id (by simp [T.ids]) l1 hl)
  | nils => simp only [T.tr, renF]; exact .nils
  | ref id i off l1 hl b hb => simp only [T.tr, renF]; exact .ref _ i off l1 (hρ id (by simp [T.ids]) l1 hl) b hb
  | cref ad cs c hb hc hr => simp only [T.tr, renF]; exact (RepT.cref (θ := θ') ad cs c hb hc hr).ext hE (Szp.refl w) (Sub.refl θ')
  | nilp => simp only [T.tr, renF]; exact .nilp
  | nilf => simp only [T.tr, renF]; exact .nilf
  | nili => simp only [T.tr, renF]; exact .nili
  | ifc t _ ih => simp only [T.tr]; exact .ifc t (ih (by simpa [T.ids] using hρ))
  | mp id l1 hl b hb => simp only [T.tr, renF]; exact .mp _ l1 (hρ id (by simp [T.ids]) l1 hl) b hb
  | itr id l1 hl b hb => simp only [T.tr, renF]; exact .itr _ l1 (hρ id (by simp [T.ids]) l1 hl) b hb
  | bs id v l1 hl b hb h => simp only [T.tr, renF]; exact .bs _ v l1 (hρ id (by simp [T.ids]) l1 hl) b hb h
  | dead v => simp only [T.tr, renF]; exact .dead v

/-- Rows told by value. -/
theorem RepT.byval {l : List Nat} {h : Hp} {B : Nat} {v : Value} {t : T} (hp : HpS P X O B θ h w) (ht : RepT w (Nn X θ h) θ v t) (hm : ∀ i ∈ t.rws, i ∈ l) : RepT w (Nn X θ (remL h l)) θ v (t.tr (valF h)) := by
  have hE : Ext w (Nn X θ h) w (Nn X θ (remL h l)) := Ext.shrink fun b => Nn_remL
  have hfree : ∀ {id ob l1 b}, id ∈ l → look h id = some ob → θ id = some l1 → l1.blk = some b → ¬ Nn X θ (remL h l) b := by
    intro id ob l1 b hm h1 h2 h3 hN
    rcases hN with hx | ⟨i, o, l2, k1, k2, k3⟩
    · exact (hp.rng id ob l1 b h1 h2 h3).2.1 hx
    · rw [look_remL] at k1
      by_cases he : i ∈ l
      · simp [he] at k1
      · rw [if_neg he] at k1
        have := hp.inj i id o ob l2 l1 b k1 h1 k2 h2 k3 h3
        subst this
        exact he hm
  have hlist : ∀ {vs : Array Value} {xs : List T}, (∀ (i : Nat) (x : T), xs[i]? = some x → (∀ k ∈ x.rws, k ∈ l) → RepT w (Nn X θ (remL h l)) θ (vs.getD i undef) (x.tr (valF h))) → (∀ k ∈ rwsL xs, k ∈ l) →
      ∀ (i : Nat) (x : T), (trL (valF h) xs)[i]? = some x → RepT w (Nn X θ (remL h l)) θ (vs.getD i undef) x := fun {vs xs} ih hk i x hx => by
    rw [trL_get] at hx
    cases hxi : xs[i]? with
    | none => simp [hxi] at hx
    | some y =>
      simp [hxi] at hx
      subst hx
      exact ih i y hxi (fun k hk' => hk k (rwsL_mem hxi k hk'))
  induction ht with
  | d h => simp only [T.tr, valF]; exact .d (h.ext hE)
  | agg vs xs hl _ ih => simp only [T.tr]; exact .agg vs _ (by rw [trL_length]; exact hl) (hlist (fun i x hx => ih i x hx) (by simpa [T.rws] using hm))
  | tup vs xs hl _ ih => simp only [T.tr]; exact .tup vs _ (by rw [trL_length]; exact hl) (hlist (fun i x hx => ih i x hx) (by simpa [T.rws] using hm))
  | fn f vs xs hl _ ih => simp only [T.tr]; exact .fn f vs _ (by rw [trL_length]; exact hl) (hlist (fun i x hx => ih i x hx) (by simpa [T.rws] using hm))
  | full id l1 hl b cap hb hlc hz ad hab hsp ho =>
    simp only [T.tr, valF]
    cases hlk : look h id with
    | none => exact .dead _
    | some ob =>
      cases ob with
      | row e es =>
        obtain ⟨l2, k1, k2, k3, k4⟩ := hp.ob id _ hlk
        rw [hl] at k1; cases k1
        have := row_val (N' := Nn X θ (remL h l)) (off := 0) (len := l1.len) (cap := cap) (ad := ad) hp hlk hl (fun b => Nn_remL) (fun b hb' => hfree (hm id (by simp [T.rws])) hlk hl hb') hb hab hsp hlc (by simpa using ho) (by simp [k3])
        rw [List.drop_zero, List.take_of_length_le (by omega)] at this
        exact .d this
      | _ => exact .dead _
  | full0 id l1 hl h0 =>
    simp only [T.tr, valF]
    cases hlk : look h id with
    | none => exact .dead _
    | some ob =>
      cases ob with
      | row e es =>
        obtain ⟨l2, k1, k2, k3, k4⟩ := hp.ob id _ hlk
        rw [hl] at k1; cases k1
        have : es = [] := List.length_eq_zero_iff.mp (by omega)
        subst this
        exact .d .nil
      | _ => exact .dead _
  | own id off len l1 hl b hb ad cap hlc hab hsp hin ho hz =>
    simp only [T.tr, valF]
    cases hlk : look h id with
    | none => exact .dead _
    | some ob =>
      cases ob with
      | row e es =>
        obtain ⟨l2, k1, k2, k3, k4⟩ := hp.ob id _ hlk
        rw [hl] at k1; cases k1
        exact .d (row_val (N' := Nn X θ (remL h l)) (off := off) (len := len) (cap := cap) (ad := ad) hp hlk hl (fun b => Nn_remL) (fun b hb' => hfree (hm id (by simp [T.rws])) hlk hl hb') hb hab hsp hlc ho (by simp; omega))
      | _ => exact .dead _
  | own0 id off l1 hl =>
    simp only [T.tr, valF]
    cases hlk : look h id with
    | none => exact .dead _
    | some ob =>
      cases ob with
      | row e es => simp only [List.take_zero]; exact .d .nil
      | _ => exact .dead _
  | nils => simp only [T.tr, valF]; exact .d .nil
  | ref id i off l1 hl b hb => simp only [T.tr, valF]; exact .ref id i off l1 hl b hb
  | cref ad cs c hb hc hr => simp only [T.tr, valF]; exact (RepT.cref (θ := θ) ad cs c hb hc hr).ext hE (Szp.refl w) (Sub.refl θ)
  | nilp => simp only [T.tr, valF]; exact .nilp
  | nilf => simp only [T.tr, valF]; exact .nilf
  | nili => simp only [T.tr, valF]; exact .nili
  | ifc t _ ih => simp only [T.tr]; exact .ifc t (ih (by simpa [T.rws] using hm))
  | mp id l1 hl b hb => simp only [T.tr, valF]; exact .mp id l1 hl b hb
  | itr id l1 hl b hb => simp only [T.tr, valF]; exact .itr id l1 hl b hb
  | bs id v l1 hl b hb h => simp only [T.tr, valF]; exact .bs id v l1 hl b hb h
  | dead v => simp only [T.tr, valF]; exact .dead v

theorem look_subH {h : Hp} {pos : Nat → Nat} : ∀ {l : List Nat} {i : Nat} {o : Ob}, look (subH h pos l) i = some o → ∃ id o0, id ∈ l ∧ look h id = some o0 ∧ pos id = i ∧ o = o0.rn pos
  | [], i, o, hl => by simp [subH, look] at hl
  | x :: r, i, o, hl => by
    simp only [subH] at hl
    cases hx : look h x with
    | none =>
      simp only [hx] at hl
      obtain ⟨id, o0, h1, h2⟩ := look_subH hl
      exact ⟨id, o0, by simp [h1], h2⟩
    | some o0 =>
      simp only [hx] at hl
      rw [look_cons] at hl
      by_cases he : pos x = i
      · rw [if_pos he] at hl; cases hl
        exact ⟨x, o0, by simp, hx, he, rfl⟩
      · rw [if_neg he] at hl
        obtain ⟨id, o0, h1, h2⟩ := look_subH hl
        exact ⟨id, o0, by simp [h1], h2⟩
theorem look_appH : ∀ {a b : Hp} {i : Nat}, look (appH a b) i = match look a i with | some o => some o | none => look b i
  | [], b, i => by simp [appH, look]
  | (k, x) :: r, b, i => by
    simp only [appH, look]
    cases Nat.beq k i with
    | true => rfl
    | false => exact look_appH
theorem look_rnH {ρ : Nat → Nat} : ∀ {h : Hp} {i : Nat} {o : Ob}, look (rnH ρ h) i = some o → ∃ j o0, look h j = some o0 ∧ ρ j = i ∧ o = o0.rn ρ
  | [], i, o, hl => by simp [rnH, look] at hl
  | (k, x) :: r, i, o, hl => by
    simp only [rnH] at hl
    rw [look_cons] at hl
    by_cases he : ρ k = i
    · rw [if_pos he] at hl; cases hl
      exact ⟨k, x, by rw [look_cons, if_pos rfl], he, rfl⟩
    · rw [if_neg he] at hl
      obtain ⟨j, o0, h1, h2, h3⟩ := look_rnH hl
      refine ⟨j, o0, ?_, h2, h3⟩
      rw [look_cons, if_neg]
      · exact h1
      · intro e; subst e; exact he h2
theorem mxN_le (a b : Nat) : a ≤ mxN a b ∧ b ≤ mxN a b := by
  unfold mxN
  cases hb : Nat.ble a b with
  | true => exact ⟨Nat.le_of_ble_eq_true hb, Nat.le_refl _⟩
  | false =>
    have : ¬ a ≤ b := fun h => by rw [Nat.ble_eq_true_of_le h] at hb; cases hb
    exact ⟨Nat.le_refl _, by show b ≤ a; omega⟩
theorem bndL_lt : ∀ {l : List Nat} {i : Nat}, i ∈ l → i < bndL l
  | [], i, h => by simp at h
  | x :: r, i, h => by
    have m := mxN_le (x + 1) (bndL r)
    simp only [bndL]
    rcases List.mem_cons.mp h with rfl | h
    · omega
    · have := bndL_lt h; omega
theorem bndH_lt : ∀ {h : Hp} {i : Nat} {o : Ob}, look h i = some o → i < bndH h ∧ ∀ k ∈ o.ids, k < bndH h
  | [], i, o, hl => by simp [look] at hl
  | (k, x) :: r, i, o, hl => by
    have m1 := mxN_le (k + 1) (mxN (bndL x.ids) (bndH r))
    have m2 := mxN_le (bndL x.ids) (bndH r)
    simp only [bndH]
    rw [look_cons] at hl
    by_cases he : k = i
    · rw [if_pos he] at hl; cases hl
      exact ⟨by omega, fun q hq => by have := bndL_lt hq; omega⟩
    · rw [if_neg he] at hl
      obtain ⟨h1, h2⟩ := bndH_lt hl
      exact ⟨by omega, fun q hq => by have := h2 q hq; omega⟩
end Go.VL

/- A call, as the caller sees it. -/
namespace Go.VL
open Go Go.RowKit

variable {P : Program} {X O : Nat → Prop} {w0 w w' : World} {θ θ' : Th} {st : St} {a : Act} {N : Nat → Prop}

theorem idsL_mem {l : List T} {j : Nat} {x : T} (h : l[j]? = some x) : ∀ i ∈ x.ids, i ∈ idsL l := by
  induction l generalizing j with
  | nil => simp at h
  | cons y r ih =>
    intro i hi
    simp only [idsL, List.mem_append]
    cases j with
    | zero => simp at h; subst h; exact .inl hi
    | succ j => exact .inr (ih (by simpa using h) i hi)

def callTh (θ : Th) (ids : List Nat) : Th := fun i => match ids[i]? with | some j => θ j | none => none

theorem callTh_pos {ids : List Nat} {i : Nat} (h : i ∈ ids) : callTh θ ids (posOf ids i) = θ i := by
  unfold callTh; rw [(posOf_get h).2]

/-- Objects in another's keeping: blocks that the callee must not hand out. -/
def callX (X : Nat → Prop) (θ : Th) (h : Hp) (ids bor : List Nat) (b : Nat) : Prop := X b ∨ ∃ id o l, look h id = some o ∧ id ∉ ids ∧ id ∉ bor ∧ θ id = some l ∧ l.blk = some b
def callO (θ : Th) (ids : List Nat) (b : Nat) : Prop := ∃ id l, id ∈ ids ∧ θ id = some l ∧ l.blk = some b

theorem callN {ids bor : List Nat} {h : Hp} {b : Nat} (hdis : ∀ i ∈ bor, i ∉ ids) (hb : Nn (callX X θ h ids bor) (callTh θ ids) (subH h (posOf ids) ids) b) : Nn X θ (remL h bor) b := by
  rcases hb with hx | ⟨i, o, l, h1, h2, h3⟩
  · rcases hx with hx | ⟨id, o, l, k1, k2, k3, k4, k5⟩
    · exact .inl hx
    · exact .inr ⟨id, o, l, by rw [look_remL, if_neg k3]; exact k1, k4, k5⟩
  · obtain ⟨id, o0, k1, k2, k3, _⟩ := look_subH h1
    rw [← k3, callTh_pos k1] at h2
    exact .inr ⟨id, o0, l, by rw [look_remL, if_neg (fun hh => hdis id hh k1)]; exact k2, h2, h3⟩

/-- The state that the callee begins in. -/
theorem call_in (hs : Sat P X O w0 θ st a w) {ids bor : List Nat} (hdis : ∀ i ∈ bor, i ∉ ids) (hclos : ∀ i ∈ ids, ∃ o, look st.h i = some o ∧ ∀ k ∈ o.ids, k ∈ ids) :
    HpS P (callX X θ st.h ids bor) (callO θ ids) w.heap.size (callTh θ ids) (subH st.h (posOf ids) ids) w ∧ (∀ b, callX X θ st.h ids bor b → b < w.heap.size) ∧
    ∀ {v x}, RepT w (Nn X θ (remL st.h bor)) θ v x → (∀ i ∈ x.ids, i ∈ ids) → RepT w (Nn (callX X θ st.h ids bor) (callTh θ ids) (subH st.h (posOf ids) ids)) (callTh θ ids) v (x.tr (renF (posOf ids))) := by
  have hsh : Ext w (Nn X θ (remL st.h bor)) w (Nn (callX X θ st.h ids bor) (callTh θ ids) (subH st.h (posOf ids) ids)) := Ext.shrink fun b => callN hdis
  have hsh2 : Ext w (Nn X θ st.h) w (Nn (callX X θ st.h ids bor) (callTh θ ids) (subH st.h (posOf ids) ids)) := Ext.shrink fun b hb => Nn_remL (callN hdis hb)
  have hren : ∀ {x : T}, (∀ i ∈ x.ids, i ∈ ids) → ∀ i ∈ x.ids, ∀ l, θ i = some l → callTh θ ids (posOf ids i) = some l := fun {x} hx i hi l hl => by rw [callTh_pos (hx i hi)]; exact hl
  refine ⟨⟨fun i ob hl => ?_, fun i i' o1 o2 l1 l2 b h1 h2 h3 h4 h5 h6 => ?_, fun i ob l b h1 h2 h3 => ?_⟩, fun b hb => ?_, fun {v x} hv hx => hv.rn hsh (hren hx)⟩
  · obtain ⟨id, o0, k1, k2, k3, rfl⟩ := look_subH hl
    obtain ⟨l, m1, m2⟩ := hs.hp.ob id o0 k2
    refine ⟨l, by rw [← k3, callTh_pos k1]; exact m1, ?_⟩
    obtain ⟨o1, q1, q2⟩ := hclos id k1
    rw [k2] at q1; cases q1
    cases o0 with
    | row e es =>
        obtain ⟨z1, z2, z3, z4⟩ := m2
        refine ⟨z1, z2, z3, ?_⟩
        cases hb : l.blk with
        | none => simpa [hb] using z4
        | some b =>
          simp only [hb] at z4 ⊢
          obtain ⟨cs, fr, y1, y2, y3, y4⟩ := z4
          exact ⟨cs, fr, y1, y2, y3, fun i j x hx => let ⟨u, u1, u2⟩ := y4 i j x hx; ⟨u, u1, u2.ext hsh2⟩⟩
    | map es =>
        obtain ⟨b, ents, clock, y0, y1, y2, y3⟩ := m2
        refine ⟨b, ents, clock, y0, y1, y2, fun i k v hkv => ?_⟩
        obtain ⟨en, ks, vs, e1, e2, e3, e4, e5, e6, e7⟩ := y3 i k v hkv
        exact ⟨en, ks, vs, e1, e2, e3, e4, e5, fun j x hx => let ⟨u, u1, u2⟩ := e6 j x hx; ⟨u, u1, u2.ext hsh2⟩, fun j x hx => let ⟨u, u1, u2⟩ := e7 j x hx; ⟨u, u1, u2.ext hsh2⟩⟩
    | iter s p => exact m2
    | var t ts =>
        obtain ⟨z1, z0, b, cs, fr, y0, y1, y2, y3, y4⟩ := m2
        refine ⟨z1, z0, b, cs, fr, y0, y1, y2, by rw [trL_length]; exact y3, fun j x hx => ?_⟩
        rw [trL_get] at hx
        cases ht : ts[j]? with
        | none => simp [ht] at hx
        | some y =>
          simp [ht] at hx
          subst hx
          obtain ⟨u, u1, u2⟩ := y4 j y ht
          exact ⟨u, u1, u2.rn hsh2 (hren (fun i hi => q2 i (idsL_mem ht i hi)))⟩
  · obtain ⟨id, o0, k1, k2, k3, _⟩ := look_subH h1
    obtain ⟨id', o0', k1', k2', k3', _⟩ := look_subH h2
    rw [← k3, callTh_pos k1] at h3
    rw [← k3', callTh_pos k1'] at h4
    rw [← k3, ← k3', hs.hp.inj id id' o0 o0' l1 l2 b k2 k2' h3 h4 h5 h6]
  · obtain ⟨id, o0, k1, k2, k3, _⟩ := look_subH h1
    rw [← k3, callTh_pos k1] at h2
    obtain ⟨q1, q2, q3⟩ := hs.hp.rng id o0 l b k2 h2 h3
    refine ⟨q1, fun hx => ?_, .inl ⟨id, l, k1, h2, h3⟩⟩
    rcases hx with hx | ⟨id', o', l', m1, m2, m3, m4, m5⟩
    · exact q2 hx
    · have := hs.hp.inj id' id o' o0 l' l b m1 k2 m4 h2 m5 h3
      subst this
      exact m2 k1
  · rcases hb with hx | ⟨id', o', l', m1, m2, m3, m4, m5⟩
    · exact hs.xlt b hx
    · exact (hs.hp.rng id' o' l' b m1 m4 m5).1

/-- The names behind the call. -/
def retTh (θ θ' : Th) (ids : List Nat) (n m : Nat) : Th := fun i => match θ i with
  | some l => some l
  | none => if n + ids.length ≤ i ∧ i < n + m then θ' (i - n) else none

theorem idAt_eq {ids : List Nat} {n j : Nat} : idAt ids n j = if h : j < ids.length then ids[j] else n + j := by
  unfold idAt
  rw [nth_eq]
  by_cases h : j < ids.length
  · simp [h]
  · simp [h]

theorem retTh_at {ids : List Nat} {n m j : Nat} {l : Lay} (hf : ∀ id, n ≤ id → θ id = none) (hall : ∀ i ∈ ids, ∃ l, θ i = some l) (hsub : Sub (callTh θ ids) θ') (hj : θ' j = some l) (hjm : j < m) :
    retTh θ θ' ids n m (idAt ids n j) = some l := by
  rw [idAt_eq]
  by_cases h : j < ids.length
  · rw [dif_pos h]
    obtain ⟨l1, h1⟩ := hall ids[j] (List.getElem_mem h)
    have : callTh θ ids j = some l1 := by simp [callTh, h, h1]
    have := hsub j l1 this
    rw [hj] at this
    cases this
    unfold retTh
    rw [h1]
  · rw [dif_neg h]
    unfold retTh
    rw [hf (n + j) (by omega)]
    simp only
    rw [if_pos (by omega), show n + j - n = j by omega]
    exact hj

/-- Behind the call: objects handed back take their places, all else is as it was. -/
theorem call_out {s : St} (hs : Sat P X O w0 θ s a w) {ids bor : List Nat} {h0 : Hp} {θ0 : Th} (hids : ∀ i ∈ ids, ∃ o l, look s.h i = some o ∧ θ i = some l)
    (hX : ∀ b, X b → callX X θ0 h0 ids bor b) (hX2 : ∀ id o l b, look s.h id = some o → id ∉ ids → θ id = some l → l.blk = some b → callX X θ0 h0 ids bor b)
    {r : T} {h' : Hp} {θ' : Th} {v : Value} {m : Nat} (hsub : Sub (callTh θ ids) θ') (hr : RepT w' (Nn (callX X θ0 h0 ids bor) θ' h') θ' v r) (hp' : HpS P (callX X θ0 h0 ids bor) (callO θ ids) w.heap.size θ' h' w') (hk : Kp (callO θ ids) w w')
    (hm1 : ∀ i ∈ r.ids, i < m) (hm2 : ∀ i o, look h' i = some o → i < m ∧ ∀ k ∈ o.ids, k < m) :
    Sub θ (retTh θ θ' ids s.n m) ∧ Sat P X O w0 (retTh θ θ' ids s.n m) ⟨s.t, appH (rnH (idAt ids s.n) h') (remL s.h ids), s.n + m, s.nt⟩ a w' ∧
      RepT w' (Nn X (retTh θ θ' ids s.n m) (appH (rnH (idAt ids s.n) h') (remL s.h ids))) (retTh θ θ' ids s.n m) v (resT (idAt ids s.n) r) := by
  have hall : ∀ i ∈ ids, ∃ l, θ i = some l := fun i hi => let ⟨o, l, _, h⟩ := hids i hi; ⟨l, h⟩
  have hsubθ : Sub θ (retTh θ θ' ids s.n m) := fun id l hl => by unfold retTh; rw [hl]
  have hat : ∀ {j l}, θ' j = some l → j < m → retTh θ θ' ids s.n m (idAt ids s.n j) = some l := fun {j l} hj hjm => retTh_at hs.fresh hall hsub hj hjm
  -- what lies in the new heap
  have key : ∀ {i o}, look (appH (rnH (idAt ids s.n) h') (remL s.h ids)) i = some o → (∃ j o0 l, look h' j = some o0 ∧ idAt ids s.n j = i ∧ o = o0.rn (idAt ids s.n) ∧ θ' j = some l ∧ retTh θ θ' ids s.n m i = some l ∧ ObS P w' (Nn (callX X θ0 h0 ids bor) θ' h') θ' l o0) ∨
      (look s.h i = some o ∧ i ∉ ids ∧ ∃ l, θ i = some l ∧ retTh θ θ' ids s.n m i = some l) := fun {i o} hi => by
    rw [look_appH] at hi
    cases hl : look (rnH (idAt ids s.n) h') i with
    | some o' =>
      simp only [hl] at hi; cases hi
      obtain ⟨j, o0, h1, h2, h3⟩ := look_rnH hl
      obtain ⟨l, k1, k2⟩ := hp'.ob j o0 h1
      exact .inl ⟨j, o0, l, h1, h2, h3, k1, by rw [← h2]; exact hat k1 (hm2 j o0 h1).1, k2⟩
    | none =>
      simp only [hl] at hi
      rw [look_remL] at hi
      by_cases he : i ∈ ids
      · simp [he] at hi
      · rw [if_neg he] at hi
        obtain ⟨l, k1, _⟩ := hs.hp.ob i o hi
        exact .inr ⟨hi, he, l, k1, hsubθ i l k1⟩
  have hnew : ∀ {b}, callO θ ids b → Nn X θ s.h b := fun {b} ⟨id, l, h1, h2, h3⟩ => by
    obtain ⟨o, l', k1, k2⟩ := hids id h1
    rw [h2] at k2; cases k2
    exact .inr ⟨id, o, l, k1, h2, h3⟩
  have hN : ∀ {b}, Nn X (retTh θ θ' ids s.n m) (appH (rnH (idAt ids s.n) h') (remL s.h ids)) b → Nn (callX X θ0 h0 ids bor) θ' h' b ∧ (b < w.heap.size → Nn X θ s.h b) := fun {b} hb => by
    rcases hb with hx | ⟨i, o, l, h1, h2, h3⟩
    · exact ⟨.inl (hX b hx), fun _ => .inl hx⟩
    · rcases key h1 with ⟨j, o0, l', k1, k2, k3, k4, k5, k6⟩ | ⟨k1, k2, l', k3, k4⟩
      · rw [h2] at k5; cases k5
        refine ⟨.inr ⟨j, o0, l, k1, k4, h3⟩, fun hlt => ?_⟩
        rcases (hp'.rng j o0 l b k1 k4 h3).2.2 with h | h
        · exact hnew h
        · omega
      · rw [h2] at k4; cases k4
        exact ⟨.inl (hX2 i o l b k1 k2 k3 h3), fun _ => .inr ⟨i, o, l, k1, k3, h3⟩⟩
  have hE : Ext w (Nn X θ s.h) w' (Nn X (retTh θ θ' ids s.n m) (appH (rnH (idAt ids s.n) h') (remL s.h ids))) :=
    ⟨hk.size, fun b hlt hn => ⟨fun hb => hn ((hN hb).2 hlt), hk.block b hlt (fun ho => hn (hnew ho))⟩⟩
  have hE2 : Ext w' (Nn (callX X θ0 h0 ids bor) θ' h') w' (Nn X (retTh θ θ' ids s.n m) (appH (rnH (idAt ids s.n) h') (remL s.h ids))) := Ext.shrink fun b hb => (hN hb).1
  have hrn : ∀ {x : T}, (∀ i ∈ x.ids, i < m) → ∀ i ∈ x.ids, ∀ l, θ' i = some l → retTh θ θ' ids s.n m (idAt ids s.n i) = some l := fun {x} hx i hi l hl => hat hl (hx i hi)
  refine ⟨hsubθ, ?_, hr.rn hE2 (hrn hm1)⟩
  refine hs.move hE hk.shp hsubθ ⟨fun i o hi => ?_, fun i i' o1 o2 l1 l2 b h1 h2 h3 h4 h5 h6 => ?_, fun i o l b h1 h2 h3 => ?_⟩ (fun i hi => ?_) (hs.kp.trans' hk (fun b hb ho => ?_))
  · rcases key hi with ⟨j, o0, l, k1, k2, rfl, k4, k5, k6⟩ | ⟨k1, k2, l, k3, k4⟩
    · refine ⟨l, k5, ?_⟩
      have hmo := (hm2 j o0 k1).2
      cases o0 with
      | row e es =>
        obtain ⟨z1, z2, z3, z4⟩ := k6
        refine ⟨z1, z2, z3, ?_⟩
        cases hb : l.blk with
        | none => simpa [hb] using z4
        | some b =>
          simp only [hb] at z4 ⊢
          obtain ⟨cs, fr, y1, y2, y3, y4⟩ := z4
          exact ⟨cs, fr, y1, y2, y3, fun i j x hx => let ⟨u, u1, u2⟩ := y4 i j x hx; ⟨u, u1, u2.ext hE2⟩⟩
      | map es =>
        obtain ⟨b, ents, clock, y0, y1, y2, y3⟩ := k6
        refine ⟨b, ents, clock, y0, y1, y2, fun i k v hkv => ?_⟩
        obtain ⟨en, ks, vs, e1, e2, e3, e4, e5, e6, e7⟩ := y3 i k v hkv
        exact ⟨en, ks, vs, e1, e2, e3, e4, e5, fun j x hx => let ⟨u, u1, u2⟩ := e6 j x hx; ⟨u, u1, u2.ext hE2⟩, fun j x hx => let ⟨u, u1, u2⟩ := e7 j x hx; ⟨u, u1, u2.ext hE2⟩⟩
      | iter q p => exact k6
      | var t ts =>
        obtain ⟨z1, z0, b, cs, fr, y0, y1, y2, y3, y4⟩ := k6
        refine ⟨z1, z0, b, cs, fr, y0, y1, y2, by rw [trL_length]; exact y3, fun j' x hx => ?_⟩
        rw [trL_get] at hx
        cases ht : ts[j']? with
        | none => simp [ht] at hx
        | some y =>
          simp [ht] at hx
          subst hx
          obtain ⟨u, u1, u2⟩ := y4 j' y ht
          exact ⟨u, u1, u2.rn hE2 (hrn (fun i hi => hmo i (idsL_mem ht i hi)))⟩
    · obtain ⟨l', m1, m2⟩ := hs.hp.ob i o k1
      rw [k3] at m1; cases m1
      refine ⟨l, k4, m2.ext hE hk.shp hsubθ (fun b hb => hk.block b (hs.hp.rng i o l b k1 k3 hb).1 (fun ho => ?_))⟩
      obtain ⟨id, l2, q1, q2, q3⟩ := ho
      obtain ⟨o2, l3, q4, q5⟩ := hids id q1
      have := hs.hp.inj i id o o2 l l2 b k1 q4 k3 q2 hb q3
      subst this
      exact k2 q1
  · rcases key h1 with ⟨j, o0, l, k1, k2, k3, k4, k5, k6⟩ | ⟨k1, k2, l, k3, k4⟩ <;> rcases key h2 with ⟨j', o0', l', k1', k2', k3', k4', k5', k6'⟩ | ⟨k1', k2', l', k3', k4'⟩
    · rw [h3] at k5; cases k5
      rw [h4] at k5'; cases k5'
      rw [← k2, ← k2', hp'.inj j j' o0 o0' l1 l2 b k1 k1' k4 k4' h5 h6]
    · rw [h3] at k5; cases k5
      rw [h4] at k4'; cases k4'
      exact absurd (hX2 i' o2 l2 b k1' k2' k3' h6) (hp'.rng j o0 l1 b k1 k4 h5).2.1
    · rw [h3] at k4; cases k4
      rw [h4] at k5'; cases k5'
      exact absurd (hX2 i o1 l1 b k1 k2 k3 h5) (hp'.rng j' o0' l2 b k1' k4' h6).2.1
    · rw [h3] at k4; cases k4
      rw [h4] at k4'; cases k4'
      exact hs.hp.inj i i' o1 o2 l1 l2 b k1 k1' k3 k3' h5 h6
  · rcases key h1 with ⟨j, o0, l', k1, k2, k3, k4, k5, k6⟩ | ⟨k1, k2, l', k3, k4⟩
    · rw [h2] at k5; cases k5
      obtain ⟨q1, q2, q3⟩ := hp'.rng j o0 l b k1 k4 h3
      refine ⟨q1, fun hx => q2 (hX b hx), ?_⟩
      rcases q3 with ⟨id, l2, p1, p2, p3⟩ | q3
      · obtain ⟨o2, l3, p4, p5⟩ := hids id p1
        exact (hs.hp.rng id o2 l2 b p4 p2 p3).2.2
      · exact .inr (Nat.le_trans hs.kp.size q3)
    · rw [h2] at k4; cases k4
      obtain ⟨q1, q2, q3⟩ := hs.hp.rng i o l b k1 k3 h3
      exact ⟨Nat.lt_of_lt_of_le q1 hk.size, q2, q3⟩
  · unfold retTh
    rw [hs.fresh i (by omega)]
    simp only
    rw [if_neg (by omega)]
  · obtain ⟨id, l2, p1, p2, p3⟩ := ho
    obtain ⟨o2, l3, p4, p5⟩ := hids id p1
    rcases (hs.hp.rng id o2 l2 b p4 p2 p3).2.2 with h | h
    · exact h
    · omega
end Go.VL
