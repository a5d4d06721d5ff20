/- Calls. -/
import Derived.Test.YtbokamdcjofkbaaDoorVQ
set_option linter.unusedVariables false
set_option linter.unusedSimpArgs false
namespace Go.VL
open Go Go.RowKit

variable {P : Program} {X O : Nat → Prop} {w0 w w' : World} {θ θ' : Th} {st : St} {a : Act} {N : Nat → Prop}

theorem subN_iff {l m : List Nat} : subN l m = true ↔ ∀ i ∈ l, i ∈ m := by
  induction l with
  | nil => simp [subN]
  | cons x r ih =>
    simp only [subN]
    cases hm : memN m x with
    | true => simp only [ih, List.mem_cons, forall_eq_or_imp]; exact ⟨fun h => ⟨memN_iff.mp hm, h⟩, fun h => h.2⟩
    | false => simp only [List.mem_cons, forall_eq_or_imp, Bool.false_eq_true, false_iff]; rintro ⟨h, _⟩; rw [memN_iff.mpr h] at hm; cases hm
theorem nodupN_iff {l : List Nat} : nodupN l = true → l.Nodup := by
  induction l with
  | nil => simp
  | cons x r ih =>
    simp only [nodupN]
    cases hm : memN r x with
    | true => simp
    | false => intro h; simp only [List.nodup_cons]; exact ⟨(fun hh => by rw [memN_iff.mpr hh] at hm; cases hm), ih h⟩
theorem disjN_iff {l m : List Nat} : disjN l m = true → ∀ i ∈ l, i ∉ m := by
  induction l with
  | nil => simp
  | cons x r ih =>
    simp only [disjN]
    cases hm : memN m x with
    | true => simp
    | false =>
      intro h i hi hh
      rcases List.mem_cons.mp hi with rfl | hi
      · rw [memN_iff.mpr hh] at hm; cases hm
      · exact ih h i hi hh
theorem closN_spec {h : Hp} {ids : List Nat} : ∀ {l : List Nat}, closN h ids l = true → ∀ i ∈ l, ∃ o, look h i = some o ∧ ∀ k ∈ o.ids, k ∈ ids
  | [], _, i, hi => by simp at hi
  | x :: r, hc, i, hi => by
    simp only [closN] at hc
    cases hl : look h x with
    | none => simp [hl] at hc
    | some o =>
      simp only [hl] at hc
      cases hs : subN o.ids ids with
      | false => simp [hs] at hc
      | true =>
        simp only [hs] at hc
        rcases List.mem_cons.mp hi with rfl | hi
        · exact ⟨o, hl, subN_iff.mp hs⟩
        · exact closN_spec hc i hi
theorem posOf_get {l : List Nat} {i : Nat} (h : i ∈ l) : posOf l i < l.length ∧ l[posOf l i]? = some i := by
  induction l with
  | nil => simp at h
  | cons x r ih =>
    simp only [posOf]
    by_cases he : x = i
    · subst he; simp
    · rw [beqf he]
      obtain ⟨h1, h2⟩ := ih (by simpa [Ne.symm (a := x) he, eq_comm, he] using h)
      exact ⟨by simp only [List.length_cons]; omega, by simpa using h2⟩

/-- Renaming. -/
theorem RepT.rn {ρ : Nat → Nat} {N' : Nat → Prop} {v : Value} {x : T} (h : RepT w N θ v x) (hE : Ext w N w N') (hρ : ∀ i ∈ x.ids, ∀ l, θ i = some l → θ' (ρ i) = some l) : RepT w N' θ' v (x.tr (renF ρ)) := by
  have hlist : ∀ {vs : Array Value} {xs : List T}, (∀ (i : Nat) (x : T), xs[i]? = some x → (∀ k ∈ x.ids, ∀ l, θ k = some l → θ' (ρ k) = some l) → RepT w N' θ' (vs.getD i undef) (x.tr (renF ρ))) → (∀ k ∈ idsL xs, ∀ l, θ k = some l → θ' (ρ k) = some l) →
      ∀ (i : Nat) (x : T), (trL (renF ρ) xs)[i]? = some x → RepT w N' θ' (vs.getD i undef) x := fun {vs xs} ih hk i x hx => by
    rw [trL_get] at hx
    cases hxi : xs[i]? with
    | none => simp [hxi] at hx
    | some y =>
      simp [hxi] at hx
      subst hx
      refine ih i y hxi (fun k hk' => hk k ?_)
      have : ∀ {xs : List T} {i : Nat} {y : T}, xs[i]? = some y → ∀ k ∈ y.ids, k ∈ idsL xs := by
        intro xs
        induction xs with
        | nil => intro i y h; simp at h
        | cons z r ih2 =>
          intro i y h k hk
          simp only [idsL, List.mem_append]
          cases i with
          | zero => simp at h; subst h; exact .inl hk
          | succ i => exact .inr (ih2 (by simpa using h) k hk)
      exact this hxi k hk'
  induction h with
  | d h => simp only [T.tr, renF]; exact .d (h.ext hE)
  | agg vs xs hl _ ih => simp only [T.tr]; exact .agg vs _ (by rw [trL_length]; exact hl) (hlist (fun i x hx => ih i x hx) (by simpa [T.ids] using hρ))
  | tup vs xs hl _ ih => simp only [T.tr]; exact .tup vs _ (by rw [trL_length]; exact hl) (hlist (fun i x hx => ih i x hx) (by simpa [T.ids] using hρ))
  | fn f vs xs hl _ ih => simp only [T.tr]; exact .fn f vs _ (by rw [trL_length]; exact hl) (hlist (fun i x hx => ih i x hx) (by simpa [T.ids] using hρ))
  | full id l1 hl b cap hb hlc hz ad hab hsp ho => simp only [T.tr, renF]; exact .full _ l1 (hρ id (by simp [T.ids]) l1 hl) b cap hb hlc hz ad hab hsp ho
  | full0 id l1 hl h0 => simp only [T.tr, renF]; exact .full0 _ l1 (hρ id (by simp [T.ids]) l1 hl) h0
  | own id off len l1 hl b hb ad cap hlc hab hsp hin ho hz => simp only [T.tr, renF]; exact .own _ off len l1 (hρ id (by simp [T.ids]) l1 hl) b hb ad cap hlc hab hsp hin ho hz
  | own0 id off l1 hl => simp only [T.tr, renF]; exact .own0 _ off l1 (hρ id (by simp [T.ids]) l1 hl)
  | nils => simp only [T.tr, renF]; exact .nils
  | ref id i off l1 hl b hb => simp only [T.tr, renF]; exact .ref _ i off l1 (hρ id (by simp [T.ids]) l1 hl) b hb
  | cref ad cs c hb hc hr => simp only [T.tr, renF]; exact (RepT.cref (θ := θ') ad cs c hb hc hr).ext hE (Szp.refl w) (Sub.refl θ')
  | nilp => simp only [T.tr, renF]; exact .nilp
  | nilf => simp only [T.tr, renF]; exact .nilf
  | nili => simp only [T.tr, renF]; exact .nili
  | ifc t _ ih => simp only [T.tr]; exact .ifc t (ih (by simpa [T.ids] using hρ))
  | mp id l1 hl b hb => simp only [T.tr, renF]; exact .mp _ l1 (hρ id (by simp [T.ids]) l1 hl) b hb
  | itr id l1 hl b hb => simp only [T.tr, renF]; exact .itr _ l1 (hρ id (by simp [T.ids]) l1 hl) b hb
  | bs id v l1 hl b hb h => simp only [T.tr, renF]; exact .bs _ v l1 (hρ id (by simp [T.ids]) l1 hl) b hb h
  | dead v => simp only [T.tr, renF]; exact .dead v

/-- Rows told by value. -/
theorem RepT.byval {l : List Nat} {h : Hp} {B : Nat} {v : Value} {t : T} (hp : HpS P X O B θ h w) (ht : RepT w (Nn X θ h) θ v t) (hm : ∀ i ∈ t.rws, i ∈ l) : RepT w (Nn X θ (remL h l)) θ v (t.tr (valF h)) := by
  have hE : Ext w (Nn X θ h) w (Nn X θ (remL h l)) := Ext.shrink fun b => Nn_remL
  have hfree : ∀ {id ob l1 b}, id ∈ l → look h id = some ob → θ id = some l1 → l1.blk = some b → ¬ Nn X θ (remL h l) b := by
    intro id ob l1 b hm h1 h2 h3 hN
    rcases hN with hx | ⟨i, o, l2, k1, k2, k3⟩
    · exact (hp.rng id ob l1 b h1 h2 h3).2.1 hx
    · rw [look_remL] at k1
      by_cases he : i ∈ l
      · simp [he] at k1
      · rw [if_neg he] at k1
        have := hp.inj i id o ob l2 l1 b k1 h1 k2 h2 k3 h3
        subst this
        exact he hm
  have hlist : ∀ {vs : Array Value} {xs : List T}, (∀ (i : Nat) (x : T), xs[i]? = some x → (∀ k ∈ x.rws, k ∈ l) → RepT w (Nn X θ (remL h l)) θ (vs.getD i undef) (x.tr (valF h))) → (∀ k ∈ rwsL xs, k ∈ l) →
      ∀ (i : Nat) (x : T), (trL (valF h) xs)[i]? = some x → RepT w (Nn X θ (remL h l)) θ (vs.getD i undef) x := fun {vs xs} ih hk i x hx => by
    rw [trL_get] at hx
    cases hxi : xs[i]? with
    | none => simp [hxi] at hx
    | some y =>
      simp [hxi] at hx
      subst hx
      exact ih i y hxi (fun k hk' => hk k (rwsL_mem hxi k hk'))
  induction ht with
  | d h => simp only [T.tr, valF]; exact .d (h.ext hE)
  | agg vs xs hl _ ih => simp only [T.tr]; exact .agg vs _ (by rw [trL_length]; exact hl) (hlist (fun i x hx => ih i x hx) (by simpa [T.rws] using hm))
  | tup vs xs hl _ ih => simp only [T.tr]; exact .tup vs _ (by rw [trL_length]; exact hl) (hlist (fun i x hx => ih i x hx) (by simpa [T.rws] using hm))
  | fn f vs xs hl _ ih => simp only [T.tr]; exact .fn f vs _ (by rw [trL_length]; exact hl) (hlist (fun i x hx => ih i x hx) (by simpa [T.rws] using hm))
  | full id l1 hl b cap hb hlc hz ad hab hsp ho =>
    simp only [T.tr, valF]
    cases hlk : look h id with
    | none => exact .dead _
    | some ob =>
      cases ob with
      | row e es =>
        obtain ⟨l2, k1, k2, k3, k4⟩ := hp.ob id _ hlk
        rw [hl] at k1; cases k1
        have := row_val (N' := Nn X θ (remL h l)) (off := 0) (len := l1.len) (cap := cap) (ad := ad) hp hlk hl (fun b => Nn_remL) (fun b hb' => hfree (hm id (by simp [T.rws])) hlk hl hb') hb hab hsp hlc (by simpa using ho) (by simp [k3])
        rw [List.drop_zero, List.take_of_length_le (by omega)] at this
        exact .d this
      | _ => exact .dead _
  | full0 id l1 hl h0 =>
    simp only [T.tr, valF]
    cases hlk : look h id with
    | none => exact .dead _
    | some ob =>
      cases ob with
      | row e es =>
        obtain ⟨l2, k1, k2, k3, k4⟩ := hp.ob id _ hlk
        rw [hl] at k1; cases k1
        have : es = [] := List.length_eq_zero_iff.mp (by omega)
        subst this
        exact .d .nil
      | _ => exact .dead _
  | own id off len l1 hl b hb ad cap hlc hab hsp hin ho hz =>
    simp only [T.tr, valF]
    cases hlk : look h id with
    | none => exact .dead _
    | some ob =>
      cases ob with
      | row e es =>
        obtain ⟨l2, k1, k2, k3, k4⟩ := hp.ob id _ hlk
        rw [hl] at k1; cases k1
        exact .d (row_val (N' := Nn X θ (remL h l)) (off := off) (len := len) (cap := cap) (ad := ad) hp hlk hl (fun b => Nn_remL) (fun b hb' => hfree (hm id (by simp [T.rws])) hlk hl hb') hb hab hsp hlc ho (by simp; omega))
      | _ => exact .dead _
  | own0 id off l1 hl =>
    simp only [T.tr, valF]
    cases hlk : look h id with
    | none => exact .dead _
    | some ob =>
      cases ob with
      | row e es => simp only [List.take_zero]; exact .d .nil
      | _ => exact .dead _
  | nils => simp only [T.tr, valF]; exact .d .nil
  | ref id i off l1 hl b hb => simp only [T.tr, valF]; exact .ref id i off l1 hl b hb
  | cref ad cs c hb hc hr => simp only [T.tr, valF]; exact (RepT.cref (θ := θ) ad cs c hb hc hr).ext hE (Szp.refl w) (Sub.refl θ)
  | nilp => simp only [T.tr, valF]; exact .nilp
  | nilf => simp only [T.tr, valF]; exact .nilf
  | nili => simp only [T.tr, valF]; exact .nili
  | ifc t _ ih => simp only [T.tr]; exact .ifc t (ih (by simpa [T.rws] using hm))
  | mp id l1 hl b hb => simp only [T.tr, valF]; exact .mp id l1 hl b hb
  | itr id l1 hl b hb => simp only [T.tr, valF]; exact .itr id l1 hl b hb
  | bs id v l1 hl b hb h => simp only [T.tr, valF]; exact .bs id v l1 hl b hb h
  | dead v => simp only [T.tr, valF]; exact .dead v

theorem look_subH {h : Hp} {pos : Nat → Nat} : ∀ {l : List Nat} {i : Nat} {o : Ob}, look (subH h pos l) i = some o → ∃ id o0, id ∈ l ∧ look h id = some o0 ∧ pos id = i ∧ o = o0.rn pos
  | [], i, o, hl => by simp [subH, look] at hl
  | x :: r, i, o, hl => by
    simp only [subH] at hl
    cases hx : look h x with
    | none =>
      simp only [hx] at hl
      obtain ⟨id, o0, h1, h2⟩ := look_subH hl
      exact ⟨id, o0, by simp [h1], h2⟩
    | some o0 =>
      simp only [hx] at hl
      rw [look_cons] at hl
      by_cases he : pos x = i
      · rw [if_pos he] at hl; cases hl
        exact ⟨x, o0, by simp, hx, he, rfl⟩
      · rw [if_neg he] at hl
        obtain ⟨id, o0, h1, h2⟩ := look_subH hl
        exact ⟨id, o0, by simp [h1], h2⟩
theorem look_appH : ∀ {a b : Hp} {i : Nat}, look (appH a b) i = match look a i with | some o => some o | none => look b i
  | [], b, i => by simp [appH, look]
  | (k, x) :: r, b, i => by
    simp only [appH, look]
    cases Nat.beq k i with
    | true => rfl
    | false => exact look_appH
theorem look_rnH {ρ : Nat → Nat} : ∀ {h : Hp} {i : Nat} {o : Ob}, look (rnH ρ h) i = some o → ∃ j o0, look h j = some o0 ∧ ρ j = i ∧ o = o0.rn ρ
  | [], i, o, hl => by simp [rnH, look] at hl
  | (k, x) :: r, i, o, hl => by
    simp only [rnH] at hl
    rw [look_cons] at hl
    by_cases he : ρ k = i
    · rw [if_pos he] at hl; cases hl
      exact ⟨k, x, by rw [look_cons, if_pos rfl], he, rfl⟩
    · rw [if_neg he] at hl
      obtain ⟨j, o0, h1, h2, h3⟩ := look_rnH hl
      refine ⟨j, o0, ?_, h2, h3⟩
      rw [look_cons, if_neg]
      · exact h1
      · intro e; subst e; exact he h2
theorem mxN_le (a b : Nat) : a ≤ mxN a b ∧ b ≤ mxN a b := by
  unfold mxN
  cases hb : Nat.ble a b with
  | true => exact ⟨Nat.le_of_ble_eq_true hb, Nat.le_refl _⟩
  | false =>
    have : ¬ a ≤ b := fun h => by rw [Nat.ble_eq_true_of_le h] at hb; cases hb
    exact ⟨Nat.le_refl _, by show b ≤ a; omega⟩
theorem bndL_lt : ∀ {l : List Nat} {i : Nat}, i ∈ l → i < bndL l
  | [], i, h => by simp at h
  | x :: r, i, h => by
    have m := mxN_le (x + 1) (bndL r)
    simp only [bndL]
    rcases List.mem_cons.mp h with rfl | h
    · omega
    · have := bndL_lt h; omega
theorem bndH_lt : ∀ {h : Hp} {i : Nat} {o : Ob}, look h i = some o → i < bndH h ∧ ∀ k ∈ o.ids, k < bndH h
  | [], i, o, hl => by simp [look] at hl
  | (k, x) :: r, i, o, hl => by
    have m1 := mxN_le (k + 1) (mxN (bndL x.ids) (bndH r))
    have m2 := mxN_le (bndL x.ids) (bndH r)
    simp only [bndH]
    rw [look_cons] at hl
    by_cases he : k = i
    · rw [if_pos he] at hl; cases hl
      exact ⟨by omega, fun q hq => by have := bndL_lt hq; omega⟩
    · rw [if_neg he] at hl
      obtain ⟨h1, h2⟩ := bndH_lt hl
      exact ⟨by omega, fun q hq => by have := h2 q hq; omega⟩
end Go.VL
