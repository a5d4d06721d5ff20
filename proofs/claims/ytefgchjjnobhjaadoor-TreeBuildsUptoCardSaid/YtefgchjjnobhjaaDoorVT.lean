/- A call keeps to what the generator says of it. -/
import Derived.Test.YtefgchjjnobhjaaDoorVR
import Derived.Test.YtefgchjjnobhjaaDoorVQ
set_option linter.unusedVariables false
set_option linter.unusedSimpArgs false
namespace Go.VL
open Go Go.RowKit

variable {P : Program} {X O : Nat → Prop} {w0 w w' : World} {θ θ' : Th} {st : St} {a : Act} {N : Nat → Prop}

theorem frz_n (l : List Nat) : (st.frz l).n = st.n := by cases l <;> rfl
theorem frz_nt (l : List Nat) : (st.frz l).nt = st.nt := by cases l <;> rfl
theorem look_frz {l : List Nat} {i : Nat} {o : Ob} (h : look (st.frz l).h i = some o) : i ∉ l ∧ ∃ o', look st.h i = some o' := by
  cases l with
  | nil => exact ⟨by simp, o, h⟩
  | cons x r =>
    have h' : look (frzH (frzF st.h (x :: r)) (remL st.h (x :: r))) i = some o := h
    rw [look_frzH, look_remL] at h'
    by_cases hm : i ∈ x :: r
    · rw [if_pos hm] at h'; simp at h'
    · rw [if_neg hm] at h'
      cases hl : look st.h i with
      | none => simp [hl] at h'
      | some o' => exact ⟨hm, o', rfl⟩
theorem look_frz' {l : List Nat} {i : Nat} {o : Ob} (hm : i ∉ l) (h : look st.h i = some o) : ∃ o', look (st.frz l).h i = some o' := by
  cases l with
  | nil => exact ⟨o, h⟩
  | cons x r =>
    have : look (st.frz (x :: r)).h i = look (frzH (frzF st.h (x :: r)) (remL st.h (x :: r))) i := rfl
    rw [this, look_frzH, look_remL, if_neg hm, h]
    exact ⟨_, rfl⟩

def plain1 : T → Bool
  | .d (.sl _) => false | .d _ => true | .nili => true | _ => false

theorem RepD.plain {w' : World} {N' : Nat → Prop} {v : Value} {x : D} (hx : ∀ es, x ≠ .sl es) (h : RepD w N v x) : RepD w' N' v x := by
  cases h with
  | bool b => exact .bool b
  | int k n => exact .int k n
  | str s => exact .str s
  | nil => exact absurd rfl (hx _)
  | sl => exact absurd rfl (hx _)

theorem plain_rep {w' : World} {N' : Nat → Prop} {θ' : Th} {v : Value} {r : T} (hp : plain r = true) (h : RepT w N θ v r) : RepT w' N' θ' v r := by
  have hd : ∀ {v : Value} {x : D}, (∀ es, x ≠ .sl es) → RepT w N θ v (.d x) → RepT w' N' θ' v (.d x) := fun {v x} hx hr => by
    cases hr with
    | d hr => exact .d (hr.plain hx)
  cases r with
  | d x => exact hd (fun es he => by subst he; simp [Go.VL.plain] at hp) h
  | nilp => cases h; exact .nilp
  | nilf => cases h; exact .nilf
  | nili => cases h; exact .nili
  | nils => cases h; exact .nils
  | tup xs =>
    cases h with
    | tup vs _ hl hc =>
      refine .tup vs xs hl fun i x hx => ?_
      have hall : xs.all plain1 = true := hp
      have h1 := List.all_eq_true.mp hall x (List.mem_of_getElem? hx)
      have h2 := hc i x hx
      generalize vs.getD i undef = u at h2 ⊢
      cases x with
      | d y => exact hd (fun es he => by subst he; simp [plain1] at h1) h2
      | nili => cases h2; exact .nili
      | _ => simp [plain1] at h1
  | _ => simp [Go.VL.plain] at hp

theorem subH_mem {h : Hp} {pos : Nat → Nat} : ∀ {l : List Nat} {i : Nat} {o : Ob}, i ∈ l → look h i = some o → ∃ o', look (subH h pos l) (pos i) = some o'
  | [], _, _, hi, _ => by simp at hi
  | x :: r, i, o, hi, ho => by
    rw [List.mem_cons] at hi
    unfold subH
    by_cases hx : i = x
    · subst hx
      rw [ho]
      exact ⟨_, by simp only; rw [look_cons, if_pos rfl]⟩
    · have hr : i ∈ r := hi.resolve_left hx
      obtain ⟨o', ho'⟩ := subH_mem (pos := pos) hr ho
      cases hlx : look h x with
      | none => exact ⟨o', ho'⟩
      | some y =>
        simp only
        by_cases hp : pos x = pos i
        · exact ⟨_, by rw [look_cons, if_pos hp]⟩
        · exact ⟨o', by rw [look_cons, if_neg hp]; exact ho'⟩

theorem List.getElem_inj_of_nodup {l : List Nat} (h : l.Nodup) {i j : Nat} (hi : i < l.length) (hj : j < l.length) (he : l[i] = l[j]) : i = j := by
  rcases Nat.lt_trichotomy i j with hlt | heq | hlt
  · exact absurd he ((List.pairwise_iff_getElem.mp h) i j hi hj hlt)
  · exact heq
  · exact absurd he.symm ((List.pairwise_iff_getElem.mp h) j i hj hi hlt)

theorem callTh_free {ids : List Nat} (hnd : ids.Nodup) (hex : ∀ i ∈ ids, ∃ o, look st.h i = some o) (id : Nat) (h : bndH (subH st.h (posOf ids) ids) ≤ id) : callTh θ ids id = none := by
  unfold callTh
  cases hi : ids[id]? with
  | none => rfl
  | some i =>
    exfalso
    have hmem := List.mem_of_getElem? hi
    obtain ⟨o, ho⟩ := hex i hmem
    obtain ⟨o', ho'⟩ := subH_mem (pos := posOf ids) hmem ho
    have := (bndH_lt ho').1
    have hp : posOf ids i = id := by
      obtain ⟨k1, k2⟩ := posOf_get hmem
      obtain ⟨hlt, he⟩ := List.getElem?_eq_some_iff.mp hi
      obtain ⟨hlt2, he2⟩ := List.getElem?_eq_some_iff.mp k2
      exact Go.VL.List.getElem_inj_of_nodup hnd hlt2 hlt (he2.trans he.symm)
    omega

theorem evCall_sound {tab : Tab} (hs : Sat P X O w0 θ st a w) {f : Nat} {args : List T} {vs : Array Value} {dst : Option Nat} {K : St → Prop}
    (hl : vs.size = args.length) (hv : ∀ (i : Nat) (x : T), args[i]? = some x → RepT w (Nn X θ st.h) θ (vs.getD i undef) x) (h : evCall P tab f args dst st K) :
    Calls P f vs w fun
      | .returned v, w' => Post P X O w0 θ K (a.put dst v) w'
      | _, _ => False := by
  have hst : st = ⟨st.t, st.h, st.n, st.nt⟩ := rfl
  unfold evCall at h
  simp only [forceTL_eq, addLK_eq, reachK_eq, forceL_eq, forceS_eq, forceN_eq] at h
  generalize has : argL st.h (tab.byref f) args = as at h
  generalize hids : reach st.h 4 (addL [] (idsL as)) = ids at h
  generalize hbor : borOf tab f args = bor at h
  split at h
  case h_2 => exact h.elim
  rename_i h1 h2 h3 h4 h5
  have hdis := disjN_iff h1
  have hclos := closN_spec h3
  have hsub4 := subN_iff.mp h4
  have hsub5 := subN_iff.mp h5
  have hasl : as.length = args.length := by
    rw [← has]; unfold argL; split
    · rfl
    · rw [trL_length]
  have hv1 : ∀ (i : Nat) (x : T), as[i]? = some x → RepT w (Nn X θ (remL st.h bor)) θ (vs.getD i undef) x := by
    intro i x hx
    cases hb : tab.byref f with
    | true =>
      simp only [hb, argL] at has; simp only [borOf, hb] at hbor
      subst has; subst hbor
      exact hv i x hx
    | false =>
      simp only [hb, argL] at has; simp only [borOf, hb] at hbor
      simp only [hb] at hsub5
      subst has
      rw [trL_get] at hx
      cases hy : args[i]? with
      | none => simp [hy] at hx
      | some y =>
        simp [hy] at hx
        subst hx
        refine RepT.byval hs.hp (hv i y hy) (fun k hk => hsub5 k ?_)
        exact rwsL_mem hy k hk
  obtain ⟨hin1, hin2, hin3⟩ := call_in hs hdis hclos
  have hcall := h (callX X θ st.h ids bor) (callO θ ids) w (callTh θ ids) vs (by rw [trL_length, hasl, hl]) (fun i x hx => by
    rw [trL_get] at hx
    cases hy : as[i]? with
    | none => simp [hy] at hx
    | some y =>
      simp [hy] at hx
      subst hx
      exact hin3 (hv1 i y hy) (fun k hk => hsub4 k (idsL_mem hy k hk))) hin1 hin2 (callTh_free (nodupN_iff h2) fun i hi => let ⟨o, ho, _⟩ := hclos i hi; ⟨o, ho⟩)
     (hs.gl.call hs.kp (fun b hb hx => by
        rcases hx with hx | ⟨id, o, l, k1, _, _, k4, k5⟩
        · exact .inl hx
        · exact (hs.hp.rng id o l b k1 k4 k5).2.2.elim .inr fun h => by omega) (fun b hb hx => by
        obtain ⟨id, l, k1, k2, k3⟩ := hx
        obtain ⟨o, ho, _⟩ := hclos id k1
        exact (hs.hp.rng id o l b ho k2 k3).2.2.elim _root_.id fun h => by omega))
  refine hcall.mono fun e w' ⟨v, r, h', θ', he, hQ, hsub, hr, hp', hk⟩ => ?_
  subst he
  have hm1 : ∀ i ∈ r.ids, i < mxN (bndL r.ids) (bndH h') := fun i hi => Nat.lt_of_lt_of_le (bndL_lt hi) (mxN_le _ _).1
  have hm2 : ∀ i o, look h' i = some o → i < mxN (bndL r.ids) (bndH h') ∧ ∀ k ∈ o.ids, k < mxN (bndL r.ids) (bndH h') := fun i o hi =>
    ⟨Nat.lt_of_lt_of_le (bndH_lt hi).1 (mxN_le _ _).2, fun k hk => Nat.lt_of_lt_of_le ((bndH_lt hi).2 k hk) (mxN_le _ _).2⟩
  simp only at hQ
  by_cases hpl : plain r = true ∧ ids = [] ∧ h' = []
  · obtain ⟨g1, g2, g3⟩ := hpl
    subst g2; subst g3
    simp only [g1] at hQ
    obtain ⟨q1, q2, q3⟩ := call_out (s := st) (ids := []) (bor := []) (h0 := st.h) (θ0 := θ) (r := r) (h' := []) (θ' := θ') (v := v) (m := mxN (bndL r.ids) (bndH [])) hs (by simp) (fun b hb => .inl hb)
      (fun id o l b k1 k2 k3 k4 => .inr ⟨id, o, l, k1, k2, by simp, k3, k4⟩) hsub (plain_rep g1 hr)
      ⟨fun i o hi => by simp [look] at hi, fun i i' o1 o2 l1 l2 b hi => by simp [look] at hi, fun i o l b hi => by simp [look] at hi⟩ hk hm1 hm2
    exact (putK_post hQ q2 q3).weaken q1
  · have hQ' : putK dst (resT (idAt ids st.n) r) K ⟨(st.frz bor).t, appH (rnH (idAt ids st.n) h') (remL (st.frz bor).h ids), st.n + mxN (bndL r.ids) (bndH h'), st.nt⟩ := by
      cases hp1 : plain r with
      | false => simp only [hp1] at hQ; exact hQ
      | true =>
        cases hi1 : ids with
        | cons x y => subst hi1; simp only [hp1] at hQ; exact hQ
        | nil =>
          cases hh1 : h' with
          | cons x y => subst hi1; subst hh1; simp only [hp1] at hQ; exact hQ
          | nil => exact absurd ⟨hp1, hi1, hh1⟩ hpl
    obtain ⟨q1, q2, q3⟩ := call_out (s := st.frz bor) (ids := ids) (bor := bor) (h0 := st.h) (θ0 := θ) (r := r) (h' := h') (θ' := θ') (v := v) (m := mxN (bndL r.ids) (bndH h')) (hs.frz bor)
      (fun i hi => by
        obtain ⟨o, ho, _⟩ := hclos i hi
        obtain ⟨o', ho'⟩ := look_frz' (l := bor) (fun hb => hdis i hb hi) ho
        obtain ⟨l, hl⟩ := hs.hp.dom i o ho
        exact ⟨o', l, ho', hl⟩) (fun b hb => .inl hb)
      (fun id o l b k1 k2 k3 k4 => by
        obtain ⟨z1, o', z2⟩ := look_frz k1
        exact .inr ⟨id, o', l, z2, k2, z1, k3, k4⟩) hsub hr hp' hk hm1 hm2
    rw [frz_n, frz_nt] at q2
    rw [frz_n] at q1 q3
    exact (putK_post hQ' q2 q3).weaken q1
end Go.VL
