/- What is no longer needed is let go; the rest gets its names anew. -/
import Derived.Test.YtefgchjjnobhjaaDoorVW
set_option linter.unusedVariables false
set_option linter.unusedSimpArgs false
namespace Go.VL
open Go Go.RowKit

variable {P : Program} {X O : Nat → Prop} {w0 w w' : World} {θ θ' θ0 : Th} {st : St} {a : Act} {N : Nat → Prop}

def lowIds : Nat → Hp → List Nat
  | 0, _ => []
  | n + 1, h => match look h n with | some _ => lowIds n h ++ [n] | none => lowIds n h
def newIds (B : Nat) : List Nat → List Nat
  | [] => []
  | i :: r => match Nat.blt i B with | true => newIds B r | false => i :: newIds B r
def gcIds (B : Nat) (roots : List Nat) (h : Hp) : List Nat := reach h 4 (addL (lowIds B h) roots)
def gcNm (B : Nat) (new : List Nat) (i : Nat) : Nat := match Nat.blt i B with | true => i | false => B + posOf new i
def gcTh (θ : Th) (B : Nat) (new : List Nat) : Th := fun i => if i < B then θ i else match new[i - B]? with | some j => θ j | none => none

theorem newIds_mem {B i : Nat} : ∀ {l : List Nat}, i ∈ l → ¬ i < B → i ∈ newIds B l
  | [], h, _ => by simp at h
  | x :: r, h, hB => by
    unfold newIds
    rw [List.mem_cons] at h
    cases hx : Nat.blt x B with
    | true =>
      refine newIds_mem (h.resolve_left (fun e => ?_)) hB
      subst e
      exact hB (Nat.blt_eq.mp hx)
    | false =>
      simp only [List.mem_cons]
      exact h.imp id fun h => newIds_mem h hB

theorem gcTh_at {B i : Nat} {l : List Nat} (h : i ∈ l) : gcTh θ B (newIds B l) (gcNm B (newIds B l) i) = θ i := by
  unfold gcNm
  cases hb : Nat.blt i B with
  | true =>
    have := Nat.blt_eq.mp hb
    simp only [gcTh, if_pos this]
  | false =>
    have hn : ¬ i < B := fun hh => by rw [Nat.blt_eq.mpr hh] at hb; cases hb
    have hm := newIds_mem h hn
    simp only [gcTh]
    rw [if_neg (by omega), show B + posOf (newIds B l) i - B = posOf (newIds B l) i by omega, (posOf_get hm).2]

/-- The objects of l alone, under new names. -/
theorem HpS.ren {h : Hp} {ρ : Nat → Nat} {l : List Nat} {B : Nat} (hp : HpS P X O B θ h w) (hρ : ∀ i ∈ l, θ' (ρ i) = θ i) (hcl : ∀ i ∈ l, ∃ o, look h i = some o ∧ ∀ k ∈ o.ids, k ∈ l) :
    HpS P X O B θ' (subH h ρ l) w ∧ ∀ {v x}, RepT w (Nn X θ h) θ v x → (∀ i ∈ x.ids, i ∈ l) → RepT w (Nn X θ' (subH h ρ l)) θ' v (x.tr (renF ρ)) := by
  have hN : ∀ b, Nn X θ' (subH h ρ l) b → Nn X θ h b := fun b hb => by
    rcases hb with hx | ⟨i, o, ly, h1, h2, h3⟩
    · exact .inl hx
    · obtain ⟨id, o0, k1, k2, k3, _⟩ := look_subH h1
      rw [← k3, hρ id k1] at h2
      exact .inr ⟨id, o0, ly, k2, h2, h3⟩
  have hsh2 : Ext w (Nn X θ h) w (Nn X θ' (subH h ρ l)) := Ext.shrink hN
  have hren : ∀ {x : T}, (∀ i ∈ x.ids, i ∈ l) → ∀ i ∈ x.ids, ∀ ly, θ i = some ly → θ' (ρ i) = some ly := fun {x} hx i hi ly hl => by rw [hρ i (hx i hi)]; exact hl
  refine ⟨⟨fun i ob hl => ?_, fun i i' o1 o2 l1 l2 b h1 h2 h3 h4 h5 h6 => ?_, fun i ob ly b h1 h2 h3 => ?_⟩, fun {v x} hv hx => hv.rn hsh2 (hren hx)⟩
  · obtain ⟨id, o0, k1, k2, k3, rfl⟩ := look_subH hl
    obtain ⟨ly, m1, m2⟩ := hp.ob id o0 k2
    refine ⟨ly, by rw [← k3, hρ id k1]; exact m1, ?_⟩
    obtain ⟨o1, q1, q2⟩ := hcl id k1
    rw [k2] at q1; cases q1
    cases o0 with
    | row e es =>
        obtain ⟨z1, z2, z3, z4⟩ := m2
        refine ⟨z1, z2, z3, ?_⟩
        cases hb : ly.blk with
        | none => simpa [hb] using z4
        | some b =>
          simp only [hb] at z4 ⊢
          obtain ⟨cs, fr, y1, y2, y3, y4⟩ := z4
          exact ⟨cs, fr, y1, y2, y3, fun i j x hx => let ⟨u, u1, u2⟩ := y4 i j x hx; ⟨u, u1, u2.ext hsh2⟩⟩
    | map es =>
        obtain ⟨b, ents, clock, y0, y1, y2, y3⟩ := m2
        refine ⟨b, ents, clock, y0, y1, y2, fun i k v hkv => ?_⟩
        obtain ⟨en, ks, vs, e1, e2, e3, e4, e5, e6, e7⟩ := y3 i k v hkv
        exact ⟨en, ks, vs, e1, e2, e3, e4, e5, fun j x hx => let ⟨u, u1, u2⟩ := e6 j x hx; ⟨u, u1, u2.ext hsh2⟩, fun j x hx => let ⟨u, u1, u2⟩ := e7 j x hx; ⟨u, u1, u2.ext hsh2⟩⟩
    | iter s p => exact m2
    | var t ts =>
        obtain ⟨z1, z0, b, cs, fr, y0, y1, y2, y3, y4⟩ := m2
        refine ⟨z1, z0, b, cs, fr, y0, y1, y2, by rw [trL_length]; exact y3, fun j x hx => ?_⟩
        rw [trL_get] at hx
        cases ht : ts[j]? with
        | none => simp [ht] at hx
        | some y =>
          simp [ht] at hx
          subst hx
          obtain ⟨u, u1, u2⟩ := y4 j y ht
          exact ⟨u, u1, u2.rn hsh2 (hren (fun i hi => q2 i (idsL_mem ht i hi)))⟩
  · obtain ⟨id, o0, k1, k2, k3, _⟩ := look_subH h1
    obtain ⟨id', o0', k1', k2', k3', _⟩ := look_subH h2
    rw [← k3, hρ id k1] at h3
    rw [← k3', hρ id' k1'] at h4
    rw [← k3, ← k3', hp.inj id id' o0 o0' l1 l2 b k2 k2' h3 h4 h5 h6]
  · obtain ⟨id, o0, k1, k2, k3, _⟩ := look_subH h1
    rw [← k3, hρ id k1] at h2
    exact hp.rng id o0 ly b k2 h2 h3

def gcEnv (ρ : Nat → Nat) (t : Env) : List Nat → Env
  | [] => []
  | i :: r => (i, (get t i).tr (renF ρ)) :: gcEnv ρ t r
def liveIds (t : Env) : List Nat → List Nat
  | [] => []
  | i :: r => (get t i).ids ++ liveIds t r

/-- The temporaries of live alone, and what they lead to. -/
def gc (B : Nat) (live : List Nat) (st : St) : Option St :=
  let ids := gcIds B (liveIds st.t live) st.h
  let new := newIds B ids
  match closN st.h ids ids, subN (liveIds st.t live) ids, Nat.ble B st.n with
  | true, true, true => some ⟨gcEnv (gcNm B new) st.t live, subH st.h (gcNm B new) ids, B + new.length, st.nt⟩
  | _, _, _ => none

theorem gcEnv_get {ρ : Nat → Nat} {t : Env} {i : Nat} : ∀ {l : List Nat}, get (gcEnv ρ t l) i = if i ∈ l then (get t i).tr (renF ρ) else .dead
  | [] => by simp [gcEnv, get]
  | x :: r => by
    rw [gcEnv, get_cons, gcEnv_get (l := r)]
    by_cases hx : x = i
    · subst hx; simp
    · have : ¬ i = x := fun e => hx e.symm
      simp [hx, this]
theorem liveIds_mem {t : Env} {i : Nat} : ∀ {l : List Nat}, i ∈ l → ∀ k ∈ (get t i).ids, k ∈ liveIds t l
  | [], h, _, _ => by simp at h
  | x :: r, h, k, hk => by
    rw [liveIds, List.mem_append]
    rw [List.mem_cons] at h
    rcases h with rfl | h
    · exact .inl hk
    · exact .inr (liveIds_mem h k hk)

theorem gcTh_free {B : Nat} {new : List Nat} : ∀ id, B + new.length ≤ id → gcTh θ B new id = none := fun id h => by
  unfold gcTh
  rw [if_neg (by omega)]
  have : new[id - B]? = none := List.getElem?_eq_none (by omega)
  rw [this]

theorem Sat.gc {B : Nat} {live : List Nat} {st' : St} (hs : Sat P X O w0 θ st a w) (h : gc B live st = some st') : ∃ θ', (∀ id l, id < B → θ id = some l → θ' id = some l) ∧ Sat P X O w0 θ' st' a w := by
  unfold Go.VL.gc at h
  simp only at h
  split at h
  case h_2 => cases h
  rename_i h1 h2 h3
  cases h
  have hcl := closN_spec h1
  have hsb := subN_iff.mp h2
  obtain ⟨k1, k2⟩ := hs.hp.ren (θ' := gcTh θ B (newIds B (gcIds B (liveIds st.t live) st.h))) (fun i hi => gcTh_at hi) hcl
  refine ⟨_, fun id l hid hl => ?_, ⟨fun i => ?_, k1, gcTh_free, hs.dfr, hs.nts, hs.kp, hs.xb, hs.gl⟩⟩
  · simp only [gcTh, if_pos hid]; exact hl
  · simp only
    rw [gcEnv_get]
    by_cases hi : i ∈ live
    · rw [if_pos hi]
      exact k2 (hs.tm i) (fun k hk => hsb k (liveIds_mem hi k hk))
    · rw [if_neg hi]; exact .dead _

/-- How a temporary is told ahead of a loop. -/
inductive W where
  | keep
  | row (e : Nat)
  | own

def wkS : List (Nat × W) → St → St
  | [], st => st
  | (i, .row e) :: r, st => match get st.t i with
    | .nils => (match st with | ⟨t, h, n, nt⟩ => wkS r ⟨(i, .full n) :: t, (n, .row e []) :: h, n + 1, nt⟩)
    | _ => wkS r st
  | (i, .own) :: r, st => match get st.t i with
    | .full id => (match st with | ⟨t, h, n, nt⟩ => (match look h id with | some (.row _ es) => wkS r ⟨(i, .own id 0 es.length) :: t, h, n, nt⟩ | _ => wkS r ⟨t, h, n, nt⟩))
    | _ => wkS r st
  | (_, .keep) :: r, st => wkS r st
def fsts : List (Nat × W) → List Nat
  | [] => []
  | (i, _) :: r => i :: fsts r
def canon (B : Nat) (live : List (Nat × W)) (st : St) : Option St := gc B (fsts live) (wkS live st)

theorem Sat.nilRow (hs : Sat P X O w0 θ st a w) {i e : Nat} (hi : get st.t i = .nils) : Sat P X O w0 (θ.set st.n ⟨none, 0, P.cellsOf e, 0⟩) ⟨(i, .full st.n) :: st.t, (st.n, .row e []) :: st.h, st.n + 1, st.nt⟩ a w := by
  have hn := hs.fresh st.n (Nat.le_refl _)
  have hsub := Th.set_sub (l := ⟨none, 0, P.cellsOf e, 0⟩) hn
  have hN : ∀ b, Nn X (θ.set st.n ⟨none, 0, P.cellsOf e, 0⟩) ((st.n, .row e []) :: st.h) b → Nn X θ st.h b := fun b hb => by
    rcases Nn_cons hb with h | h
    · exact h
    · cases h
  have hE : Ext w (Nn X θ st.h) w (Nn X (θ.set st.n ⟨none, 0, P.cellsOf e, 0⟩) ((st.n, .row e []) :: st.h)) := Ext.shrink hN
  have hset : ∀ {id l'}, id ≠ st.n → (θ.set st.n ⟨none, 0, P.cellsOf e, 0⟩) id = some l' → θ id = some l' := fun {id l'} hi h2 => by simpa [Th.set, hi] using h2
  refine ⟨fun j => ?_, ⟨fun id ob hl => ?_, fun id id' o1 o2 l1 l2 b h1 h2 h3 h4 h5 h6 => ?_, fun id ob l b h1 h2 h3 => ?_⟩, fun id hid => ?_, hs.dfr, hs.nts, hs.kp, hs.xb, hs.gl⟩
  · rw [get_cons]
    by_cases hj : i = j
    · subst hj
      rw [if_pos rfl]
      have := hs.tm i
      rw [hi] at this
      generalize a.tmps.getD i undef = v at this
      cases this
      exact .full0 _ _ (Th.set_self _ _ _) rfl
    · rw [if_neg hj]
      exact (hs.tm j).ext hE (Szp.refl w) hsub
  · rw [look_cons] at hl
    by_cases he : st.n = id
    · subst he
      rw [if_pos rfl] at hl
      cases hl
      exact ⟨_, Th.set_self _ _ _, rfl, rfl, by simp, rfl⟩
    · rw [if_neg he] at hl
      obtain ⟨l, k1, k2⟩ := hs.hp.ob id ob hl
      exact ⟨l, hsub id l k1, k2.ext hE (Szp.refl w) hsub (fun _ _ => rfl)⟩
  · rw [look_cons] at h1 h2
    by_cases e1 : st.n = id
    · subst e1; rw [Th.set_self] at h3; cases h3; cases h5
    · by_cases e2 : st.n = id'
      · subst e2; rw [Th.set_self] at h4; cases h4; cases h6
      · rw [if_neg e1] at h1
        rw [if_neg e2] at h2
        exact hs.hp.inj id id' o1 o2 l1 l2 b h1 h2 (hset (fun e => e1 e.symm) h3) (hset (fun e => e2 e.symm) h4) h5 h6
  · rw [look_cons] at h1
    by_cases e1 : st.n = id
    · subst e1; rw [Th.set_self] at h2; cases h2; cases h3
    · rw [if_neg e1] at h1
      exact hs.hp.rng id ob l b h1 (hset (fun e => e1 e.symm) h2) h3
  · simp only at hid
    have : id ≠ st.n := by omega
    simp only [Th.set, this, if_false]
    exact hs.fresh id (by omega)

theorem Sat.fullOwn (hs : Sat P X O w0 θ st a w) {i id e : Nat} {es : List (List D)} (hi : get st.t i = .full id) (hl : look st.h id = some (.row e es)) : Sat P X O w0 θ ⟨(i, .own id 0 es.length) :: st.t, st.h, st.n, st.nt⟩ a w := by
  refine ⟨fun j => ?_, hs.hp, hs.fresh, hs.dfr, hs.nts, hs.kp, hs.xb, hs.gl⟩
  rw [get_cons]
  by_cases hj : i = j
  · subst hj
    rw [if_pos rfl]
    have := hs.tm i
    rw [hi] at this
    obtain ⟨l, h1, h2⟩ := hs.hp.ob id _ hl
    have hlen : l.len = es.length := h2.2.1
    generalize a.tmps.getD i undef = v at this
    rw [← hlen]
    cases this with
    | full _ l' hθ b cap hb hlc hz ad hab hsp ho =>
      rw [h1] at hθ; cases hθ
      obtain ⟨cs, e', fr, q1, q2⟩ := hz
      exact .own id 0 l.len l h1 b hb ad cap hlc hab hsp (by omega) (fun h => by rw [ho h]; simp) ⟨cs, e', fr, q1, by simpa using q2⟩
    | full0 _ l' hθ h0 =>
      rw [h1] at hθ; cases hθ
      rw [h0]; exact .own0 id 0 l h1
  · rw [if_neg hj]; exact hs.tm j

theorem Sat.wkS : ∀ {live : List (Nat × W)} {st : St} {θ : Th}, Sat P X O w0 θ st a w → ∃ θ', Sub θ θ' ∧ Sat P X O w0 θ' (wkS live st) a w
  | [], st, θ, hs => ⟨θ, Sub.refl θ, hs⟩
  | (i, .keep) :: r, st, θ, hs => Sat.wkS (live := r) hs
  | (i, .row e) :: r, st, θ, hs => by
    unfold Go.VL.wkS
    split
    · rename_i hg
      obtain ⟨θ', h1, h2⟩ := Sat.wkS (live := r) (hs.nilRow (e := e) hg)
      exact ⟨θ', (Th.set_sub (hs.fresh st.n (Nat.le_refl _))).trans h1, h2⟩
    · exact Sat.wkS (live := r) hs
  | (i, .own) :: r, st, θ, hs => by
    obtain ⟨t, h, n, nt⟩ := st
    unfold Go.VL.wkS
    split
    · rename_i id hg
      simp only
      split
      · rename_i e es hl
        exact Sat.wkS (live := r) (hs.fullOwn hg hl)
      · exact Sat.wkS (live := r) hs
    · exact Sat.wkS (live := r) hs

theorem Sat.canon {B : Nat} {live : List (Nat × W)} {st' : St} (hs : Sat P X O w0 θ st a w) (h : canon B live st = some st') : ∃ θ', (∀ id l, id < B → θ id = some l → θ' id = some l) ∧ Sat P X O w0 θ' st' a w := by
  obtain ⟨θ1, h1, h2⟩ := hs.wkS (live := live)
  obtain ⟨θ2, h3, h4⟩ := h2.gc h
  exact ⟨θ2, fun id l hb hl => h3 id l hb (h1 id l hl), h4⟩
end Go.VL
