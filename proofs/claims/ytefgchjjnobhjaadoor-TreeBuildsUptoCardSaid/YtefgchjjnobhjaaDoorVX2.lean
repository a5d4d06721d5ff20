/- A state told as another: what is left is equations between data. -/
import Derived.Test.YtefgchjjnobhjaaDoorVX
set_option linter.unusedVariables false
set_option linter.unusedSimpArgs false
namespace Go.VL
open Go Go.RowKit

variable {P : Program} {X O : Nat → Prop} {w0 w w' : World} {θ θ' θ0 : Th} {st : St} {a : Act} {N : Nat → Prop}

def eqN (i j : Nat) (K : Prop) : Prop := match Nat.beq i j with | true => K | false => False
def eqK (k k' : IntKind) (K : Prop) : Prop := match kq k k' with | true => K | false => False
def eqD (x y : D) (K : Prop) : Prop := match x, y with
  | .bool a, .bool b => Need (a = b) K
  | .int k n, .int k' m => eqK k k' (Need (n = m) K)
  | .str a, .str b => Need (a = b) K
  | .sl a, .sl b => Need (a = b) K
  | _, _ => False
mutual
/-- x told as y. -/
def eqT : T → T → Prop → Prop
  | .agg xs, .agg ys, K => eqTL xs ys K
  | .tup xs, .tup ys, K => eqTL xs ys K
  | .fn f xs, .fn g ys, K => eqN f g (eqTL xs ys K)
  | .ifc t x, .ifc u y, K => eqN t u (eqT x y K)
  | .d x, .d y, K => eqD x y K
  | .full i, .full j, K => eqN i j K
  | .own i o l, .own j p m, K => eqN i j (Need (o = p) (Need (l = m) K))
  | .nils, .nils, K => K
  | .nils, .d (.sl b), K => Need (b = []) K
  | .ref i p o, .ref j q u, K => eqN i j (Need (p = q) (eqN o u K))
  | .cref cs, .cref ds, K => Need (cs = ds) K
  | .nilp, .nilp, K => K
  | .nilf, .nilf, K => K
  | .nili, .nili, K => K
  | .mp i, .mp j, K => eqN i j K
  | .itr i, .itr j, K => eqN i j K
  | .bs i, .bs j, K => eqN i j K
  | _, .dead, K => K
  | _, _, _ => False
def eqTL : List T → List T → Prop → Prop
  | [], [], K => K
  | x :: xs, y :: ys, K => eqT x y (eqTL xs ys K)
  | _, _, _ => False
end
def eqO (x y : Ob) (K : Prop) : Prop := match x, y with
  | .row e a, .row f b => eqN e f (Need (a = b) K)
  | .var t a, .var u b => eqN t u (eqTL a b K)
  | .map a, .map b => Need (a = b) K
  | .iter a i, .iter b j => Need (a = b) (Need (i = j) K)
  | _, _ => False
def eqH : Hp → Hp → Prop → Prop
  | [], [], K => K
  | (i, x) :: r, (j, y) :: s, K => eqN i j (eqO x y (eqH r s K))
  | _, _, _ => False
def eqE (ρ : Nat → Nat) (t : Env) : Env → Prop → Prop
  | [], K => K
  | (i, y) :: r, K => eqT ((get t i).tr (renF ρ)) y (eqE ρ t r K)
def keys : Env → List Nat
  | [] => []
  | (i, _) :: r => i :: keys r
def liveW (h : Hp) : Env → List (Nat × W)
  | [] => []
  | (i, .full j) :: r => match look h j with | some (.row e _) => (i, .row e) :: liveW h r | _ => liveW h r
  | (i, .own _ _ _) :: r => (i, .own) :: liveW h r
  | _ :: r => liveW h r
def intoS (B : Nat) (s st' : St) : Prop :=
  forceL (lowIds B s.h) fun low => addLK low (liveIds s.t (keys st'.t)) fun roots => reachK s.h 4 roots fun ids => forceL (newIds B ids) fun new =>
  match closN s.h ids ids, subN (liveIds s.t (keys st'.t)) ids, nodupN (keys st'.t) with
  | true, true, true => eqN (B + new.length) st'.n (eqN s.nt st'.nt (eqE (gcNm B new) s.t st'.t (eqH (subH s.h (gcNm B new) ids) st'.h True)))
  | _, _, _ => False
/-- Rows that are to be told by value. -/
def frzC : List T → List T → List Nat
  | x :: r, y :: r' => (match y with | .dead => [] | _ => match y.ids with | [] => x.rws | _ => []) ++ frzC r r'
  | _, _ => []
def frzW (h h' : Hp) (t : Env) : Env → List Nat
  | [] => []
  | (_, .dead) :: r => frzW h h' t r
  | (i, y) :: r => match y.ids with
    | [] => (get t i).rws ++ frzW h h' t r
    | _ => match y, get t i with
      | .ref j' _ _, .ref j _ _ => (match look h' j', look h j with | some (.var _ cs'), some (.var _ cs) => frzC cs cs' | _, _ => []) ++ frzW h h' t r
      | _, _ => frzW h h' t r
/-- The state st, told as st'. -/
def into (B : Nat) (st st' : St) : Prop := withSt st' fun t' h' n' nt' => withSt st fun t h n nt => forceL (frzW h h' t t') fun l => forceS (St.frz ⟨t, h, n, nt⟩ l) fun s1 =>
  forceS (wkS (liveW h' t') s1) fun s => intoS B s ⟨t', h', n', nt'⟩

theorem eqN_iff {i j : Nat} {K : Prop} (h : eqN i j K) : i = j ∧ K := by
  unfold eqN at h
  cases hb : Nat.beq i j with
  | true => exact ⟨Nat.eq_of_beq_eq_true hb, by simpa [hb] using h⟩
  | false => simp [hb] at h
theorem eqK_iff {i j : IntKind} {K : Prop} (h : eqK i j K) : i = j ∧ K := by
  unfold eqK at h
  cases hb : kq i j with
  | true => exact ⟨kq_iff.mp hb, by simpa [hb] using h⟩
  | false => simp [hb] at h
theorem eqD_iff {x y : D} {K : Prop} (h : eqD x y K) : x = y ∧ K := by
  unfold eqD at h
  split at h
  · exact ⟨by rw [h.1], h.2⟩
  · obtain ⟨rfl, h2⟩ := eqK_iff h; exact ⟨by rw [h2.1], h2.2⟩
  · exact ⟨by rw [h.1], h.2⟩
  · exact ⟨by rw [h.1], h.2⟩
  · exact h.elim

/-- Whatever x tells, y tells too. -/
def Le (x y : T) : Prop := ∀ (w : World) (N : Nat → Prop) (θ : Th) (v : Value), RepT w N θ v x → RepT w N θ v y
def LeL (xs ys : List T) : Prop := xs.length = ys.length ∧ ∀ (i : Nat) (y : T), ys[i]? = some y → ∃ x, xs[i]? = some x ∧ Le x y
theorem Le.refl (x : T) : Le x x := fun _ _ _ _ h => h

mutual
theorem eqT_le : ∀ {x y : T} {K : Prop}, eqT x y K → Le x y ∧ K
  | .agg xs, .agg ys, K, h => by
    obtain ⟨⟨h1, h2⟩, h3⟩ := eqTL_le (xs := xs) (ys := ys) h
    refine ⟨fun w N θ v hv => ?_, h3⟩
    cases hv with
    | agg vs _ hl hc => exact .agg vs ys (hl.trans h1) fun i y hy => let ⟨x, q1, q2⟩ := h2 i y hy; q2 _ _ _ _ (hc i x q1)
  | .tup xs, .tup ys, K, h => by
    obtain ⟨⟨h1, h2⟩, h3⟩ := eqTL_le (xs := xs) (ys := ys) h
    refine ⟨fun w N θ v hv => ?_, h3⟩
    cases hv with
    | tup vs _ hl hc => exact .tup vs ys (hl.trans h1) fun i y hy => let ⟨x, q1, q2⟩ := h2 i y hy; q2 _ _ _ _ (hc i x q1)
  | .fn f xs, .fn g ys, K, h => by
    obtain ⟨rfl, h0⟩ := eqN_iff h
    obtain ⟨⟨h1, h2⟩, h3⟩ := eqTL_le (xs := xs) (ys := ys) h0
    refine ⟨fun w N θ v hv => ?_, h3⟩
    cases hv with
    | fn _ vs _ hl hc => exact .fn f vs ys (hl.trans h1) fun i y hy => let ⟨x, q1, q2⟩ := h2 i y hy; q2 _ _ _ _ (hc i x q1)
  | .ifc t x, .ifc u y, K, h => by
    obtain ⟨rfl, h0⟩ := eqN_iff h
    obtain ⟨h1, h3⟩ := eqT_le (x := x) (y := y) h0
    refine ⟨fun w N θ v hv => ?_, h3⟩
    cases hv with
    | ifc _ hv => exact .ifc t (h1 _ _ _ _ hv)
  | .d x, .d y, K, h => by obtain ⟨rfl, h0⟩ := eqD_iff h; exact ⟨.refl _, h0⟩
  | .full i, .full j, K, h => by obtain ⟨rfl, h0⟩ := eqN_iff h; exact ⟨.refl _, h0⟩
  | .own i o l, .own j p m, K, h => by obtain ⟨rfl, rfl, rfl, h0⟩ := eqN_iff h; exact ⟨.refl _, h0⟩
  | .nils, .nils, K, h => ⟨.refl _, h⟩
  | .nils, .d (.sl b), K, h => by
    obtain ⟨rfl, h⟩ : Need (b = []) K := h
    exact ⟨fun w N θ v hv => by cases hv; exact .d .nil, h⟩
  | .ref i p o, .ref j q u, K, h => by
    obtain ⟨rfl, rfl, h0⟩ := eqN_iff h
    obtain ⟨rfl, h1⟩ := eqN_iff h0
    exact ⟨.refl _, h1⟩
  | .cref cs, .cref ds, K, h => by obtain ⟨rfl, h⟩ : Need (cs = ds) K := h; exact ⟨.refl _, h⟩
  | .nilp, .nilp, K, h => ⟨.refl _, h⟩
  | .nilf, .nilf, K, h => ⟨.refl _, h⟩
  | .nili, .nili, K, h => ⟨.refl _, h⟩
  | .mp i, .mp j, K, h => by obtain ⟨rfl, h0⟩ := eqN_iff h; exact ⟨.refl _, h0⟩
  | .itr i, .itr j, K, h => by obtain ⟨rfl, h0⟩ := eqN_iff h; exact ⟨.refl _, h0⟩
  | .bs i, .bs j, K, h => by obtain ⟨rfl, h0⟩ := eqN_iff h; exact ⟨.refl _, h0⟩
  | x, .dead, K, h => by
    refine ⟨fun _ _ _ v _ => .dead v, ?_⟩
    cases x <;> exact h
theorem eqTL_le : ∀ {xs ys : List T} {K : Prop}, eqTL xs ys K → LeL xs ys ∧ K
  | [], [], K, h => ⟨⟨rfl, by simp⟩, h⟩
  | x :: xs, y :: ys, K, h => by
    obtain ⟨h1, h2⟩ := eqT_le (x := x) (y := y) h
    obtain ⟨⟨h3, h4⟩, h5⟩ := eqTL_le (xs := xs) (ys := ys) h2
    refine ⟨⟨by simp [h3], fun i z hz => ?_⟩, h5⟩
    cases i with
    | zero => simp at hz; subst hz; exact ⟨x, rfl, h1⟩
    | succ i => exact h4 i z (by simpa using hz)
end

/-- ObS with what is told in a variable's cells told anew. -/
theorem eqO_le {x y : Ob} {K : Prop} (h : eqO x y K) : K ∧ ∀ {w N θ l}, ObS P w N θ l x → ObS P w N θ l y := by
  unfold eqO at h
  split at h
  · obtain ⟨rfl, rfl, h0⟩ := eqN_iff h; exact ⟨h0, fun hx => hx⟩
  · obtain ⟨rfl, h0⟩ := eqN_iff h
    obtain ⟨⟨h1, h2⟩, h3⟩ := eqTL_le h0
    refine ⟨h3, fun ⟨z1, z0, b, cs, fr, y0, y1, y2, y3, y4⟩ => ⟨z1, z0, b, cs, fr, y0, y1, y2, y3.trans h1, fun j z hz => ?_⟩⟩
    obtain ⟨x, q1, q2⟩ := h2 j z hz
    obtain ⟨u, u1, u2⟩ := y4 j x q1
    exact ⟨u, u1, q2 _ _ _ _ u2⟩
  · obtain ⟨rfl, h0⟩ := h; exact ⟨h0, fun hx => hx⟩
  · obtain ⟨rfl, rfl, h0⟩ := h; exact ⟨h0, fun hx => hx⟩
  · exact h.elim

theorem eqH_le : ∀ {h k : Hp} {K : Prop}, eqH h k K → K ∧ ∀ i, match look h i, look k i with
    | some x, some y => ∀ {w N θ l}, ObS P w N θ l x → ObS P w N θ l y
    | none, none => True
    | _, _ => False
  | [], [], K, h => ⟨h, fun i => by simp [look]⟩
  | (i, x) :: r, (j, y) :: s, K, h => by
    obtain ⟨rfl, h0⟩ := eqN_iff h
    obtain ⟨h1, h2⟩ := eqO_le (P := P) h0
    obtain ⟨h3, h4⟩ := eqH_le (h := r) (k := s) h1
    refine ⟨h3, fun k => ?_⟩
    rw [look_cons, look_cons]
    by_cases hk : i = k
    · rw [if_pos hk, if_pos hk]; exact h2
    · rw [if_neg hk, if_neg hk]; exact h4 k

theorem eqE_le {ρ : Nat → Nat} {t : Env} : ∀ {u : Env} {K : Prop}, eqE ρ t u K → K ∧ ∀ i, i ∈ keys u → nodupN (keys u) = true → Le ((get t i).tr (renF ρ)) (get u i)
  | [], K, h => ⟨h, by simp [keys]⟩
  | (i, y) :: r, K, h => by
    obtain ⟨h1, h2⟩ := eqT_le h
    obtain ⟨h3, h4⟩ := eqE_le (u := r) h2
    refine ⟨h3, fun k hk hnd => ?_⟩
    rw [get_cons]
    by_cases hki : i = k
    · subst hki; rw [if_pos rfl]; exact h1
    · rw [if_neg hki]
      simp only [keys, List.mem_cons] at hk
      refine h4 k (hk.resolve_left fun e => hki e.symm) ?_
      simp only [keys, nodupN] at hnd
      split at hnd
      · cases hnd
      · exact hnd

theorem get_dead {u : Env} {i : Nat} : i ∉ keys u → get u i = .dead := by
  induction u with
  | nil => intro _; rfl
  | cons p r ih =>
    obtain ⟨k, y⟩ := p
    intro h
    simp only [keys, List.mem_cons, not_or] at h
    rw [get_cons, if_neg (fun e => h.1 e.symm), ih h.2]

theorem Sat.intoS {B : Nat} {st' : St} (hs : Sat P X O w0 θ st a w) (h : intoS B st st') : ∃ θ', (∀ id l, id < B → θ id = some l → θ' id = some l) ∧ Sat P X O w0 θ' st' a w := by
  unfold Go.VL.intoS at h
  simp only [addLK_eq, reachK_eq, forceL_eq] at h
  rw [show reach st.h 4 (addL (lowIds B st.h) (liveIds st.t (keys st'.t))) = gcIds B (liveIds st.t (keys st'.t)) st.h from rfl] at h
  split at h
  case h_2 => exact h.elim
  rename_i h1 h2 h3
  obtain ⟨e1, h4⟩ := eqN_iff h
  obtain ⟨e2, h5⟩ := eqN_iff h4
  obtain ⟨h6, h7⟩ := eqE_le h5
  obtain ⟨_, h8⟩ := eqH_le (P := P) h6
  have hcl := closN_spec h1
  have hsb := subN_iff.mp h2
  obtain ⟨k1, k2⟩ := hs.hp.ren (θ' := gcTh θ B (newIds B (gcIds B (liveIds st.t (keys st'.t)) st.h))) (fun i hi => gcTh_at hi) hcl
  generalize hh : subH st.h (gcNm B (newIds B (gcIds B (liveIds st.t (keys st'.t)) st.h))) (gcIds B (liveIds st.t (keys st'.t)) st.h) = h0 at *
  have hlk : ∀ {i o}, look st'.h i = some o → ∃ o0, look h0 i = some o0 ∧ ∀ {w N θ l}, ObS P w N θ l o0 → ObS P w N θ l o := fun {i o} ho => by
    have := h8 i
    rw [ho] at this
    cases hl : look h0 i with
    | none => rw [hl] at this; exact this.elim
    | some o0 => rw [hl] at this; exact ⟨o0, rfl, this⟩
  have hNiff : ∀ b, Nn X (gcTh θ B (newIds B (gcIds B (liveIds st.t (keys st'.t)) st.h))) st'.h b → Nn X (gcTh θ B (newIds B (gcIds B (liveIds st.t (keys st'.t)) st.h))) h0 b := fun b hb => by
    rcases hb with hx | ⟨i, o, l, q1, q2, q3⟩
    · exact .inl hx
    · obtain ⟨o0, p1, _⟩ := hlk q1
      exact .inr ⟨i, o0, l, p1, q2, q3⟩
  have hE : Ext w (Nn X (gcTh θ B (newIds B (gcIds B (liveIds st.t (keys st'.t)) st.h))) h0) w (Nn X (gcTh θ B (newIds B (gcIds B (liveIds st.t (keys st'.t)) st.h))) st'.h) := Ext.shrink hNiff
  refine ⟨gcTh θ B (newIds B (gcIds B (liveIds st.t (keys st'.t)) st.h)), fun id l hid hl => ?_, ⟨fun i => ?_, ⟨fun i o hi => ?_, fun i i' o1 o2 l1 l2 b g1 g2 g3 g4 g5 g6 => ?_, fun i o l b g1 g2 g3 => ?_⟩, fun id hid => gcTh_free id (by rw [e1]; exact hid), hs.dfr, hs.nts.trans e2, hs.kp, hs.xb, hs.gl⟩⟩
  · simp only [gcTh, if_pos hid]; exact hl
  · by_cases hi : i ∈ keys st'.t
    · exact h7 i hi h3 _ _ _ _ ((k2 (hs.tm i) (fun k hk => hsb k (liveIds_mem hi k hk))).ext hE (Szp.refl w) (Sub.refl _))
    · rw [get_dead hi]; exact .dead _
  · obtain ⟨o0, p1, p2⟩ := hlk hi
    obtain ⟨l, q1, q2⟩ := k1.ob i o0 p1
    exact ⟨l, q1, p2 (q2.ext hE (Szp.refl w) (Sub.refl _) (fun _ _ => rfl))⟩
  · obtain ⟨o1', p1, _⟩ := hlk g1
    obtain ⟨o2', p2, _⟩ := hlk g2
    exact k1.inj i i' o1' o2' l1 l2 b p1 p2 g3 g4 g5 g6
  · obtain ⟨o', p1, _⟩ := hlk g1
    exact k1.rng i o' l b p1 g2 g3

theorem Sat.into {B : Nat} {st' : St} (hs : Sat P X O w0 θ st a w) (h : into B st st') : ∃ θ', (∀ id l, id < B → θ id = some l → θ' id = some l) ∧ Sat P X O w0 θ' st' a w := by
  unfold Go.VL.into at h
  simp only [withSt_eq, forceL_eq, forceS_eq] at h
  obtain ⟨θ1, h1, h2⟩ := (hs.frz (frzW st.h st'.h st.t st'.t)).wkS (live := liveW st'.h st'.t)
  obtain ⟨θ2, h3, h4⟩ := h2.intoS h
  exact ⟨θ2, fun id l hb hl => h3 id l hb (h1 id l hl), h4⟩
end Go.VL
