/- Rows: literals, make, append. -/
import Derived.Test.YtefgchjjnobhjaaDoorVJ
set_option linter.unusedVariables false
set_option linter.unusedSimpArgs false
namespace Go.VL
open Go Go.RowKit

variable {P : Program} {X O : Nat → Prop} {w0 w w' : World} {θ θ' : Th} {st : St} {a : Act} {N : Nat → Prop}

/-- The cells of rows laid end to end. -/
def FlatD (w : World) (N : Nat → Prop) (vs : List Value) (es : List (List D)) (sz : Nat) : Prop :=
  vs.length = es.length * sz ∧ (∀ c ∈ es, c.length = sz) ∧ ∀ (i j : Nat) (x : D), (es[i]?).bind (·[j]?) = some x → ∃ u, vs[i * sz + j]? = some u ∧ RepD w N u x

theorem FlatD.nil {sz : Nat} : FlatD w N [] [] sz := ⟨by simp, fun c h => by simp at h, fun i j x h => by simp at h⟩
theorem FlatD.ext {vs : List Value} {es : List (List D)} {sz : Nat} {N' : Nat → Prop} (h : FlatD w N vs es sz) (he : Ext w N w' N') : FlatD w' N' vs es sz :=
  ⟨h.1, h.2.1, fun i j x hx => let ⟨u, u1, u2⟩ := h.2.2 i j x hx; ⟨u, u1, u2.ext he⟩⟩
theorem FlatD.lt {es : List (List D)} {sz i j : Nat} {x : D} (hs : ∀ c ∈ es, c.length = sz) (h : (es[i]?).bind (·[j]?) = some x) : i < es.length ∧ j < sz := by
  cases hi : es[i]? with
  | none => simp [hi] at h
  | some c =>
    simp [hi] at h
    have h1 := (List.getElem?_eq_some_iff.mp hi).1
    have h2 := (List.getElem?_eq_some_iff.mp h).1
    rw [hs c (List.mem_of_getElem? hi)] at h2
    exact ⟨h1, h2⟩
theorem mul_add_lt {i j n sz : Nat} (hi : i < n) (hj : j < sz) : i * sz + j < n * sz := by
  have := Nat.mul_le_mul_right sz (show i + 1 ≤ n by omega)
  rw [Nat.add_mul] at this
  omega
theorem FlatD.append {vs us : List Value} {es fs : List (List D)} {sz : Nat} (h : FlatD w N vs es sz) (k : FlatD w N us fs sz) : FlatD w N (vs ++ us) (es ++ fs) sz := by
  refine ⟨by simp [h.1, k.1, Nat.add_mul], fun c hc => ?_, fun i j x hx => ?_⟩
  · rcases List.mem_append.mp hc with hc | hc
    · exact h.2.1 c hc
    · exact k.2.1 c hc
  · by_cases hi : i < es.length
    · rw [List.getElem?_append_left hi] at hx
      obtain ⟨u, u1, u2⟩ := h.2.2 i j x hx
      exact ⟨u, by rw [List.getElem?_append_left (List.getElem?_eq_some_iff.mp u1).1]; exact u1, u2⟩
    · rw [List.getElem?_append_right (by omega)] at hx
      obtain ⟨u, u1, u2⟩ := k.2.2 (i - es.length) j x hx
      refine ⟨u, ?_, u2⟩
      have he : i * sz = (i - es.length) * sz + es.length * sz := by rw [← Nat.add_mul]; congr 1; omega
      rw [List.getElem?_append_right (by rw [h.1]; omega), h.1]
      rw [show i * sz + j - es.length * sz = (i - es.length) * sz + j by omega]
      exact u1
theorem FlatD.cons {vs us : List Value} {c : List D} {fs : List (List D)} {sz : Nat} (hl : vs.length = sz) (hc : c.length = sz) (h : ∀ (j : Nat) (x : D), c[j]? = some x → ∃ u, vs[j]? = some u ∧ RepD w N u x)
    (k : FlatD w N us fs sz) : FlatD w N (vs ++ us) (c :: fs) sz := by
  have : FlatD w N vs [c] sz := ⟨by simp [hl], fun d hd => by simp at hd; subst hd; exact hc, fun i j x hx => by
    cases i with
    | zero => simpa using h j x (by simpa using hx)
    | succ i => simp at hx⟩
  exact this.append k

/-- A new row in a new block, spare places behind it. -/
theorem row_new {dst : Option Nat} {es : List (List D)} {vs rest : List Value} {K : St → Prop} {e sz cap : Nat} {fr : Nat × Nat} (hs : Sat P X O w0 θ st a w) (hsz : sz = P.cellsOf e) (hf : FlatD w (Nn X θ st.h) vs es sz)
    (hcap : (vs ++ rest).length = cap * sz) (hle : es.length ≤ cap) (hfr : nf fr (cap * sz + xz sz)) (h : newK dst (.row e es) T.full K st) :
    Post P X O w0 θ K (a.put dst (.slice (some ⟨w.heap.size, 0, none⟩) es.length cap)) (w.alloc (.cells (vs ++ rest).toArray e fr)) := by
  have hn := hs.fresh st.n (Nat.le_refl _)
  have hE := Ext.alloc (X := X) (θ := θ) (h := st.h) (n := st.n) (ob := .row e es) (w := w) (o := .cells (vs ++ rest).toArray e fr) (l := ⟨some w.heap.size, 0, sz, es.length⟩) (.inl rfl)
  have hf' := hf.ext hE
  have hheap : (w.alloc (.cells (vs ++ rest).toArray e fr)).heap[w.heap.size]? = some (.cells (vs ++ rest).toArray e fr) := by rw [alloc_heap, if_pos rfl]
  refine newK_post (l := ⟨some w.heap.size, 0, sz, es.length⟩) h hs (.inl rfl) ?_ ?_
  · refine ⟨hsz, rfl, hf.2.1, (vs ++ rest).toArray, fr, hheap, ?_, ?_, fun i j x hx => ?_⟩
    · simp only [List.size_toArray, hcap]; exact hfr
    · simp only [List.size_toArray, hcap, Nat.zero_add]; exact Nat.mul_le_mul_right _ hle
    · obtain ⟨u, u1, u2⟩ := hf'.2.2 i j x hx
      refine ⟨u, ?_, u2⟩
      simp only [Nat.zero_add, List.getElem?_toArray]
      rw [List.getElem?_append_left (List.getElem?_eq_some_iff.mp u1).1]
      exact u1
  · have := RepT.full (w := w.alloc (.cells (vs ++ rest).toArray e fr)) (N := Nn X (θ.set st.n ⟨some w.heap.size, 0, sz, es.length⟩) ((st.n, .row e es) :: st.h)) (θ := θ.set st.n ⟨some w.heap.size, 0, sz, es.length⟩)
      st.n ⟨some w.heap.size, 0, sz, es.length⟩ (Th.set_self _ _ _) w.heap.size cap rfl hle ⟨_, e, fr, hheap, by simp only [List.size_toArray, hcap]; omega⟩ ⟨w.heap.size, 0, none⟩ rfl rfl (fun _ => rfl)
    exact this

/-- A row in no block: a slice that is nil. -/
theorem row_nil {dst : Option Nat} {K : St → Prop} {e : Nat} (hs : Sat P X O w0 θ st a w) (h : newK dst (.row e []) T.full K st) : Post P X O w0 θ K (a.put dst (.slice none 0 0)) w := by
  have hn := hs.fresh st.n (Nat.le_refl _)
  have hE : Ext w (Nn X θ st.h) w (Nn X (θ.set st.n ⟨none, 0, P.cellsOf e, 0⟩) ((st.n, .row e []) :: st.h)) := ⟨Nat.le_refl _, fun b hb hN => ⟨fun hN' => (Nn_cons hN').elim hN (fun h1 => by cases h1), rfl⟩⟩
  have hset : ∀ {id : Nat} {l' : Lay}, id ≠ st.n → (θ.set st.n ⟨none, 0, P.cellsOf e, 0⟩) id = some l' → θ id = some l' := fun {id l'} hi h2 => by simpa [Th.set, hi] using h2
  have hs1 : Sat P X O w0 (θ.set st.n ⟨none, 0, P.cellsOf e, 0⟩) ⟨st.t, (st.n, .row e []) :: st.h, st.n + 1, st.nt⟩ a w := by
    refine hs.move hE (Szp.refl w) (Th.set_sub hn) ⟨fun id ob hl => ?_, fun id id' ob1 ob2 l1 l2 b h1 h2 h3 h4 h5 h6 => ?_, fun id ob' l' b h1 h2 h3 => ?_⟩ (fun id hid => ?_) hs.kp
    · rw [look_cons] at hl
      by_cases he : st.n = id
      · subst he
        simp at hl; subst hl
        exact ⟨_, Th.set_self _ _ _, rfl, rfl, fun x hx => by simp at hx, rfl⟩
      · rw [if_neg he] at hl
        obtain ⟨l', k1, k2⟩ := hs.hp.ob id ob hl
        exact ⟨l', Th.set_sub hn id l' k1, k2.ext hE (Szp.refl w) (Th.set_sub hn) (fun _ _ => rfl)⟩
    · rw [look_cons] at h1 h2
      by_cases e1 : st.n = id
      · subst e1; rw [Th.set_self] at h3; cases h3; cases h5
      · by_cases e2 : st.n = id'
        · subst e2; rw [Th.set_self] at h4; cases h4; cases h6
        · rw [if_neg e1] at h1
          rw [if_neg e2] at h2
          exact hs.hp.inj id id' ob1 ob2 l1 l2 b h1 h2 (hset (fun e => e1 e.symm) h3) (hset (fun e => e2 e.symm) h4) h5 h6
    · rw [look_cons] at h1
      by_cases e1 : st.n = id
      · subst e1; rw [Th.set_self] at h2; cases h2; cases h3
      · rw [if_neg e1] at h1
        exact hs.hp.rng id ob' l' b h1 (hset (fun e => e1 e.symm) h2) h3
    · have : id ≠ st.n := by omega
      simp only [Th.set, this, if_false]
      exact hs.fresh id (by omega)
  rw [newK_eq] at h
  exact (putK_post h hs1 (RepT.full0 st.n _ (Th.set_self _ _ _) rfl)).weaken (Th.set_sub hn)

/-- What a slice's elements read as in memory, header and all. -/
theorem slice_cells {v : Value} {x : T} {es : List (List D)} {B sz : Nat} {h : Hp} (hp : HpS P X O B θ h w) (hv : RepT w (Nn X θ h) θ v x) (he : elems h x = some es) (hs : ∀ c ∈ es, c.length = sz) :
    ∃ A cap, v = .slice A es.length cap ∧ es.length ≤ cap ∧ (es ≠ [] → ∃ ad, A = some ad ∧ ad.spot = none ∧ ∀ (i j : Nat) (d : D), (es[i]?).bind (·[j]?) = some d → ∃ u, w.cell? (ad.add (i * sz + j)) = some u ∧ RepD w (Nn X θ h) u d) := by
  cases x with
  | d y =>
    cases y with
    | sl es' =>
      simp [elems] at he; subst he
      cases hv with
      | d hv =>
        cases hv with
        | nil => exact ⟨none, 0, rfl, Nat.le_refl _, fun hh => absurd rfl hh⟩
        | sl ad _ cap sz' c hl hb hs' hc hr =>
          refine ⟨_, _, rfl, hl, fun hne => ?_⟩
          obtain ⟨b1, b2, b3⟩ := hb hne
          refine ⟨ad, rfl, b1, fun i j d hd => ⟨c i j, ?_, hr i j d hd⟩⟩
          have : sz = sz' := by
            have hlen : 0 < es'.length := by cases es' with | nil => exact absurd rfl hne | cons _ _ => simp
            rw [← hs es'[0] (List.getElem_mem _), hs' es'[0] (List.getElem_mem _)]
          subst this
          rw [add_off' b1, ← Nat.add_assoc]
          exact hc i j d hd
    | _ => simp [elems] at he
  | nils => simp [elems] at he; subst he; cases hv; exact ⟨none, 0, rfl, Nat.le_refl _, fun hh => absurd rfl hh⟩
  | full id =>
    simp only [elems] at he
    cases hlk : look h id with
    | none => simp [hlk] at he
    | some ob =>
      cases ob with
      | row e es' =>
        simp [hlk] at he; subst he
        obtain ⟨L, k1, k2, k3, k4, k5⟩ := hp.ob id _ hlk
        cases hv with
        | full _ L' hθ b cap hb hlc hz ad hab hsp ho =>
          rw [hθ] at k1; cases k1
          refine ⟨some ad, cap, by rw [k3], by omega, fun hne => ⟨ad, rfl, hsp, fun i j d hd => ?_⟩⟩
          simp only [hb] at k5
          obtain ⟨cs, fr, m1, m2, m3, m4⟩ := k5
          have hL : L.sz = sz := by
            have hlen : 0 < es'.length := by cases es' with | nil => exact absurd rfl hne | cons _ _ => simp
            rw [← hs es'[0] (List.getElem_mem _), k4 es'[0] (List.getElem_mem _)]
          obtain ⟨u, u1, u2⟩ := m4 i j d hd
          refine ⟨u, ?_, u2⟩
          have hlt := FlatD.lt hs hd
          rw [add_off' hsp, ho (by omega), hab]
          rw [hL] at u1
          simp [World.cell?, m1]
          rw [← Nat.add_assoc]
          exact u1
        | full0 _ L' hθ h0 =>
          rw [hθ] at k1; cases k1
          have : es' = [] := List.length_eq_zero_iff.mp (by omega)
          subst this
          exact ⟨none, 0, rfl, Nat.le_refl _, fun hh => absurd rfl hh⟩
      | _ => simp [hlk] at he
  | own id o n =>
    simp only [elems] at he
    cases hlk : look h id with
    | none => simp [hlk] at he
    | some ob =>
      cases ob with
      | row e es' =>
        simp [hlk] at he
        obtain ⟨L, k1, k2, k3, k4, k5⟩ := hp.ob id _ hlk
        cases hv with
        | own _ _ _ L' hθ b hb ad cap hlc hab hsp hin ho hz =>
          rw [hθ] at k1; cases k1
          have hlen : es.length = n := by rw [← he]; simp; omega
          refine ⟨some ad, cap, by rw [hlen], by omega, fun hne => ⟨ad, rfl, hsp, fun i j d hd => ?_⟩⟩
          simp only [hb] at k5
          obtain ⟨cs, fr, m1, m2, m3, m4⟩ := k5
          have hlt := FlatD.lt hs hd
          have hd' : (es'[o + i]?).bind (·[j]?) = some d := by
            rw [← he, List.getElem?_take, if_pos (by omega), List.getElem?_drop] at hd
            exact hd
          have hL : L.sz = sz := by
            have h0 : 0 < es.length := by omega
            have hm : es[0] ∈ es' := by
              have : es[0] ∈ (es'.drop o).take n := by rw [he]; exact List.getElem_mem _
              exact List.mem_of_mem_drop (List.mem_of_mem_take this)
            rw [← hs es[0] (List.getElem_mem _), k4 _ hm]
          obtain ⟨u, u1, u2⟩ := m4 (o + i) j d hd'
          refine ⟨u, ?_, u2⟩
          rw [add_off' hsp, ho (by omega), hab]
          rw [hL] at u1 ⊢
          simp [World.cell?, m1]
          rw [Nat.add_mul] at u1
          rw [show L.o0 + o * sz + (i * sz + j) = L.o0 + (o * sz + i * sz) + j by omega]
          exact u1
        | own0 _ _ L' hθ =>
          simp at he; subst he
          exact ⟨none, 0, rfl, Nat.le_refl _, fun hh => absurd rfl hh⟩
      | _ => simp [hlk] at he
  | _ => simp [elems] at he

/-- All its cells, loaded. -/
theorem run_first {v : Value} {x : T} {es : List (List D)} {B sz : Nat} {h : Hp} (hp : HpS P X O B θ h w) (hv : RepT w (Nn X θ h) θ v x) (he : elems h x = some es) (hs : ∀ c ∈ es, c.length = sz) :
    ∃ vs : List Value, (∀ m, (Builtin.firstCells sz es.length v).run P { w with drawn := m } = .ok vs.toArray { w with drawn := m }) ∧ FlatD w (Nn X θ h) vs es sz := by
  obtain ⟨A, cap, rfl, _, hc⟩ := slice_cells hp hv he hs
  by_cases hne : es = []
  · subst hne
    refine ⟨[], fun m => ?_, FlatD.nil⟩
    cases A with
    | none => rfl
    | some ad => simp [Builtin.firstCells, loadCells, loadCellsFrom]
  · obtain ⟨ad, rfl, hsp, hcell⟩ := hc hne
    have hall : ∀ k, k < es.length * sz → ∃ i j, i < es.length ∧ j < sz ∧ k = i * sz + j := fun k hk => by
      have hz : 0 < sz := by
        rcases Nat.eq_zero_or_pos sz with h0 | h0
        · rw [h0] at hk; omega
        · exact h0
      exact ⟨k / sz, k % sz, (Nat.div_lt_iff_lt_mul hz).mpr hk, Nat.mod_lt _ hz, by have := Nat.div_add_mod k sz; rw [Nat.mul_comm] at this; omega⟩
    have hd : ∀ i j, i < es.length → j < sz → ∃ d, (es[i]?).bind (·[j]?) = some d := fun i j hi hj => by
      have : es[i].length = sz := hs _ (List.getElem_mem _)
      exact ⟨es[i][j], by simp [hi]⟩
    refine ⟨(List.range (es.length * sz)).map fun k => (w.cell? (ad.add k)).getD undef, ?_, by simp, hs, fun i j x hx => ?_⟩
    · exact fun m => run_loadCells (P := P) { w with drawn := m } ad _ _ (fun k hk => by
        obtain ⟨i, j, hi, hj, rfl⟩ := hall k hk
        obtain ⟨d, hd⟩ := hd i j hi hj
        obtain ⟨u, u1, _⟩ := hcell i j d hd
        have u1' : ({ w with drawn := m } : World).cell? (ad.add (i * sz + j)) = some u := u1
        rw [u1', u1]
        rfl)
    · obtain ⟨hi, hj⟩ := FlatD.lt hs hx
      obtain ⟨u, u1, u2⟩ := hcell i j x hx
      exact ⟨u, by simp [mul_add_lt hi hj, u1], u2⟩
end Go.VL

/- append. -/
namespace Go.VL
open Go Go.RowKit

variable {P : Program} {X O : Nat → Prop} {w0 w w' : World} {θ θ' : Th} {st : St} {a : Act} {N : Nat → Prop}

theorem Nn_repl {id b c : Nat} {ob0 ob' : Ob} {L L' : Lay} {h : Hp} {n : Nat} (hlk : look h id = some ob0) (hθ : θ id = some L) (hb : L.blk = some b) (hb' : L'.blk = some b) (hc : Nn X (θ.set n L') ((n, ob') :: rem h id) c) : Nn X θ h c := by
  rcases Nn_cons hc with h1 | h1
  · rcases h1 with hx | ⟨i, o, l', k1, k2, k3⟩
    · exact .inl hx
    · rw [look_rem] at k1
      by_cases he : id = i
      · simp [he] at k1
      · rw [if_neg he] at k1
        exact .inr ⟨i, o, l', k1, k2, k3⟩
  · rw [hb'] at h1; cases h1
    exact .inr ⟨id, ob0, L, hlk, hθ, hb⟩

/-- An object that goes on under another name, in its own block. -/
theorem Sat.repl {id b : Nat} {ob0 ob' : Ob} {L L' : Lay} (hs : Sat P X O w0 θ st a w) (hlk : look st.h id = some ob0) (hθ : θ id = some L) (hb : L.blk = some b) (hb' : L'.blk = some b) (hw : Wr w b w')
    (hob : ObS P w' (Nn X (θ.set st.n L') ((st.n, ob') :: rem st.h id)) (θ.set st.n L') L' ob') :
    Sat P X O w0 (θ.set st.n L') ⟨st.t, (st.n, ob') :: rem st.h id, st.n + 1, st.nt⟩ a w' := by
  have hn := hs.fresh st.n (Nat.le_refl _)
  have hE : Ext w (Nn X θ st.h) w' (Nn X (θ.set st.n L') ((st.n, ob') :: rem st.h id)) := ⟨by rw [hw.size]; exact Nat.le_refl _, fun c _ hN => ⟨fun hc => hN (Nn_repl hlk hθ hb hb' hc), hw.other c (fun e => hN (.inr ⟨id, ob0, L, hlk, hθ, e ▸ hb⟩))⟩⟩
  have hset : ∀ {i : Nat} {l' : Lay}, i ≠ st.n → (θ.set st.n L') i = some l' → θ i = some l' := fun {i l'} hi h2 => by simpa [Th.set, hi] using h2
  have hrng := hs.hp.rng id ob0 L b hlk hθ hb
  have key : ∀ {i o}, look ((st.n, ob') :: rem st.h id) i = some o → (i = st.n ∧ o = ob') ∨ (i ≠ st.n ∧ i ≠ id ∧ look st.h i = some o) := fun {i o} hi => by
    rw [look_cons] at hi
    by_cases e1 : st.n = i
    · rw [if_pos e1] at hi; cases hi; exact .inl ⟨e1.symm, rfl⟩
    · rw [if_neg e1, look_rem] at hi
      by_cases e2 : id = i
      · simp [e2] at hi
      · rw [if_neg e2] at hi
        exact .inr ⟨fun e => e1 e.symm, fun e => e2 e.symm, hi⟩
  refine hs.move hE hw.shp (Th.set_sub hn) ⟨fun i o hi => ?_, fun i i' o1 o2 l1 l2 c h1 h2 h3 h4 h5 h6 => ?_, fun i o l1 c h1 h2 h3 => ?_⟩ (fun i hi => ?_) (hw.kp hrng.2.2 rfl hs.kp)
  · rcases key hi with ⟨rfl, rfl⟩ | ⟨e1, e2, h1⟩
    · exact ⟨L', Th.set_self _ _ _, hob⟩
    · obtain ⟨l1, k1, k2⟩ := hs.hp.ob i o h1
      refine ⟨l1, Th.set_sub hn i l1 k1, k2.ext hE hw.shp (Th.set_sub hn) (fun c hc => hw.other c (fun e => ?_))⟩
      subst e
      exact e2 (hs.hp.inj i id o ob0 l1 L c h1 hlk k1 hθ hc hb)
  · rcases key h1 with ⟨e1, _⟩ | ⟨e1, e1', k1⟩ <;> rcases key h2 with ⟨e2, _⟩ | ⟨e2, e2', k2⟩
    · rw [e1, e2]
    · subst e1
      rw [Th.set_self] at h3; cases h3
      rw [hb'] at h5; cases h5
      exact absurd (hs.hp.inj i' id o2 ob0 l2 L _ k2 hlk (hset e2 h4) hθ h6 hb) e2'
    · subst e2
      rw [Th.set_self] at h4; cases h4
      rw [hb'] at h6; cases h6
      exact absurd (hs.hp.inj i id o1 ob0 l1 L _ k1 hlk (hset e1 h3) hθ h5 hb) e1'
    · exact hs.hp.inj i i' o1 o2 l1 l2 c k1 k2 (hset e1 h3) (hset e2 h4) h5 h6
  · rcases key h1 with ⟨e1, _⟩ | ⟨e1, e1', k1⟩
    · subst e1
      rw [Th.set_self] at h2; cases h2
      rw [hb'] at h3; cases h3
      rw [hw.size]
      exact hrng
    · obtain ⟨q1, q2, q3⟩ := hs.hp.rng i o l1 c k1 (hset e1 h2) h3
      exact ⟨by rw [hw.size]; exact q1, q2, q3⟩
  · have : i ≠ st.n := by omega
    simp only [Th.set, this, if_false]
    exact hs.fresh i (by omega)

theorem RepT.nils_inv {v : Value} (h : RepT w N θ v .nils) : v = .slice none 0 0 := by cases h; rfl
theorem RepT.full_inv {v : Value} {id : Nat} (h : RepT w N θ v (.full id)) : ∃ l, θ id = some l ∧ ((∃ b cap ad, v = .slice (some ad) l.len cap ∧ l.blk = some b ∧ l.len ≤ cap ∧
    (∃ cs e fr, w.heap[b]? = some (.cells cs e fr) ∧ l.o0 + cap * l.sz ≤ cs.size) ∧ ad.block = b ∧ ad.spot = none ∧ (cap ≠ 0 → ad.off = l.o0)) ∨ (v = .slice none 0 0 ∧ l.len = 0)) := by
  cases h with
  | full _ l hθ b cap hb hlc hz ad hab hsp ho => exact ⟨l, hθ, .inl ⟨b, cap, ad, rfl, hb, hlc, hz, hab, hsp, ho⟩⟩
  | full0 _ l hθ h0 => exact ⟨l, hθ, .inr ⟨rfl, h0⟩⟩
theorem RepT.own_inv {v : Value} {id off len : Nat} (h : RepT w N θ v (.own id off len)) : ∃ l, θ id = some l ∧ ((∃ b cap ad, v = .slice (some ad) len cap ∧ l.blk = some b ∧ len ≤ cap ∧ off + len ≤ l.len ∧
    (∃ cs e fr, w.heap[b]? = some (.cells cs e fr) ∧ l.o0 + (off + cap) * l.sz ≤ cs.size) ∧ ad.block = b ∧ ad.spot = none ∧ (cap ≠ 0 → ad.off = l.o0 + off * l.sz)) ∨ (v = .slice none 0 0 ∧ len = 0)) := by
  cases h with
  | own _ _ _ l hθ b hb ad cap hlc hab hsp hin ho hz => exact ⟨l, hθ, .inl ⟨b, cap, ad, rfl, hb, hlc, hin, hz, hab, hsp, ho⟩⟩
  | own0 _ _ l hθ => exact ⟨l, hθ, .inr ⟨rfl, rfl⟩⟩
theorem headEs_elems {h : Hp} {e : Nat} {s : T} {es : List (List D)} {o : Option Nat} (hh : headEs h e s = some (es, o)) : elems h s = some es := by
  unfold headEs at hh
  split at hh
  · cases hh; rfl
  · rename_i id
    cases hl : look h id with
    | none => simp [hl] at hh
    | some ob =>
      cases ob <;> simp [hl] at hh
      rename_i e' es'
      cases hb : Nat.beq e' e <;> simp [hb] at hh
      simp [elems, hl, hh.1]
  · rename_i id o' l
    cases hl : look h id with
    | none => simp [hl] at hh
    | some ob =>
      cases ob <;> simp [hl] at hh
      rename_i e' es'
      cases hb : Nat.beq e' e <;> simp [hb] at hh
      simp [elems, hl, hh.1]
  · cases hh

/-- The block that stands ahead in an append, if there is one. -/
theorem headEs_own {h : Hp} {e cap B : Nat} {s : T} {es : List (List D)} {o : Option Nat} {ad : Addr} (hp : HpS P X O B θ h w) (hh : headEs h e s = some (es, o)) (hv : RepT w (Nn X θ h) θ (.slice (some ad) es.length cap) s) :
    ∃ id L b es' off cs fr, o = some id ∧ look h id = some (.row e es') ∧ θ id = some L ∧ L.blk = some b ∧ ad.block = b ∧ ad.spot = none ∧ L.sz = P.cellsOf e ∧ (∀ c ∈ es', c.length = L.sz) ∧ es.length ≤ cap ∧ (cap ≠ 0 → ad.off = L.o0 + off * L.sz) ∧
      w.heap[b]? = some (.cells cs e fr) ∧ nf fr (cs.size + xz L.sz) ∧ L.o0 + (off + cap) * L.sz ≤ cs.size ∧ es = (es'.drop off).take es.length ∧
      ∀ (i j : Nat) (x : D), (es[i]?).bind (·[j]?) = some x → ∃ u, cs[L.o0 + (off + i) * L.sz + j]? = some u ∧ RepD w (Nn X θ h) u x := by
  unfold headEs at hh
  split at hh
  · cases hh
    have := hv.nils_inv
    injection this with q1
    cases q1
  · rename_i id
    cases hl : look h id with
    | none => simp [hl] at hh
    | some ob =>
      cases ob <;> simp [hl] at hh
      rename_i e' es'
      cases hb : Nat.beq e' e <;> simp [hb] at hh
      obtain rfl := Nat.eq_of_beq_eq_true hb
      obtain ⟨rfl, rfl⟩ := hh
      obtain ⟨L, k1, k2, k3, k4, k5⟩ := hp.ob id _ hl
      obtain ⟨L', hθ, q⟩ := hv.full_inv
      rw [hθ] at k1; cases k1
      rcases q with ⟨b, cap', ad', q1, hb, hlc, hz, hab, hsp, ho⟩ | ⟨q1, _⟩
      · injection q1 with q1 q2 q3
        cases q1
        subst q3
        simp only [hb] at k5
        obtain ⟨cs, fr, m1, m2, m3, m4⟩ := k5
        obtain ⟨cs', e1, fr', z1, z2⟩ := hz
        rw [m1] at z1; cases z1
        exact ⟨id, L, b, es', 0, cs, fr, rfl, hl, hθ, hb, hab, hsp, k2, k4, by omega, by simpa using ho, m1, m2, by simpa using z2, by simp, fun i j x hx => by simpa using m4 i j x hx⟩
      · injection q1 with q1
        cases q1
  · rename_i id off l
    cases hl : look h id with
    | none => simp [hl] at hh
    | some ob =>
      cases ob <;> simp [hl] at hh
      rename_i e' es'
      cases hb : Nat.beq e' e <;> simp [hb] at hh
      obtain rfl := Nat.eq_of_beq_eq_true hb
      obtain ⟨he, rfl⟩ := hh
      obtain ⟨L, k1, k2, k3, k4, k5⟩ := hp.ob id _ hl
      obtain ⟨L', hθ, q⟩ := hv.own_inv
      rw [hθ] at k1; cases k1
      rcases q with ⟨b, cap', ad', q1, hb, hlc, hin, hz, hab, hsp, ho⟩ | ⟨q1, _⟩
      · injection q1 with q1 q2 q3
        cases q1
        subst q3
        simp only [hb] at k5
        obtain ⟨cs, fr, m1, m2, m3, m4⟩ := k5
        obtain ⟨cs', e1, fr', z1, z2⟩ := hz
        rw [m1] at z1; cases z1
        refine ⟨id, L, b, es', off, cs, fr, rfl, hl, hθ, hb, hab, hsp, k2, k4, by omega, ho, m1, m2, z2, by rw [q2]; exact he.symm, fun i j x hx => ?_⟩
        rw [← he, List.getElem?_take] at hx
        by_cases hi : i < l
        · rw [if_pos hi, List.getElem?_drop] at hx
          exact m4 _ j x hx
        · rw [if_neg hi] at hx; simp at hx
      · injection q1 with q1
        cases q1
  · cases hh

theorem numsD_length (s : List UInt8) : (numsD s).length = s.length := by simp [numsD]

/-- What is put behind in an append, loaded. -/
theorem run_tail {tab : Tab} {e sz B : Nat} {y : TyI} {v : Value} {x : T} {es : List (List D)} {h : Hp} (hp : HpS P X O B θ h w) (hy : tab.ty e = some y) (hsz : y.size = sz) (hv : RepT w (Nn X θ h) θ v x) (he : tailEs tab h e x = some es)
    (hs : ∀ c ∈ es, c.length = sz) : (Builtin.lenOf v).run P w = .ok es.length w ∧ ∃ vs : List Value, (∀ m, (Builtin.firstCells sz es.length v).run P { w with drawn := m } = .ok vs.toArray { w with drawn := m }) ∧ FlatD w (Nn X θ h) vs es sz := by
  unfold tailEs at he
  split at he
  · rename_i s
    simp only [hy] at he
    split at he
    · cases he
      obtain rfl := hv.str_inv
      have hsize : (⟨s.toArray⟩ : ByteArray).size = s.length := by simp [ByteArray.size]
      refine ⟨by simp [Builtin.lenOf, hsize, numsD_length], (s.map fun b => Value.int .u8 b.toNat), fun m => ?_, ?_⟩
      · have : (⟨s.toArray⟩ : ByteArray).extract 0 (numsD s).length = ⟨s.toArray⟩ := by
          rw [extract_mk, numsD_length]; simp
        simp only [Builtin.firstCells, this, Sem.run_pure]
        simp
      · refine ⟨?_, hs, fun i j d hd => ?_⟩
        · by_cases h0 : s = []
          · subst h0; simp [numsD]
          · have h1 : 1 = sz := by
              cases s with
              | nil => exact absurd rfl h0
              | cons b r => exact hs [.int .u8 b.toNat] (by simp [numsD])
            simp [numsD_length, ← h1]
        · simp only [numsD, List.getElem?_map] at hd
          cases hb : s[i]? with
          | none => simp [hb] at hd
          | some b =>
            simp [hb] at hd
            have h1 : 1 = sz := hs [.int .u8 b.toNat] (List.mem_map.mpr ⟨b, List.mem_of_getElem? hb, rfl⟩)
            subst h1
            cases j with
            | zero => simp at hd; subst hd; exact ⟨.int .u8 b.toNat, by simp [hb], .int _ _⟩
            | succ j => simp at hd
    · cases he
  · obtain ⟨A, cap, hv', _, _⟩ := slice_cells hp hv he hs
    refine ⟨by rw [hv']; simp [Builtin.lenOf], run_first hp hv he hs⟩

theorem append_zeros {tab : Tab} (tk : TabOK P tab) {t : Nat} {xi : TyI} (ht : tab.ty t = some xi) (hk : ∀ k, xi.k ≠ .int k) : (do pure ((← underlying t) matches .int _) : Sem Bool).run P w = .ok false w := by
  obtain ⟨info, d, i1, i2, i3, _⟩ := tk.ty t xi ht
  simp only [Sem.run_bind, run_underlying' i2, Result.andThen_ok, Sem.run_pure]
  cases d <;> first | rfl | skip
  rename_i k
  exfalso
  cases hq : xi.k <;> rw [hq] at i3 <;> simp [fitsK] at i3
  exact hk _ hq
end Go.VL
