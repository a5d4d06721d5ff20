/- append. -/
import Derived.Test.YtbokamdcjofkbaaDoorVM
set_option linter.unusedVariables false
set_option linter.unusedSimpArgs false
namespace Go.VL
open Go Go.RowKit

variable {P : Program} {X O : Nat → Prop} {w0 w w' : World} {θ θ' : Th} {st : St} {a : Act} {N : Nat → Prop}

theorem Nn_repl {id b c : Nat} {ob0 ob' : Ob} {L L' : Lay} {h : Hp} {n : Nat} (hlk : look h id = some ob0) (hθ : θ id = some L) (hb : L.blk = some b) (hb' : L'.blk = some b) (hc : Nn X (θ.set n L') ((n, ob') :: rem h id) c) : Nn X θ h c := by
  rcases Nn_cons hc with h1 | h1
  · rcases h1 with hx | ⟨i, o, l', k1, k2, k3⟩
    · exact .inl hx
    · rw [look_rem] at k1
      by_cases he : id = i
      · simp [he] at k1
      · rw [if_neg he] at k1
        exact .inr ⟨i, o, l', k1, k2, k3⟩
  · rw [hb'] at h1; cases h1
    exact .inr ⟨id, ob0, L, hlk, hθ, hb⟩

/-- An object that goes on under another name, in its own block. -/
theorem Sat.repl {id b : Nat} {ob0 ob' : Ob} {L L' : Lay} (hs : Sat P X O w0 θ st a w) (hlk : look st.h id = some ob0) (hθ : θ id = some L) (hb : L.blk = some b) (hb' : L'.blk = some b) (hw : Wr w b w')
    (hob : ObS P w' (Nn X (θ.set st.n L') ((st.n, ob') :: rem st.h id)) (θ.set st.n L') L' ob') :
    Sat P X O w0 (θ.set st.n L') ⟨st.t, (st.n, ob') :: rem st.h id, st.n + 1, st.nt⟩ a w' := by
  have hn := hs.fresh st.n (Nat.le_refl _)
  have hE : Ext w (Nn X θ st.h) w' (Nn X (θ.set st.n L') ((st.n, ob') :: rem st.h id)) := ⟨by rw [hw.size]; exact Nat.le_refl _, fun c _ hN => ⟨fun hc => hN (Nn_repl hlk hθ hb hb' hc), hw.other c (fun e => hN (.inr ⟨id, ob0, L, hlk, hθ, e ▸ hb⟩))⟩⟩
  have hset : ∀ {i : Nat} {l' : Lay}, i ≠ st.n → (θ.set st.n L') i = some l' → θ i = some l' := fun {i l'} hi h2 => by simpa [Th.set, hi] using h2
  have hrng := hs.hp.rng id ob0 L b hlk hθ hb
  have key : ∀ {i o}, look ((st.n, ob') :: rem st.h id) i = some o → (i = st.n ∧ o = ob') ∨ (i ≠ st.n ∧ i ≠ id ∧ look st.h i = some o) := fun {i o} hi => by
    rw [look_cons] at hi
    by_cases e1 : st.n = i
    · rw [if_pos e1] at hi; cases hi; exact .inl ⟨e1.symm, rfl⟩
    · rw [if_neg e1, look_rem] at hi
      by_cases e2 : id = i
      · simp [e2] at hi
      · rw [if_neg e2] at hi
        exact .inr ⟨fun e => e1 e.symm, fun e => e2 e.symm, hi⟩
  refine hs.move hE hw.shp (Th.set_sub hn) ⟨fun i o hi => ?_, fun i i' o1 o2 l1 l2 c h1 h2 h3 h4 h5 h6 => ?_, fun i o l1 c h1 h2 h3 => ?_⟩ (fun i hi => ?_) (hw.kp hrng.2.2 rfl hs.kp)
  · rcases key hi with ⟨rfl, rfl⟩ | ⟨e1, e2, h1⟩
    · exact ⟨L', Th.set_self _ _ _, hob⟩
    · obtain ⟨l1, k1, k2⟩ := hs.hp.ob i o h1
      refine ⟨l1, Th.set_sub hn i l1 k1, k2.ext hE hw.shp (Th.set_sub hn) (fun c hc => hw.other c (fun e => ?_))⟩
      subst e
      exact e2 (hs.hp.inj i id o ob0 l1 L c h1 hlk k1 hθ hc hb)
  · rcases key h1 with ⟨e1, _⟩ | ⟨e1, e1', k1⟩ <;> rcases key h2 with ⟨e2, _⟩ | ⟨e2, e2', k2⟩
    · rw [e1, e2]
    · subst e1
      rw [Th.set_self] at h3; cases h3
      rw [hb'] at h5; cases h5
      exact absurd (hs.hp.inj i' id o2 ob0 l2 L _ k2 hlk (hset e2 h4) hθ h6 hb) e2'
    · subst e2
      rw [Th.set_self] at h4; cases h4
      rw [hb'] at h6; cases h6
      exact absurd (hs.hp.inj i id o1 ob0 l1 L _ k1 hlk (hset e1 h3) hθ h5 hb) e1'
    · exact hs.hp.inj i i' o1 o2 l1 l2 c k1 k2 (hset e1 h3) (hset e2 h4) h5 h6
  · rcases key h1 with ⟨e1, _⟩ | ⟨e1, e1', k1⟩
    · subst e1
      rw [Th.set_self] at h2; cases h2
      rw [hb'] at h3; cases h3
      rw [hw.size]
      exact hrng
    · obtain ⟨q1, q2, q3⟩ := hs.hp.rng i o l1 c k1 (hset e1 h2) h3
      exact ⟨by rw [hw.size]; exact q1, q2, q3⟩
  · have : i ≠ st.n := by omega
    simp only [Th.set, this, if_false]
    exact hs.fresh i (by omega)

theorem RepT.nils_inv {v : Value} (h : RepT w N θ v .nils) : v = .slice none 0 0 := by cases h; rfl
theorem RepT.full_inv {v : Value} {id : Nat} (h : RepT w N θ v (.full id)) : ∃ l, θ id = some l ∧ ((∃ b cap ad, v = .slice (some ad) l.len cap ∧ l.blk = some b ∧ l.len ≤ cap ∧
    (∃ cs e fr, w.heap[b]? = some (.cells cs e fr) ∧ l.o0 + cap * l.sz ≤ cs.size) ∧ ad.block = b ∧ ad.spot = none ∧ (cap ≠ 0 → ad.off = l.o0)) ∨ (v = .slice none 0 0 ∧ l.len = 0)) := by
  cases h with
  | full _ l hθ b cap hb hlc hz ad hab hsp ho => exact ⟨l, hθ, .inl ⟨b, cap, ad, rfl, hb, hlc, hz, hab, hsp, ho⟩⟩
  | full0 _ l hθ h0 => exact ⟨l, hθ, .inr ⟨rfl, h0⟩⟩
theorem RepT.own_inv {v : Value} {id off len : Nat} (h : RepT w N θ v (.own id off len)) : ∃ l, θ id = some l ∧ ((∃ b cap ad, v = .slice (some ad) len cap ∧ l.blk = some b ∧ len ≤ cap ∧ off + len ≤ l.len ∧
    (∃ cs e fr, w.heap[b]? = some (.cells cs e fr) ∧ l.o0 + (off + cap) * l.sz ≤ cs.size) ∧ ad.block = b ∧ ad.spot = none ∧ (cap ≠ 0 → ad.off = l.o0 + off * l.sz)) ∨ (v = .slice none 0 0 ∧ len = 0)) := by
  cases h with
  | own _ _ _ l hθ b hb ad cap hlc hab hsp hin ho hz => exact ⟨l, hθ, .inl ⟨b, cap, ad, rfl, hb, hlc, hin, hz, hab, hsp, ho⟩⟩
  | own0 _ _ l hθ => exact ⟨l, hθ, .inr ⟨rfl, rfl⟩⟩
theorem headEs_elems {h : Hp} {e : Nat} {s : T} {es : List (List D)} {o : Option Nat} (hh : headEs h e s = some (es, o)) : elems h s = some es := by
  unfold headEs at hh
  split at hh
  · cases hh; rfl
  · rename_i id
    cases hl : look h id with
    | none => simp [hl] at hh
    | some ob =>
      cases ob <;> simp [hl] at hh
      rename_i e' es'
      cases hb : Nat.beq e' e <;> simp [hb] at hh
      simp [elems, hl, hh.1]
  · rename_i id o' l
    cases hl : look h id with
    | none => simp [hl] at hh
    | some ob =>
      cases ob <;> simp [hl] at hh
      rename_i e' es'
      cases hb : Nat.beq e' e <;> simp [hb] at hh
      simp [elems, hl, hh.1]
  · cases hh

/-- The block that stands ahead in an append, if there is one. -/
theorem headEs_own {h : Hp} {e cap B : Nat} {s : T} {es : List (List D)} {o : Option Nat} {ad : Addr} (hp : HpS P X O B θ h w) (hh : headEs h e s = some (es, o)) (hv : RepT w (Nn X θ h) θ (.slice (some ad) es.length cap) s) :
    ∃ id L b es' off cs fr, o = some id ∧ look h id = some (.row e es') ∧ θ id = some L ∧ L.blk = some b ∧ ad.block = b ∧ ad.spot = none ∧ L.sz = P.cellsOf e ∧ (∀ c ∈ es', c.length = L.sz) ∧ es.length ≤ cap ∧ (cap ≠ 0 → ad.off = L.o0 + off * L.sz) ∧
      w.heap[b]? = some (.cells cs e fr) ∧ nf fr (cs.size + xz L.sz) ∧ L.o0 + (off + cap) * L.sz ≤ cs.size ∧ es = (es'.drop off).take es.length ∧
      ∀ (i j : Nat) (x : D), (es[i]?).bind (·[j]?) = some x → ∃ u, cs[L.o0 + (off + i) * L.sz + j]? = some u ∧ RepD w (Nn X θ h) u x := by
  unfold headEs at hh
  split at hh
  · cases hh
    have := hv.nils_inv
    injection this with q1
    cases q1
  · rename_i id
    cases hl : look h id with
    | none => simp [hl] at hh
    | some ob =>
      cases ob <;> simp [hl] at hh
      rename_i e' es'
      cases hb : Nat.beq e' e <;> simp [hb] at hh
      obtain rfl := Nat.eq_of_beq_eq_true hb
      obtain ⟨rfl, rfl⟩ := hh
      obtain ⟨L, k1, k2, k3, k4, k5⟩ := hp.ob id _ hl
      obtain ⟨L', hθ, q⟩ := hv.full_inv
      rw [hθ] at k1; cases k1
      rcases q with ⟨b, cap', ad', q1, hb, hlc, hz, hab, hsp, ho⟩ | ⟨q1, _⟩
      · injection q1 with q1 q2 q3
        cases q1
        subst q3
        simp only [hb] at k5
        obtain ⟨cs, fr, m1, m2, m3, m4⟩ := k5
        obtain ⟨cs', e1, fr', z1, z2⟩ := hz
        rw [m1] at z1; cases z1
        exact ⟨id, L, b, es', 0, cs, fr, rfl, hl, hθ, hb, hab, hsp, k2, k4, by omega, by simpa using ho, m1, m2, by simpa using z2, by simp, fun i j x hx => by simpa using m4 i j x hx⟩
      · injection q1 with q1
        cases q1
  · rename_i id off l
    cases hl : look h id with
    | none => simp [hl] at hh
    | some ob =>
      cases ob <;> simp [hl] at hh
      rename_i e' es'
      cases hb : Nat.beq e' e <;> simp [hb] at hh
      obtain rfl := Nat.eq_of_beq_eq_true hb
      obtain ⟨he, rfl⟩ := hh
      obtain ⟨L, k1, k2, k3, k4, k5⟩ := hp.ob id _ hl
      obtain ⟨L', hθ, q⟩ := hv.own_inv
      rw [hθ] at k1; cases k1
      rcases q with ⟨b, cap', ad', q1, hb, hlc, hin, hz, hab, hsp, ho⟩ | ⟨q1, _⟩
      · injection q1 with q1 q2 q3
        cases q1
        subst q3
        simp only [hb] at k5
        obtain ⟨cs, fr, m1, m2, m3, m4⟩ := k5
        obtain ⟨cs', e1, fr', z1, z2⟩ := hz
        rw [m1] at z1; cases z1
        refine ⟨id, L, b, es', off, cs, fr, rfl, hl, hθ, hb, hab, hsp, k2, k4, by omega, ho, m1, m2, z2, by rw [q2]; exact he.symm, fun i j x hx => ?_⟩
        rw [← he, List.getElem?_take] at hx
        by_cases hi : i < l
        · rw [if_pos hi, List.getElem?_drop] at hx
          exact m4 _ j x hx
        · rw [if_neg hi] at hx; simp at hx
      · injection q1 with q1
        cases q1
  · cases hh

theorem numsD_length (s : List UInt8) : (numsD s).length = s.length := by simp [numsD]

/-- What is put behind in an append, loaded. -/
theorem run_tail {tab : Tab} {e sz B : Nat} {y : TyI} {v : Value} {x : T} {es : List (List D)} {h : Hp} (hp : HpS P X O B θ h w) (hy : tab.ty e = some y) (hsz : y.size = sz) (hv : RepT w (Nn X θ h) θ v x) (he : tailEs tab h e x = some es)
    (hs : ∀ c ∈ es, c.length = sz) : (Builtin.lenOf v).run P w = .ok es.length w ∧ ∃ vs : List Value, (∀ m, (Builtin.firstCells sz es.length v).run P { w with drawn := m } = .ok vs.toArray { w with drawn := m }) ∧ FlatD w (Nn X θ h) vs es sz := by
  unfold tailEs at he
  split at he
  · rename_i s
    simp only [hy] at he
    split at he
    · cases he
      obtain rfl := hv.str_inv
      have hsize : (⟨s.toArray⟩ : ByteArray).size = s.length := by simp [ByteArray.size]
      refine ⟨by simp [Builtin.lenOf, hsize, numsD_length], (s.map fun b => Value.int .u8 b.toNat), fun m => ?_, ?_⟩
      · have : (⟨s.toArray⟩ : ByteArray).extract 0 (numsD s).length = ⟨s.toArray⟩ := by
          rw [extract_mk, numsD_length]; simp
        simp only [Builtin.firstCells, this, Sem.run_pure]
        simp
      · refine ⟨?_, hs, fun i j d hd => ?_⟩
        · by_cases h0 : s = []
          · subst h0; simp [numsD]
          · have h1 : 1 = sz := by
              cases s with
              | nil => exact absurd rfl h0
              | cons b r => exact hs [.int .u8 b.toNat] (by simp [numsD])
            simp [numsD_length, ← h1]
        · simp only [numsD, List.getElem?_map] at hd
          cases hb : s[i]? with
          | none => simp [hb] at hd
          | some b =>
            simp [hb] at hd
            have h1 : 1 = sz := hs [.int .u8 b.toNat] (List.mem_map.mpr ⟨b, List.mem_of_getElem? hb, rfl⟩)
            subst h1
            cases j with
            | zero => simp at hd; subst hd; exact ⟨.int .u8 b.toNat, by simp [hb], .int _ _⟩
            | succ j => simp at hd
    · cases he
  · obtain ⟨A, cap, hv', _, _⟩ := slice_cells hp hv he hs
    refine ⟨by rw [hv']; simp [Builtin.lenOf], run_first hp hv he hs⟩

theorem append_zeros {tab : Tab} (tk : TabOK P tab) {t : Nat} {xi : TyI} (ht : tab.ty t = some xi) (hk : ∀ k, xi.k ≠ .int k) : (do pure ((← underlying t) matches .int _) : Sem Bool).run P w = .ok false w := by
  obtain ⟨info, d, i1, i2, i3, _⟩ := tk.ty t xi ht
  simp only [Sem.run_bind, run_underlying' i2, Result.andThen_ok, Sem.run_pure]
  cases d <;> first | rfl | skip
  rename_i k
  exfalso
  cases hq : xi.k <;> rw [hq] at i3 <;> simp [fitsK] at i3
  exact hk _ hq
end Go.VL
