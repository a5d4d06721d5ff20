/- Rows as flat cells: read out of a row that is own, and told of one again. -/
import Derived.Test.YtpkgjkoijeapjaaVSl
import Derived.Test.YtpkgjkoijeapjaaVMv
set_option linter.unusedVariables false
set_option linter.unusedSimpArgs false
set_option linter.unusedVariables false
namespace Go.VL
open Go Go.RowKit
variable {P : Program} {X O : Nat → Prop} {w w' : World} {θ θ' : Th} {N N' : Nat → Prop}

theorem row_flat {l : Lay} {e b : Nat} {es : List (List D)} (h : ObS P w N θ l (.row e es)) (hb : l.blk = some b) :
    ∃ cs fr, w.heap[b]? = some (.cells cs e fr) ∧ nf fr (cs.size + xz l.sz) ∧ l.sz = P.cellsOf e ∧ l.len = es.length ∧ l.o0 + es.length * l.sz ≤ cs.size ∧ FlatD w N ((cs.toList.drop l.o0).take (es.length * l.sz)) es l.sz := by
  obtain ⟨h1, h2, h3, h4⟩ := h
  simp only [hb] at h4
  obtain ⟨cs, fr, k1, k2, k3, k4⟩ := h4
  refine ⟨cs, fr, k1, k2, h1, h2, k3, by simp; omega, h3, fun i j x hx => ?_⟩
  obtain ⟨u, u1, u2⟩ := k4 i j x hx
  obtain ⟨q1, q2⟩ := FlatD.lt h3 hx
  refine ⟨u, ?_, u2⟩
  rw [List.getElem?_take, if_pos (mul_add_lt q1 q2), List.getElem?_drop, Array.getElem?_toList, ← Nat.add_assoc]
  exact u1

theorem row_of_flat {l : Lay} {e b : Nat} {es : List (List D)} {cs : Array Value} {fr : Nat × Nat} {vs : List Value} (hb : l.blk = some b) (hw : w.heap[b]? = some (.cells cs e fr)) (hnf : nf fr (cs.size + xz l.sz)) (hsz : l.sz = P.cellsOf e) (hlen : l.len = es.length)
    (hin : l.o0 + es.length * l.sz ≤ cs.size) (hf : FlatD w N vs es l.sz) (hc : ∀ k, k < vs.length → cs[l.o0 + k]? = vs[k]?) : ObS P w N θ l (.row e es) := by
  refine ⟨hsz, hlen, hf.2.1, ?_⟩
  simp only [hb]
  refine ⟨cs, fr, hw, hnf, hin, fun i j x hx => ?_⟩
  obtain ⟨u, u1, u2⟩ := hf.2.2 i j x hx
  refine ⟨u, ?_, u2⟩
  rw [Nat.add_assoc, hc _ (List.getElem?_eq_some_iff.mp u1).1]
  exact u1

theorem FlatD.one {vs : List Value} {es : List (List D)} {sz : Nat} (h : FlatD w N vs es sz) (hsz : 0 < sz) : ∀ v ∈ vs, v.oneCell' = true := fun v hv => by
  obtain ⟨k, hk, rfl⟩ := List.getElem_of_mem hv
  have hk' := hk
  rw [h.1] at hk'
  have hi : k / sz < es.length := by rw [Nat.div_lt_iff_lt_mul hsz]; exact hk'
  have hj : k % sz < sz := Nat.mod_lt _ hsz
  have hc := h.2.1 es[k / sz] (List.getElem_mem hi)
  obtain ⟨u, u1, u2⟩ := h.2.2 (k / sz) (k % sz) ((es[k / sz])[k % sz]'(by omega)) (by rw [List.getElem?_eq_getElem hi]; simp)
  rw [show k / sz * sz + k % sz = k by rw [Nat.mul_comm]; exact Nat.div_add_mod k sz, List.getElem?_eq_getElem hk] at u1
  cases u1
  exact u2.one

theorem FlatD.take {vs : List Value} {es : List (List D)} {sz n : Nat} (h : FlatD w N vs es sz) : FlatD w N (vs.take (n * sz)) (es.take n) sz := by
  refine ⟨by rw [List.length_take, List.length_take, h.1]; exact (Nat.mul_min_mul_right _ _ _), fun c hc => h.2.1 c (List.mem_of_mem_take hc), fun i j x hx => ?_⟩
  rw [List.getElem?_take] at hx
  split at hx
  · rename_i hi
    obtain ⟨u, u1, u2⟩ := h.2.2 i j x hx
    obtain ⟨_, q2⟩ := FlatD.lt h.2.1 hx
    exact ⟨u, by rw [List.getElem?_take, if_pos (mul_add_lt hi q2)]; exact u1, u2⟩
  · simp at hx
theorem FlatD.drop {vs : List Value} {es : List (List D)} {sz n : Nat} (h : FlatD w N vs es sz) : FlatD w N (vs.drop (n * sz)) (es.drop n) sz := by
  refine ⟨by rw [List.length_drop, List.length_drop, h.1, Nat.sub_mul], fun c hc => h.2.1 c (List.mem_of_mem_drop hc), fun i j x hx => ?_⟩
  rw [List.getElem?_drop] at hx
  obtain ⟨u, u1, u2⟩ := h.2.2 (n + i) j x hx
  exact ⟨u, by rw [List.getElem?_drop, ← u1, Nat.add_mul, Nat.add_assoc], u2⟩

/-- The cells of a block as a call reads them. -/
theorem cells_read {b o : Nat} {cs : Array Value} {e : Nat} {fr : Nat × Nat} {n : Nat} (hw : w.heap[b]? = some (.cells cs e fr)) : ∀ j v, ((cs.toList.drop o).take n)[j]? = some v → w.cell? ⟨b, o + j, none⟩ = some v := fun j v hv => by
  rw [List.getElem?_take] at hv
  split at hv
  · rw [List.getElem?_drop, Array.getElem?_toList] at hv
    simp [World.cell?, hw, hv]
  · cases hv
theorem cells_free {b k : Nat} {cs : Array Value} {e : Nat} {fr : Nat × Nat} (hw : w.heap[b]? = some (.cells cs e fr)) (hnf : nf fr cs.size) (hk : k < cs.size) : w.frozen? ⟨b, k, none⟩ = false := by
  have := hnf k hk
  obtain ⟨lo, hi⟩ := fr
  simp only [World.frozen?, hw, Bool.and_eq_false_iff, decide_eq_false_iff_not]
  simp only at this
  omega

/-- One object at hand: its block. -/
theorem HpS.one {id : Nat} {ob : Ob} {B : Nat} (h : HpS P X O B θ [(id, ob)] w) : ∃ l, θ id = some l ∧ ObS P w (Nn X θ [(id, ob)]) θ l ob ∧ ∀ b, l.blk = some b → b < w.heap.size ∧ ¬ X b ∧ (O b ∨ B ≤ b) := by
  have hl : look [(id, ob)] id = some ob := by simp [look]
  obtain ⟨l, h1, h2⟩ := h.ob id ob hl
  exact ⟨l, h1, h2, fun b hb => h.rng id ob l b hl h1 hb⟩

/-- A world in which draws alone were made. -/
theorem Wr.drew_left {b : Nat} (h : Wr w.drew b w') : Wr w b w' := ⟨h.os, h.tape, h.output, h.size, h.other, h.shp⟩
theorem Wr.trans {b : Nat} {w1 w2 w3 : World} (h : Wr w1 b w2) (k : Wr w2 b w3) : Wr w1 b w3 :=
  ⟨k.os.trans h.os, k.tape.trans h.tape, k.output.trans h.output, k.size.trans h.size, fun c hc => (k.other c hc).trans (h.other c hc), h.shp.trans k.shp⟩
theorem Wr.drew {b : Nat} (h : Wr w b w') : Wr w b w'.drew := ⟨h.os, h.tape, h.output, h.size, h.other, h.shp⟩

/-- What is own turned in its block. -/
theorem HpS.turn {id b B : Nat} {ob ob' : Ob} {l : Lay} (h : HpS P X O B θ [(id, ob)] w) (hθ : θ id = some l) (hb : l.blk = some b) (hw : Wr w b w') (hob : ObS P w' (Nn X θ [(id, ob')]) θ l ob') :
    HpS P X O B θ [(id, ob')] w' ∧ Ext w (Nn X θ [(id, ob)]) w' (Nn X θ [(id, ob')]) := by
  have e : Go.VL.upd [(id, ob)] id ob' = [(id, ob')] := by simp [Go.VL.upd]
  have := h.upd (ob := ob) (ob' := ob') (by simp [look]) hθ hb hw.other hw.shp hw.size (by rw [e]; exact hob)
  rw [e] at this
  exact this
theorem HpS.mk1 {id B : Nat} {ob : Ob} {l : Lay} (h1 : θ id = some l) (h2 : ObS P w (Nn X θ [(id, ob)]) θ l ob) (h3 : ∀ b, l.blk = some b → b < w.heap.size ∧ ¬ X b ∧ (O b ∨ B ≤ b)) : HpS P X O B θ [(id, ob)] w := by
  have key : ∀ {i o}, look [(id, ob)] i = some o → i = id ∧ o = ob := fun {i o} hi => by
    rw [look_cons] at hi
    split at hi
    · rename_i he; cases hi; exact ⟨he.symm, rfl⟩
    · simp [look] at hi
  refine ⟨fun i o hi => ?_, fun i i' o1 o2 l1 l2 b g1 g2 _ _ _ _ => (key g1).1.trans (key g2).1.symm, fun i o l1 b g1 g2 g3 => ?_⟩
  · obtain ⟨rfl, rfl⟩ := key hi
    exact ⟨l, h1, h2⟩
  · obtain ⟨rfl, rfl⟩ := key g1
    rw [h1] at g2; cases g2
    exact h3 b g3
theorem Nn_one {id : Nat} {ob ob' : Ob} : Nn X θ [(id, ob')] = Nn X θ [(id, ob)] := by
  funext c
  exact propext (by simpa [Go.VL.upd] using Nn_upd (X := X) (θ := θ) (h := [(id, ob)]) (id := id) (o := ob') (b := c))
theorem Wr.ext1 {id b : Nat} {ob ob' : Ob} {l : Lay} (h : Wr w b w') (hθ : θ id = some l) (hb : l.blk = some b) : Ext w (Nn X θ [(id, ob)]) w' (Nn X θ [(id, ob')]) := by
  rw [Nn_one (ob := ob) (ob' := ob')]
  exact ⟨by rw [h.size]; exact Nat.le_refl _, fun c hc hn => ⟨hn, h.other c fun e => hn (.inr ⟨id, ob, l, by simp [look], hθ, by rw [e]; exact hb⟩)⟩⟩
/-- Objects that are handed back and not wanted are left. -/
theorem CallWP.drop {f : Nat} {args : List T} {h : Hp} {Q Q' : T → Hp → Prop} (l : List Nat) (hc : CallWP P f args h Q) (hq : ∀ r h, Q r h → Q' r (remL h l)) : CallWP P f args h Q' := fun X O w θ vs h1 h2 h3 h4 h5 hG => by
  refine (hc X O w θ vs h1 h2 h3 h4 h5 hG).mono fun _ _ ⟨v, r, h', θ', k1, k2, k3, k4, k5, k6⟩ => ?_
  exact ⟨v, r, remL h' l, θ', k1, hq r h' k2, k3, k4.ext (Ext.shrink fun b => Nn_remL) (Szp.refl _) (Sub.refl θ'), k5.remL, k6⟩

/-- What an own row that is not empty is in memory. -/
theorem full_open {id e : Nat} {es : List (List D)} {v : Value} {B : Nat} {h : Hp} (hp : HpS P X O B θ h w) (hl : look h id = some (.row e es)) (hne : es ≠ []) (hv : RepT w (Nn X θ h) θ v (.full id)) :
    ∃ l b cap cs fr, θ id = some l ∧ l.blk = some b ∧ v = .slice (some ⟨b, l.o0, none⟩) es.length cap ∧ es.length ≤ cap ∧ l.sz = P.cellsOf e ∧ l.len = es.length ∧ w.heap[b]? = some (.cells cs e fr) ∧ nf fr (cs.size + xz l.sz) ∧
      l.o0 + es.length * l.sz ≤ cs.size ∧ l.o0 + cap * l.sz ≤ cs.size ∧ FlatD w (Nn X θ h) ((cs.toList.drop l.o0).take (es.length * l.sz)) es l.sz ∧ b < w.heap.size ∧ ¬ X b ∧ (O b ∨ B ≤ b) := by
  obtain ⟨l, hθ, hob⟩ := hp.ob id _ hl
  obtain ⟨l', hθ', hv'⟩ := hv.full_inv
  rw [hθ] at hθ'; cases hθ'
  have hlen : l.len = es.length := hob.2.1
  have hnz : es.length ≠ 0 := fun h => hne (List.length_eq_zero_iff.mp h)
  rcases hv' with ⟨b, cap, ad, hv', hb, hlc, ⟨cs0, e0, fr0, hz1, hz2⟩, hab, hsp, ho⟩ | ⟨_, h0⟩
  · obtain ⟨cs, fr, hw, hnf, hsz, _, hin, hf⟩ := row_flat hob hb
    have had : ad = ⟨b, l.o0, none⟩ := by
      obtain ⟨x, y, z⟩ := ad
      simp only at hab hsp
      rw [hab, hsp]
      have := ho (by omega)
      simp only at this
      rw [this]
    subst had
    have hs2 : cs0.size = cs.size := by rw [hw] at hz1; cases hz1; rfl
    rw [hs2] at hz2
    obtain ⟨r1, r2, r3⟩ := hp.rng id _ l b hl hθ hb
    exact ⟨l, b, cap, cs, fr, hθ, hb, by rw [hv', hlen], by omega, hsz, hlen, hw, hnf, hin, hz2, hf, r1, r2, r3⟩
  · omega
end Go.VL
