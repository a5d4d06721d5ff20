/- copy and clear of rows, in cells; what a row's cells are behind them. -/
import Derived.Laws.IdiomCopy
import Derived.Test.YtbokamdcjofkbaaGreatDoorVTy3
import Derived.Test.YtbokamdcjofkbaaGreatDoorVMv
import Derived.Test.YtbokamdcjofkbaaGreatDoorVAu
set_option linter.unusedVariables false
set_option linter.unusedSimpArgs false
namespace Go.VL
open Go Go.RowKit
variable {P : Program}

theorem setCell_wr' {w : World} {b o : Nat} {cs : Array Value} {e : TypeId} {fr : Nat × Nat} (v : Value) (hb : w.heap[b]? = some (.cells cs e fr)) :
    Wr w b (w.setCell ⟨b, o, none⟩ v) ∧ (w.setCell ⟨b, o, none⟩ v).heap[b]? = some (.cells (cs.setIfInBounds o v) e fr) := by
  have hb1 : (w.setCell ⟨b, o, none⟩ v).heap[b]? = some (.cells (cs.setIfInBounds o v) e fr) := by simp [World.setCell, Array.getElem?_modify, hb]
  refine ⟨⟨rfl, rfl, rfl, by simp [World.setCell], fun c hc => by simp [World.setCell, Array.getElem?_modify, Ne.symm hc], fun c cs1 e1 fr1 h => ?_⟩, hb1⟩
  by_cases hc : c = b
  · subst hc
    rw [hb] at h; cases h
    exact ⟨_, _, hb1, by simp⟩
  · exact ⟨cs1, fr1, by simp only [World.setCell, Array.getElem?_modify]; rw [if_neg (Ne.symm hc)]; exact h, rfl⟩

theorem setCells_wr {b e : Nat} {fr : Nat × Nat} : ∀ (vs : List Value) (o : Nat) (w : World) (cs : Array Value), w.heap[b]? = some (.cells cs e fr) → o + vs.length ≤ cs.size →
    Wr w b (w.setCells b o vs) ∧ ∃ cs', (w.setCells b o vs).heap[b]? = some (.cells cs' e fr) ∧ cs'.size = cs.size ∧ ∀ k, cs'[k]? = if o ≤ k ∧ k < o + vs.length then vs[k - o]? else cs[k]? := by
  intro vs
  induction vs with
  | nil => exact fun o w cs hb hin => ⟨⟨rfl, rfl, rfl, rfl, fun _ _ => rfl, Szp.refl w⟩, cs, hb, rfl, fun k => by rw [if_neg (fun hh => by simp at hh; omega)]⟩
  | cons v r ih =>
    intro o w cs hb hin
    simp only [World.setCells]
    obtain ⟨hw0, hb1⟩ := setCell_wr' (o := o) v hb
    obtain ⟨hw, cs', g1, g2, g3⟩ := ih (o + 1) (w.setCell ⟨b, o, none⟩ v) (cs.setIfInBounds o v) hb1 (by simp at hin ⊢; omega)
    refine ⟨⟨hw.os, hw.tape, hw.output, by rw [hw.size, hw0.size], fun c hc => (hw.other c hc).trans (hw0.other c hc), hw0.shp.trans hw.shp⟩, cs', g1, by rw [g2]; simp, fun k => ?_⟩
    rw [g3 k]
    by_cases h0 : k = o
    · subst h0
      rw [if_neg (by omega), if_pos (by simp)]
      simp at hin
      simp [Array.getElem?_setIfInBounds]
      omega
    · by_cases h2 : o + 1 ≤ k ∧ k < o + 1 + r.length
      · rw [if_pos h2, if_pos (by simp; omega)]
        obtain ⟨m, rfl⟩ : ∃ m, k = o + 1 + m := ⟨k - (o + 1), by omega⟩
        rw [show o + 1 + m - (o + 1) = m by omega, show o + 1 + m - o = m + 1 by omega]
        simp
      · rw [if_neg h2, if_neg (by simp; omega)]
        simp [Ne.symm h0]

theorem some_setCells (b : Nat) (vs : List Value) (o : Nat) (w : World) (h : ∀ j, j < vs.length → (w.cell? ⟨b, o + j, none⟩).isSome = true) (k : Nat) (hk : (w.cell? ⟨b, k, none⟩).isSome = true) : ((w.setCells b o vs).cell? ⟨b, k, none⟩).isSome = true := by
  by_cases hin : o ≤ k ∧ k < o + vs.length
  · have := World.cell?_setCells_in b vs o w h (k - o) (by omega)
    rw [show o + (k - o) = k by omega] at this
    rw [this]; rfl
  · rw [World.cell?_setCells_out b vs o w ⟨b, k, none⟩ (fun _ _ => by show k < o ∨ o + vs.length ≤ k; omega)]
    exact hk

theorem run_copyN (w : World) (dT sT ty elem z : Nat) (b o dLen dCap : Nat) (a : Addr) (sLen sCap : Nat) (cs : List Value)
    (hu : P.underlying dT = some (.slice elem)) (hs : (P.info? elem).map (·.size) = some z) (hn : cs.length = Nat.min sLen dLen * z)
    (hsrc : ∀ j v, cs[j]? = some v → w.cell? (a.add j) = some v) (hc : ∀ j, j < cs.length → (w.cell? ⟨b, o + j, none⟩).isSome = true) (hf : ∀ j, j < cs.length → w.frozen? ⟨b, o + j, none⟩ = false) (h1 : ∀ v ∈ cs, v.oneCell' = true) :
    (Builtin.copy_ #[dT, sT] ty #[.slice (some ⟨b, o, none⟩) dLen dCap, .slice (some a) sLen sCap]).run P w = .ok (goInt (Nat.min sLen dLen)) (w.setCells b o cs) := by
  have hl := run_loadCells_list (P := P) w a cs hsrc
  have hst := run_storeCells_cells (P := P) b o cs 0 w (by simpa using hc) (by simpa using hf) h1
  rw [hn] at hl
  cases hq : P.info? elem with
  | none => simp [hq] at hs
  | some i =>
    have hi : i.size = z := by simpa [hq] using hs
    simp only [Builtin.copy_, Builtin.firstCells]
    simp [run_underlying hu, Builtin.lenOf, sizeOf, typeInfo, hq, hi, hl, hst]

theorem run_clearN (w : World) (t e ty : TypeId) (zv : Value) (zs : List Value) (ht : P.underlying t = some (.slice e)) (hv : ∀ w, (zeroValue e).run P w = .ok zv w) (b o n c : Nat) (hn : 0 < n) (hz : (Builtin.zeroCells zv.cells n).toList = zs) (h1 : ∀ v ∈ zs, v.oneCell' = true)
    (hc : ∀ j, j < zs.length → (w.cell? ⟨b, o + j, none⟩).isSome = true) (hf : ∀ j, j < zs.length → w.frozen? ⟨b, o + j, none⟩ = false) :
    (Builtin.clear_ #[t] ty #[.slice (some ⟨b, o, none⟩) n c]).run P w = .ok (.tuple #[]) (w.setCells b o zs) := by
  have hst := run_storeCells_cells (P := P) b o zs 0 w (by simpa using hc) (by simpa using hf) h1
  simp only [Nat.add_zero] at hst
  obtain ⟨m, rfl⟩ : ∃ m, n = m + 1 := ⟨n - 1, by omega⟩
  simp [Builtin.clear_, run_underlying ht, hv, hz, hst]

/-- An operation of a builtin of known run. -/
theorem wp_built2 {o : Oper} {a : Act} {w : World} {K : Act → World → Prop} {Q : Exit → Act → World → Prop} (bt : Builtin) (d s : Operand) (t t' : TypeId)
    (ho : o.op = .call { callee := .builtin bt, args := #[d, s], argTypes := #[t, t'] }) (v u : Value) (hd : a.eval d = v) (hs : a.eval s = u) {v' : Value} {w' : World}
    (hr : ∀ q, (builtin bt #[t, t'] o.type q #[v, u]).run P w = .ok (.value v') w') (h : K (a.put o.dst v') w') : o.wp P a w K Q := by
  unfold Oper.wp execOp
  simp only [ho, resolve, invoke, Sem.run_bind, Sem.run_pure, Result.andThen_ok, List.map_toArray, List.map_cons, List.map_nil, hd, hs, hr]
  exact h
theorem wp_built1 {o : Oper} {a : Act} {w : World} {K : Act → World → Prop} {Q : Exit → Act → World → Prop} (bt : Builtin) (d : Operand) (t : TypeId)
    (ho : o.op = .call { callee := .builtin bt, args := #[d], argTypes := #[t] }) (v : Value) (hd : a.eval d = v) {v' : Value} {w' : World}
    (hr : ∀ q, (builtin bt #[t] o.type q #[v]).run P w = .ok (.value v') w') (h : K (a.put o.dst v') w') : o.wp P a w K Q := by
  unfold Oper.wp execOp
  simp only [ho, resolve, invoke, Sem.run_bind, Sem.run_pure, Result.andThen_ok, List.map_toArray, List.map_cons, List.map_nil, hd, hr]
  exact h
theorem wpList_built2 {ops : Array Oper} {rest : List Oper} {o : Oper} {a : Act} {w : World} {Q : Exit → Act → World → Prop} (bt : Builtin) (hgd : o.guard = none) (d s : Operand) (t t' : TypeId)
    (ho : o.op = .call { callee := .builtin bt, args := #[d, s], argTypes := #[t, t'] }) (v u : Value) (hd : a.eval d = v) (hs : a.eval s = u) {v' : Value} {w' : World}
    (hr : ∀ q, (builtin bt #[t, t'] o.type q #[v, u]).run P w = .ok (.value v') w') (h : wpList P ops Q rest (a.put o.dst v') w') : wpList P ops Q (o :: rest) a w :=
  wpList_plain hgd fun _ hK => wp_built2 bt d s t t' ho v u hd hs hr (hK _ _ h)
theorem wpList_built1 {ops : Array Oper} {rest : List Oper} {o : Oper} {a : Act} {w : World} {Q : Exit → Act → World → Prop} (bt : Builtin) (hgd : o.guard = none) (d : Operand) (t : TypeId)
    (ho : o.op = .call { callee := .builtin bt, args := #[d], argTypes := #[t] }) (v : Value) (hd : a.eval d = v) {v' : Value} {w' : World}
    (hr : ∀ q, (builtin bt #[t] o.type q #[v]).run P w = .ok (.value v') w') (h : wpList P ops Q rest (a.put o.dst v') w') : wpList P ops Q (o :: rest) a w :=
  wpList_plain hgd fun _ hK => wp_built1 bt d t ho v hd hr (hK _ _ h)
theorem step_built2 {ops : Array Oper} {o : Oper} {a : Act} {w : World} {K : Act → World → Prop} {Q : Exit → Act → World → Prop} {E : Prop} (bt : Builtin)
    (hg : o.guard = none) (d x : Operand) (t t' : TypeId) (hop : o.op = Op.call { callee := Callee.builtin bt, args := #[d, x], argTypes := #[t, t'] })
    (v u : Value) (hd : a.eval d = v) (hx : a.eval x = u) {v' : Value} {w' : World} (hr : ∀ q, (builtin bt #[t, t'] o.type q #[v, u]).run P w = .ok (.value v') w') (hK : K (a.put o.dst v') w') :
    if Region.wanted o (yielded ops a.tmps) = true then Oper.wp P o a w K Q else E := by
  have hw : Region.wanted o (yielded ops a.tmps) = true := by simp [Region.wanted, hg]
  rw [if_pos hw]
  exact wp_built2 bt d x t t' hop v u hd hx hr hK
end Go.VL

/- Rows as flat cells: read out of a row that is own, and told of one again. -/
namespace Go.VL
open Go Go.RowKit
variable {P : Program} {X O : Nat → Prop} {w w' : World} {θ θ' : Th} {N N' : Nat → Prop}

theorem row_flat {l : Lay} {e b : Nat} {es : List (List D)} (h : ObS P w N θ l (.row e es)) (hb : l.blk = some b) :
    ∃ cs fr, w.heap[b]? = some (.cells cs e fr) ∧ nf fr (cs.size + xz l.sz) ∧ l.sz = P.cellsOf e ∧ l.len = es.length ∧ l.o0 + es.length * l.sz ≤ cs.size ∧ FlatD w N ((cs.toList.drop l.o0).take (es.length * l.sz)) es l.sz := by
  obtain ⟨h1, h2, h3, h4⟩ := h
  simp only [hb] at h4
  obtain ⟨cs, fr, k1, k2, k3, k4⟩ := h4
  refine ⟨cs, fr, k1, k2, h1, h2, k3, by simp; omega, h3, fun i j x hx => ?_⟩
  obtain ⟨u, u1, u2⟩ := k4 i j x hx
  obtain ⟨q1, q2⟩ := FlatD.lt h3 hx
  refine ⟨u, ?_, u2⟩
  rw [List.getElem?_take, if_pos (mul_add_lt q1 q2), List.getElem?_drop, Array.getElem?_toList, ← Nat.add_assoc]
  exact u1

theorem row_of_flat {l : Lay} {e b : Nat} {es : List (List D)} {cs : Array Value} {fr : Nat × Nat} {vs : List Value} (hb : l.blk = some b) (hw : w.heap[b]? = some (.cells cs e fr)) (hnf : nf fr (cs.size + xz l.sz)) (hsz : l.sz = P.cellsOf e) (hlen : l.len = es.length)
    (hin : l.o0 + es.length * l.sz ≤ cs.size) (hf : FlatD w N vs es l.sz) (hc : ∀ k, k < vs.length → cs[l.o0 + k]? = vs[k]?) : ObS P w N θ l (.row e es) := by
  refine ⟨hsz, hlen, hf.2.1, ?_⟩
  simp only [hb]
  refine ⟨cs, fr, hw, hnf, hin, fun i j x hx => ?_⟩
  obtain ⟨u, u1, u2⟩ := hf.2.2 i j x hx
  refine ⟨u, ?_, u2⟩
  rw [Nat.add_assoc, hc _ (List.getElem?_eq_some_iff.mp u1).1]
  exact u1

theorem FlatD.one {vs : List Value} {es : List (List D)} {sz : Nat} (h : FlatD w N vs es sz) (hsz : 0 < sz) : ∀ v ∈ vs, v.oneCell' = true := fun v hv => by
  obtain ⟨k, hk, rfl⟩ := List.getElem_of_mem hv
  have hk' := hk
  rw [h.1] at hk'
  have hi : k / sz < es.length := by rw [Nat.div_lt_iff_lt_mul hsz]; exact hk'
  have hj : k % sz < sz := Nat.mod_lt _ hsz
  have hc := h.2.1 es[k / sz] (List.getElem_mem hi)
  obtain ⟨u, u1, u2⟩ := h.2.2 (k / sz) (k % sz) ((es[k / sz])[k % sz]'(by omega)) (by rw [List.getElem?_eq_getElem hi]; simp)
  rw [show k / sz * sz + k % sz = k by rw [Nat.mul_comm]; exact Nat.div_add_mod k sz, List.getElem?_eq_getElem hk] at u1
  cases u1
  exact u2.one

theorem FlatD.take {vs : List Value} {es : List (List D)} {sz n : Nat} (h : FlatD w N vs es sz) : FlatD w N (vs.take (n * sz)) (es.take n) sz := by
  refine ⟨by rw [List.length_take, List.length_take, h.1]; exact (Nat.mul_min_mul_right _ _ _), fun c hc => h.2.1 c (List.mem_of_mem_take hc), fun i j x hx => ?_⟩
  rw [List.getElem?_take] at hx
  split at hx
  · rename_i hi
    obtain ⟨u, u1, u2⟩ := h.2.2 i j x hx
    obtain ⟨_, q2⟩ := FlatD.lt h.2.1 hx
    exact ⟨u, by rw [List.getElem?_take, if_pos (mul_add_lt hi q2)]; exact u1, u2⟩
  · simp at hx
theorem FlatD.drop {vs : List Value} {es : List (List D)} {sz n : Nat} (h : FlatD w N vs es sz) : FlatD w N (vs.drop (n * sz)) (es.drop n) sz := by
  refine ⟨by rw [List.length_drop, List.length_drop, h.1, Nat.sub_mul], fun c hc => h.2.1 c (List.mem_of_mem_drop hc), fun i j x hx => ?_⟩
  rw [List.getElem?_drop] at hx
  obtain ⟨u, u1, u2⟩ := h.2.2 (n + i) j x hx
  exact ⟨u, by rw [List.getElem?_drop, ← u1, Nat.add_mul, Nat.add_assoc], u2⟩

/-- The cells of a block as a call reads them. -/
theorem cells_read {b o : Nat} {cs : Array Value} {e : Nat} {fr : Nat × Nat} {n : Nat} (hw : w.heap[b]? = some (.cells cs e fr)) : ∀ j v, ((cs.toList.drop o).take n)[j]? = some v → w.cell? ⟨b, o + j, none⟩ = some v := fun j v hv => by
  rw [List.getElem?_take] at hv
  split at hv
  · rw [List.getElem?_drop, Array.getElem?_toList] at hv
    simp [World.cell?, hw, hv]
  · cases hv
theorem cells_free {b k : Nat} {cs : Array Value} {e : Nat} {fr : Nat × Nat} (hw : w.heap[b]? = some (.cells cs e fr)) (hnf : nf fr cs.size) (hk : k < cs.size) : w.frozen? ⟨b, k, none⟩ = false := by
  have := hnf k hk
  obtain ⟨lo, hi⟩ := fr
  simp only [World.frozen?, hw, Bool.and_eq_false_iff, decide_eq_false_iff_not]
  simp only at this
  omega

/-- One object at hand: its block. -/
theorem HpS.one {id : Nat} {ob : Ob} {B : Nat} (h : HpS P X O B θ [(id, ob)] w) : ∃ l, θ id = some l ∧ ObS P w (Nn X θ [(id, ob)]) θ l ob ∧ ∀ b, l.blk = some b → b < w.heap.size ∧ ¬ X b ∧ (O b ∨ B ≤ b) := by
  have hl : look [(id, ob)] id = some ob := by simp [look]
  obtain ⟨l, h1, h2⟩ := h.ob id ob hl
  exact ⟨l, h1, h2, fun b hb => h.rng id ob l b hl h1 hb⟩

/-- A world in which draws alone were made. -/
theorem Wr.drew_left {b : Nat} (h : Wr w.drew b w') : Wr w b w' := ⟨h.os, h.tape, h.output, h.size, h.other, h.shp⟩
theorem Wr.trans {b : Nat} {w1 w2 w3 : World} (h : Wr w1 b w2) (k : Wr w2 b w3) : Wr w1 b w3 :=
  ⟨k.os.trans h.os, k.tape.trans h.tape, k.output.trans h.output, k.size.trans h.size, fun c hc => (k.other c hc).trans (h.other c hc), h.shp.trans k.shp⟩
theorem Wr.drew {b : Nat} (h : Wr w b w') : Wr w b w'.drew := ⟨h.os, h.tape, h.output, h.size, h.other, h.shp⟩

/-- What is own turned in its block. -/
theorem HpS.turn {id b B : Nat} {ob ob' : Ob} {l : Lay} (h : HpS P X O B θ [(id, ob)] w) (hθ : θ id = some l) (hb : l.blk = some b) (hw : Wr w b w') (hob : ObS P w' (Nn X θ [(id, ob')]) θ l ob') :
    HpS P X O B θ [(id, ob')] w' ∧ Ext w (Nn X θ [(id, ob)]) w' (Nn X θ [(id, ob')]) := by
  have e : Go.VL.upd [(id, ob)] id ob' = [(id, ob')] := by simp [Go.VL.upd]
  have := h.upd (ob := ob) (ob' := ob') (by simp [look]) hθ hb hw.other hw.shp hw.size (by rw [e]; exact hob)
  rw [e] at this
  exact this
theorem HpS.mk1 {id B : Nat} {ob : Ob} {l : Lay} (h1 : θ id = some l) (h2 : ObS P w (Nn X θ [(id, ob)]) θ l ob) (h3 : ∀ b, l.blk = some b → b < w.heap.size ∧ ¬ X b ∧ (O b ∨ B ≤ b)) : HpS P X O B θ [(id, ob)] w := by
  have key : ∀ {i o}, look [(id, ob)] i = some o → i = id ∧ o = ob := fun {i o} hi => by
    rw [look_cons] at hi
    split at hi
    · rename_i he; cases hi; exact ⟨he.symm, rfl⟩
    · simp [look] at hi
  refine ⟨fun i o hi => ?_, fun i i' o1 o2 l1 l2 b g1 g2 _ _ _ _ => (key g1).1.trans (key g2).1.symm, fun i o l1 b g1 g2 g3 => ?_⟩
  · obtain ⟨rfl, rfl⟩ := key hi
    exact ⟨l, h1, h2⟩
  · obtain ⟨rfl, rfl⟩ := key g1
    rw [h1] at g2; cases g2
    exact h3 b g3
theorem Nn_one {id : Nat} {ob ob' : Ob} : Nn X θ [(id, ob')] = Nn X θ [(id, ob)] := by
  funext c
  exact propext (by simpa [Go.VL.upd] using Nn_upd (X := X) (θ := θ) (h := [(id, ob)]) (id := id) (o := ob') (b := c))
theorem Wr.ext1 {id b : Nat} {ob ob' : Ob} {l : Lay} (h : Wr w b w') (hθ : θ id = some l) (hb : l.blk = some b) : Ext w (Nn X θ [(id, ob)]) w' (Nn X θ [(id, ob')]) := by
  rw [Nn_one (ob := ob) (ob' := ob')]
  exact ⟨by rw [h.size]; exact Nat.le_refl _, fun c hc hn => ⟨hn, h.other c fun e => hn (.inr ⟨id, ob, l, by simp [look], hθ, by rw [e]; exact hb⟩)⟩⟩
/-- Objects that are handed back and not wanted are left. -/
theorem CallWP.drop {f : Nat} {args : List T} {h : Hp} {Q Q' : T → Hp → Prop} (l : List Nat) (hc : CallWP P f args h Q) (hq : ∀ r h, Q r h → Q' r (remL h l)) : CallWP P f args h Q' := fun X O w θ vs h1 h2 h3 h4 h5 hG => by
  refine (hc X O w θ vs h1 h2 h3 h4 h5 hG).mono fun _ _ ⟨v, r, h', θ', k1, k2, k3, k4, k5, k6⟩ => ?_
  exact ⟨v, r, remL h' l, θ', k1, hq r h' k2, k3, k4.ext (Ext.shrink fun b => Nn_remL) (Szp.refl _) (Sub.refl θ'), k5.remL, k6⟩

/-- What an own row that is not empty is in memory. -/
theorem full_open {id e : Nat} {es : List (List D)} {v : Value} {B : Nat} {h : Hp} (hp : HpS P X O B θ h w) (hl : look h id = some (.row e es)) (hne : es ≠ []) (hv : RepT w (Nn X θ h) θ v (.full id)) :
    ∃ l b cap cs fr, θ id = some l ∧ l.blk = some b ∧ v = .slice (some ⟨b, l.o0, none⟩) es.length cap ∧ es.length ≤ cap ∧ l.sz = P.cellsOf e ∧ l.len = es.length ∧ w.heap[b]? = some (.cells cs e fr) ∧ nf fr (cs.size + xz l.sz) ∧
      l.o0 + es.length * l.sz ≤ cs.size ∧ l.o0 + cap * l.sz ≤ cs.size ∧ FlatD w (Nn X θ h) ((cs.toList.drop l.o0).take (es.length * l.sz)) es l.sz ∧ b < w.heap.size ∧ ¬ X b ∧ (O b ∨ B ≤ b) := by
  obtain ⟨l, hθ, hob⟩ := hp.ob id _ hl
  obtain ⟨l', hθ', hv'⟩ := hv.full_inv
  rw [hθ] at hθ'; cases hθ'
  have hlen : l.len = es.length := hob.2.1
  have hnz : es.length ≠ 0 := fun h => hne (List.length_eq_zero_iff.mp h)
  rcases hv' with ⟨b, cap, ad, hv', hb, hlc, ⟨cs0, e0, fr0, hz1, hz2⟩, hab, hsp, ho⟩ | ⟨_, h0⟩
  · obtain ⟨cs, fr, hw, hnf, hsz, _, hin, hf⟩ := row_flat hob hb
    have had : ad = ⟨b, l.o0, none⟩ := by
      obtain ⟨x, y, z⟩ := ad
      simp only at hab hsp
      rw [hab, hsp]
      have := ho (by omega)
      simp only at this
      rw [this]
    subst had
    have hs2 : cs0.size = cs.size := by rw [hw] at hz1; cases hz1; rfl
    rw [hs2] at hz2
    obtain ⟨r1, r2, r3⟩ := hp.rng id _ l b hl hθ hb
    exact ⟨l, b, cap, cs, fr, hθ, hb, by rw [hv', hlen], by omega, hsz, hlen, hw, hnf, hin, hz2, hf, r1, r2, r3⟩
  · omega
end Go.VL

/- Code told part by part; and clear of the tail of an own row. -/
namespace Go.VL
open Go Go.RowKit
variable {P : Program} {X O : Nat → Prop} {w0 w w' : World} {θ θ' θ0 : Th} {st : St} {a : Act} {N : Nat → Prop}

theorem WP.seqN {B : Nat} {x y : Code} {Q : Ex → St → Prop} (h : WP P B x (fun e st' => match e with | .normal => WP P B y Q st' | e => Q e st') st) : WP P B (.seq x y) Q st := fun X O w0 θ a w hs => by
  refine wp_seq (wp_mono (h X O w0 θ a w hs) fun e a' w' ⟨e', st', θ', h1, h2, h3, h4⟩ => ?_)
  cases e' with
  | normal =>
    subst h1
    exact wp_mono (h2 X O w0 θ' a' w' h4) fun e a2 w2 ⟨e2, st2, θ2, k1, k2, k3, k4⟩ => ⟨e2, st2, θ2, k1, k2, fun id l hb hl => k3 id l hb (h3 id l hb hl), k4⟩
  | exit id => subst h1; exact ⟨.exit id, st', θ', rfl, h2, h3, h4⟩
  | ret => subst h1; exact ⟨.ret, st', θ', rfl, h2, h3, h4⟩
/-- The first part is told by ev. -/
theorem WP.seqE {tab : Tab} (tk : TabOK P tab) {B : Nat} {x y : Code} {Q : Ex → St → Prop} (h : ev P tab B x (fun e st' => match e with | .normal => WP P B y Q st' | e => Q e st') st) : WP P B (.seq x y) Q st :=
  WP.seqN (ev_sound tk x _ st h)
/-- A function's proof begins: its code as a whole. -/
theorem CallWP.goW {tab : Tab} (tk : TabOK P tab) {f : Nat} {fn : Func} {c : Code} {rs : List ResultVar} {args : List T} {h : Hp} {Q : T → Hp → Prop} (hf : P.funcs[f]? = some fn) (B nt : Nat) (hb : fn.body = some c)
    (hrs : fn.results.toList = rs) (hB : bndH h = B) (hnt : args.length + (fn.ntmps - args.length) = nt) (hev : forceS ⟨enumT 0 args, h, B, nt⟩ fun st => WP P B c (evRet tab rs B Q) st) : CallWP P f args h Q := by
  rw [forceS_eq] at hev
  subst hB; subst hnt
  exact CallWP.introW tk hf hb rfl hrs hev

/-- The first operations of a region. -/
theorem evOps_pre {tab : Tab} (tk : TabOK P tab) {ops : Array Oper} {Q : Exit → Act → World → Prop} {K : St → Prop} (n m : Nat) (hQ : ∀ st θ' a w, Sub θ0 θ' → Sat P X O w0 θ' st a w → K st → wpOps P ops Q (List.range' n m) a w) :
    ∀ (l : List Oper) (i : Nat) (st : St) (θ : Th) (a : Act) (w : World), (∀ j, j < l.length → ops[i + j]? = l[j]?) → i + l.length = n → Sub θ0 θ → Sat P X O w0 θ st a w → evOps P tab ops.toList K l st → wpOps P ops Q (List.range' i (l.length + m)) a w
  | [], i, st, θ, a, w, _, hn, hsub, hs, h => by
    have : i = n := by simpa using hn
    subst this
    simpa using hQ st θ a w hsub hs h
  | o :: r, i, st, θ, a, w, hd, hn, hsub, hs, h => by
    have hi : ops[i]? = some o := by simpa using hd 0 (by simp)
    have hd' : ∀ j, j < r.length → ops[i + 1 + j]? = r[j]? := fun j hj => by
      have := hd (j + 1) (by simp; omega)
      rw [show i + 1 + j = i + (j + 1) by omega, this]; simp
    have hn' : i + 1 + r.length = n := by simp at hn; omega
    rw [show (o :: r).length + m = (r.length + m) + 1 by simp; omega]
    simp only [List.range'_succ, wpOps, hi]
    simp only [evOps] at h
    rcases grd_sound hs h with ⟨h1, h2⟩ | ⟨h1, h2⟩
    · rw [if_pos h1]
      refine .inl (evOp_sound tk hs (fun a' w' ⟨st', θ', k1, k2, k3⟩ => ?_) h2)
      exact evOps_pre tk n m hQ r (i + 1) st' θ' a' w' hd' hn' (hsub.trans k1) k2 k3
    · rw [if_neg (by rw [h1]; simp)]
      obtain ⟨st', θ', k1, k2, k3⟩ := putK_post h2 hs RepT.skip
      exact evOps_pre tk n m hQ r (i + 1) st' θ' _ w hd' hn' (hsub.trans k1) k2 k3

theorem FlatD.rep {zl : List Value} {zd : List D} {sz : Nat} (h : FlatD w N zl [zd] sz) : ∀ n, FlatD w N (List.replicate n zl).flatten (List.replicate n zd) sz
  | 0 => by simpa using FlatD.nil
  | n + 1 => by
    rw [List.replicate_succ, List.replicate_succ, List.flatten_cons]
    exact FlatD.append (es := [zd]) h (FlatD.rep h n)

/-- The tail of an own row is cleared. -/
theorem clear_sat {e t : TypeId} {zv : Value} {zl : List Value} {zd : List D} (ht : P.underlying t = some (.slice e)) (hzv : ∀ w, (zeroValue e).run P w = .ok zv w) (hzl : ∀ n, (Builtin.zeroCells zv.cells n).toList = (List.replicate n zl).flatten)
    (hzd : ∀ w N, FlatD w N zl [zd] (P.cellsOf e)) (hpos : 0 < P.cellsOf e) (hs : Sat P X O w0 θ st a w) {v : Value} {oid i n : Nat} {es : List (List D)} (hv : RepT w (Nn X θ st.h) θ v (.own oid i n)) (hl : look st.h oid = some (.row e es)) (hin : i + n = es.length) (hn : 0 < n) (ty : TypeId) :
    ∃ w', (Builtin.clear_ #[t] ty #[v]).run P w = .ok (.tuple #[]) w' ∧ Sat P X O w0 θ ⟨st.t, upd st.h oid (.row e (es.take i ++ List.replicate n zd)), st.n, st.nt⟩ a w' := by
  obtain ⟨l, hθ, hv⟩ := hv.own_inv
  obtain ⟨l', hθ', hob⟩ := hs.hp.ob oid _ hl
  rw [hθ] at hθ'; cases hθ'
  rcases hv with ⟨b, cap, ad, rfl, hb, hlc, hil, ⟨cs0, e0, fr0, hz1, hz2⟩, hab, hsp, ho⟩ | ⟨_, h0⟩
  rotate_left
  · omega
  obtain ⟨cs, fr, hw, hnf, hsz, hlen, hinn, hf⟩ := row_flat hob hb
  rw [hsz] at hf hinn hz2 ho
  have had : ad = ⟨b, l.o0 + i * P.cellsOf e, none⟩ := by
    obtain ⟨x, y, z⟩ := ad
    simp only at hab hsp
    rw [hab, hsp]
    have := ho (by omega)
    simp only at this
    rw [this]
  subst had
  obtain ⟨zs, hzs⟩ : ∃ zs, zs = (List.replicate n zl).flatten := ⟨_, rfl⟩
  have hzf : ∀ w N, FlatD w N zs (List.replicate n zd) (P.cellsOf e) := fun w N => by rw [hzs]; exact FlatD.rep (hzd w N) n
  have hzn : zs.length = n * P.cellsOf e := by have := (hzf w (fun _ => False)).1; simpa using this
  have hmul : i * P.cellsOf e + n * P.cellsOf e = es.length * P.cellsOf e := by rw [← Nat.add_mul, hin]
  have hone : ∀ u ∈ zs, u.oneCell' = true := (hzf w (fun _ => False)).one hpos
  have hin2 : l.o0 + i * P.cellsOf e + zs.length ≤ cs.size := by omega
  have hrun := run_clearN (P := P) w t e ty zv zs ht hzv b (l.o0 + i * P.cellsOf e) n cap hn (by rw [hzl, hzs]) hone
    (fun j hj => by simp [World.cell?, hw]; omega) (fun j hj => cells_free hw hnf.w (by omega))
  refine ⟨_, hrun, ?_⟩
  obtain ⟨g1, cs1, g2, g3, g4⟩ := setCells_wr zs (l.o0 + i * P.cellsOf e) w cs hw hin2
  refine hs.wrote hl hθ hb g1 ?_
  have hE : Ext w (Nn X θ st.h) (w.setCells b (l.o0 + i * P.cellsOf e) zs) (Nn X θ (upd st.h oid (.row e (es.take i ++ List.replicate n zd)))) :=
    ⟨by rw [g1.size]; exact Nat.le_refl _, fun c hc hN => ⟨fun hN' => hN (Nn_upd.mp hN'), g1.other c (fun e => hN (.inr ⟨oid, _, l, hl, hθ, e ▸ hb⟩))⟩⟩
  obtain ⟨vs, hvs⟩ : ∃ vs, vs = (cs.toList.drop l.o0).take (es.length * P.cellsOf e) := ⟨_, rfl⟩
  rw [← hvs] at hf
  have hfl := hf.1
  have hvc : ∀ k, k < es.length * P.cellsOf e → cs[l.o0 + k]? = vs[k]? := fun k hk => by
    rw [hvs, List.getElem?_take, if_pos hk, List.getElem?_drop, Array.getElem?_toList]
  have hf' := ((hf.take (n := i)).ext hE).append (hzf (w.setCells b (l.o0 + i * P.cellsOf e) zs) (Nn X θ (upd st.h oid (.row e (es.take i ++ List.replicate n zd)))))
  have hlen' : (es.take i ++ List.replicate n zd).length = es.length := by simp; omega
  have e1 : (vs.take (i * P.cellsOf e)).length = i * P.cellsOf e := by rw [List.length_take, hfl]; omega
  refine row_of_flat hb g2 (by rw [g3]; exact hnf) hsz (by rw [hlen', hlen]) (by rw [hlen', hsz, g3]; exact hinn) (by rw [hsz]; exact hf') (fun k hk => ?_)
  rw [hf'.1, hlen'] at hk
  rw [g4]
  by_cases c1 : k < i * P.cellsOf e
  · rw [if_neg (by omega), hvc k hk, List.getElem?_append_left (by omega), List.getElem?_take, if_pos c1]
  · rw [if_pos (by omega), List.getElem?_append_right (by omega), e1]
    congr 1
    omega

theorem WP.clear {tab : Tab} (tk : TabOK P tab) {B id : Nat} {ops : Array Oper} (l : List Oper) (oc : Oper) (hops : ops.toList = l ++ [oc]) (hg : oc.guard = none) (hdst : oc.dst = none) {x : Operand} {t : TypeId} (hop : oc.op = .call { callee := .builtin .clear, args := #[x], argTypes := #[t] })
    {e : TypeId} {zv : Value} (zl : List Value) (zd : List D) (ht : P.underlying t = some (.slice e)) (hzv : ∀ w, (zeroValue e).run P w = .ok zv w) (hzl : ∀ n, (Builtin.zeroCells zv.cells n).toList = (List.replicate n zl).flatten)
    (hzd : ∀ w N, FlatD w N zl [zd] (P.cellsOf e)) (hpos : 0 < P.cellsOf e) {Q : Ex → St → Prop}
    (h : evOps P tab ops.toList (fun st' => ∃ oid i n es, st'.val x = .own oid i n ∧ look st'.h oid = some (.row e es) ∧ i + n = es.length ∧ 0 < n ∧ Q .normal ⟨st'.t, upd st'.h oid (.row e (es.take i ++ List.replicate n zd)), st'.n, st'.nt⟩) l st) :
    WP P B (.region id ops false) Q st := fun X O w0 θ a w hs => by
  refine wp_region ?_
  have hlast : ops[l.length]? = some oc := by rw [← Array.getElem?_toList, hops]; simp
  have hsz : ops.size = l.length + 1 := by rw [← Array.length_toList, hops]; simp
  have := evOps_pre tk (θ0 := θ) (ops := ops) (Q := fun e a' w' => ∃ e' st' θ', e = Ex.to e' ∧ Q e' st' ∧ (∀ id l, id < B → θ id = some l → θ' id = some l) ∧ Sat P X O w0 θ' st' a' w') l.length 1
    (fun st' θ' a' w' k1 k2 ⟨oid, i, n, es, q1, q2, q3, q4, q5⟩ => by
      show wpOps P ops _ [l.length] a' w'
      simp only [wpOps, hlast]
      have hw : Region.wanted oc (yielded ops a'.tmps) = true := by simp [Region.wanted, hg]
      rw [if_pos hw]
      obtain ⟨w2, r1, r2⟩ := clear_sat ht hzv hzl hzd hpos k2 (v := a'.eval x) (by rw [← q1]; exact k2.val x) q2 q3 q4 oc.type
      refine .inl (wp_built1 .clear x t hop _ rfl (v' := .tuple #[]) (w' := w2) (fun q => by simp [builtin, r1]) ?_)
      refine ⟨.normal, _, θ', rfl, q5, fun id l _ hl => k1 id l hl, ?_⟩
      rw [hdst]
      exact r2) l 0 st θ a w (fun j hj => by rw [Nat.zero_add, ← Array.getElem?_toList, hops, List.getElem?_append_left hj]) (Nat.zero_add _) (Sub.refl θ) hs h
  rw [List.range_eq_range', hsz]
  exact this
theorem WP.clear3 {tab : Tab} (tk : TabOK P tab) {B id : Nat} {o1 o2 o3 oc : Oper} (hg : oc.guard = none) (hdst : oc.dst = none) {x : Operand} {t : TypeId} (hop : oc.op = .call { callee := .builtin .clear, args := #[x], argTypes := #[t] })
    {e : TypeId} {zv : Value} (zl : List Value) (zd : List D) (ht : P.underlying t = some (.slice e)) (hzv : ∀ w, (zeroValue e).run P w = .ok zv w) (hzl : ∀ n, (Builtin.zeroCells zv.cells n).toList = (List.replicate n zl).flatten)
    (hzd : ∀ w N, FlatD w N zl [zd] (P.cellsOf e)) (hpos : 0 < P.cellsOf e) {Q : Ex → St → Prop}
    (h : evOps P tab [o1, o2, o3, oc] (fun st' => ∃ oid i n es, st'.val x = .own oid i n ∧ look st'.h oid = some (.row e es) ∧ i + n = es.length ∧ 0 < n ∧ Q .normal ⟨st'.t, upd st'.h oid (.row e (es.take i ++ List.replicate n zd)), st'.n, st'.nt⟩) [o1, o2, o3] st) :
    WP P B (.region id #[o1, o2, o3, oc] false) Q st := WP.clear tk [o1, o2, o3] oc rfl hg hdst hop zl zd ht hzv hzl hzd hpos h
end Go.VL
