/- New objects. -/
import Derived.Test.YtbokamdcjofkbaaDoorVJ
import Derived.Laws.Append
import Derived.Laws.BytesString
set_option linter.unusedVariables false
set_option linter.unusedSimpArgs false
namespace Go.VL
open Go Go.RowKit

variable {P : Program} {X O : Nat → Prop} {w0 w w' : World} {θ θ' : Th} {st : St} {a : Act} {N : Nat → Prop}

theorem Sat.xlt (hs : Sat P X O w0 θ st a w) : ∀ b, X b → b < w.heap.size := fun b hb => Nat.lt_of_lt_of_le (hs.xb b hb) hs.kp.size

/-- A new object, in a new block or in none. -/
theorem Sat.new {ob : Ob} {l : Lay} {o : Obj} (hs : Sat P X O w0 θ st a w) (hb : l.blk = some w.heap.size ∨ l.blk = none)
    (hob : ObS P (w.alloc o) (Nn X (θ.set st.n l) ((st.n, ob) :: st.h)) (θ.set st.n l) l ob) :
    Sat P X O w0 (θ.set st.n l) ⟨st.t, (st.n, ob) :: st.h, st.n + 1, st.nt⟩ a (w.alloc o) := by
  have hn := hs.fresh st.n (Nat.le_refl _)
  refine hs.move (Ext.alloc hb) (Szp.alloc w o) (Th.set_sub hn) (hs.hp.alloc hn hs.xlt hs.kp.size hb hob) (fun id hid => ?_) (hs.kp.trans (Kp.alloc w o))
  have : id ≠ st.n := by omega
  simp only [Th.set, this, if_false]
  exact hs.fresh id (by omega)

theorem newK_post {dst : Option Nat} {ob : Ob} {f : Nat → T} {K : St → Prop} {v : Value} {l : Lay} {o : Obj} (h : newK dst ob f K st) (hs : Sat P X O w0 θ st a w) (hb : l.blk = some w.heap.size ∨ l.blk = none)
    (hob : ObS P (w.alloc o) (Nn X (θ.set st.n l) ((st.n, ob) :: st.h)) (θ.set st.n l) l ob)
    (hv : RepT (w.alloc o) (Nn X (θ.set st.n l) ((st.n, ob) :: st.h)) (θ.set st.n l) v (f st.n)) : Post P X O w0 θ K (a.put dst v) (w.alloc o) := by
  have hs1 := hs.new hb hob
  rw [newK_eq] at h
  exact (putK_post h hs1 hv).weaken (Th.set_sub (hs.fresh st.n (Nat.le_refl _)))

theorem Th.set_self (θ : Th) (n : Nat) (l : Lay) : (θ.set n l) n = some l := by simp [Th.set]

theorem nf0 (n : Nat) : nf (0, 0) n := fun o _ h => by simp at h

/-- A new variable. -/
theorem var_new {dst : Option Nat} {cs : List T} {K : St → Prop} {e : Nat} {v : Value} (hs : Sat P X O w0 θ st a w) (hl : v.cells.size = cs.length) (hc : ∀ (j : Nat) (x : T), cs[j]? = some x → ∃ u, v.cells[j]? = some u ∧ RepT w (Nn X θ st.h) θ u x)
    (h : newK dst (.var e cs) (fun n => .ref n 0 0) K st) : ∃ u w', (do pure (Value.pointer (some (← newVar e v))) : Sem Value).run P w = .ok u w' ∧ Post P X O w0 θ K (a.put dst u) w' := by
  refine ⟨.pointer (some ⟨w.heap.size, 0, none⟩), w.alloc (.cells v.cells e), by simp only [newVar, newRow, Sem.run_bind, run_newObj, Result.andThen_ok, Sem.run_pure]; rfl, ?_⟩
  have hn := hs.fresh st.n (Nat.le_refl _)
  refine newK_post (l := ⟨some w.heap.size, 0, 0, 0⟩) h hs (.inl rfl) ?_ ?_
  · refine ⟨rfl, rfl, _, v.cells, (0, 0), rfl, by rw [alloc_heap, if_pos rfl], nf0 _, hl, fun j x hx => ?_⟩
    obtain ⟨u, u1, u2⟩ := hc j x hx
    exact ⟨u, u1, u2.ext (Ext.alloc (.inl rfl)) (Szp.alloc w _) (Th.set_sub hn)⟩
  · have := RepT.ref (w := w.alloc (.cells v.cells e)) (N := Nn X (θ.set st.n ⟨some w.heap.size, 0, 0, 0⟩) ((st.n, .var e cs) :: st.h)) (θ := θ.set st.n ⟨some w.heap.size, 0, 0, 0⟩) st.n 0 0 ⟨some w.heap.size, 0, 0, 0⟩ (Th.set_self _ _ _) w.heap.size rfl
    simpa using this

theorem zq_rep {v : Value} {x : T} (h : zq v x = true) : RepT w N θ v x := by
  unfold zq at h
  split at h
  · exact .bool _
  · simp only [Bool.and_eq_true, decide_eq_true_eq] at h
    obtain ⟨h1, rfl⟩ := h
    rw [kq_iff.mp h1]
    exact .int _ _
  · rename_i s
    have hs : s.size = 0 := by simpa using h
    have : s = ⟨([] : List UInt8).toArray⟩ := by
      apply ByteArray.ext
      exact Array.eq_empty_of_size_eq_zero hs
    rw [this]
    exact .str []
  · exact .nils
  · exact .nilp
  · exact .nilf
  · exact .nili
  · exact .dead _
  · cases h
theorem zqL_rep : ∀ {vs : List Value} {xs : List T}, zqL vs xs = true → vs.length = xs.length ∧ ∀ (j : Nat) (x : T), xs[j]? = some x → ∃ u, vs[j]? = some u ∧ zq u x = true
  | [], [], _ => ⟨rfl, fun j x h => by simp at h⟩
  | [], _ :: _, h => by simp [zqL] at h
  | _ :: _, [], h => by simp [zqL] at h
  | v :: vs, x :: xs, h => by
    simp only [zqL, Bool.and_eq_true] at h
    obtain ⟨h1, h2⟩ := zqL_rep h.2
    refine ⟨by simp [h1], fun j y hy => ?_⟩
    cases j with
    | zero => simp at hy; subst hy; exact ⟨v, rfl, h.1⟩
    | succ j => simpa using h2 j y (by simpa using hy)

/-- A type's zero value. -/
theorem zero_of {tab : Tab} (tk : TabOK P tab) {t : Nat} {i : TyI} {z : List T} (ht : tab.ty t = some i) (hz : i.zero = some z) :
    ∃ info v, P.info? t = some info ∧ info.zero = some v ∧ v.cells.size = z.length ∧ v.cells.size = i.size ∧ info.size = i.size ∧ info.bytes = i.bytes ∧ (i.k.agg = true → ∃ cs, v = .agg cs) ∧ ∀ (j : Nat) (x : T), z[j]? = some x → ∃ u, v.cells[j]? = some u ∧ zq u x = true := by
  obtain ⟨info, d, i1, i2, i3, i4, i5, i6⟩ := tk.ty t i ht
  obtain ⟨v, v1, v2, v3, v4⟩ := i6 z hz
  obtain ⟨q1, q2⟩ := zqL_rep v3
  exact ⟨info, v, i1, v1, by simpa using q1, v2, i4, i5, v4, fun j x hx => by simpa using q2 j x hx⟩

/-- An empty row of no block. -/
theorem Sat.emptyRow (hs : Sat P X O w0 θ st a w) (e : Nat) : Sat P X O w0 (θ.set st.n ⟨none, 0, P.cellsOf e, 0⟩) ⟨st.t, (st.n, .row e []) :: st.h, st.n + 1, st.nt⟩ a w := by
  have hn := hs.fresh st.n (Nat.le_refl _)
  have hsub := Th.set_sub (l := ⟨none, 0, P.cellsOf e, 0⟩) hn
  have hN : ∀ b, Nn X (θ.set st.n ⟨none, 0, P.cellsOf e, 0⟩) ((st.n, .row e []) :: st.h) b → Nn X θ st.h b := fun b hb => by
    rcases Nn_cons hb with h | h
    · exact h
    · cases h
  have hE : Ext w (Nn X θ st.h) w (Nn X (θ.set st.n ⟨none, 0, P.cellsOf e, 0⟩) ((st.n, .row e []) :: st.h)) := Ext.shrink hN
  have hset : ∀ {id l'}, id ≠ st.n → (θ.set st.n ⟨none, 0, P.cellsOf e, 0⟩) id = some l' → θ id = some l' := fun {id l'} hi h2 => by simpa [Th.set, hi] using h2
  refine ⟨fun j => (hs.tm j).ext hE (Szp.refl w) hsub, ⟨fun id ob hl => ?_, fun id id' o1 o2 l1 l2 b h1 h2 h3 h4 h5 h6 => ?_, fun id ob l b h1 h2 h3 => ?_⟩, fun id hid => ?_, hs.dfr, hs.nts, hs.kp, hs.xb, hs.gl⟩
  · rw [look_cons] at hl
    by_cases he : st.n = id
    · subst he
      rw [if_pos rfl] at hl
      cases hl
      exact ⟨_, Th.set_self _ _ _, rfl, rfl, by simp, rfl⟩
    · rw [if_neg he] at hl
      obtain ⟨l, k1, k2⟩ := hs.hp.ob id ob hl
      exact ⟨l, hsub id l k1, k2.ext hE (Szp.refl w) hsub (fun _ _ => rfl)⟩
  · rw [look_cons] at h1 h2
    by_cases e1 : st.n = id
    · subst e1; rw [Th.set_self] at h3; cases h3; cases h5
    · by_cases e2 : st.n = id'
      · subst e2; rw [Th.set_self] at h4; cases h4; cases h6
      · rw [if_neg e1] at h1
        rw [if_neg e2] at h2
        exact hs.hp.inj id id' o1 o2 l1 l2 b h1 h2 (hset (fun e => e1 e.symm) h3) (hset (fun e => e2 e.symm) h4) h5 h6
  · rw [look_cons] at h1
    by_cases e1 : st.n = id
    · subst e1; rw [Th.set_self] at h2; cases h2; cases h3
    · rw [if_neg e1] at h1
      exact hs.hp.rng id ob l b h1 (hset (fun e => e1 e.symm) h2) h3
  · simp only at hid
    have : id ≠ st.n := by omega
    simp only [Th.set, this, if_false]
    exact hs.fresh id (by omega)

theorem newB_sound {u e : Nat} {dst : Option Nat} {K : St → Prop} {v : Value} (hs : Sat P X O w0 θ st a w) (hl : v.cells = #[.pointer none, .slice none 0 0]) (h : newB e u dst K st) :
    ∃ u w', (do pure (Value.pointer (some (← newVar e v))) : Sem Value).run P w = .ok u w' ∧ Post P X O w0 θ K (a.put dst u) w' := by
  refine ⟨.pointer (some ⟨w.heap.size, 0, none⟩), w.alloc (.cells v.cells e), by simp only [newVar, newRow, Sem.run_bind, run_newObj, Result.andThen_ok, Sem.run_pure]; rfl, ?_⟩
  obtain ⟨t, hp, n, nt⟩ := st
  have hs1 := hs.emptyRow u
  have hn := hs1.fresh (n + 1) (Nat.le_refl _)
  have hn0 := hs.fresh n (Nat.le_refl _)
  have h2 : newK dst (.var e [.bs (n + 1), .full n]) (fun m => .ref m 0 0) K ⟨t, (n, .row u []) :: hp, n + 1, nt⟩ := h
  refine Post.weaken (newK_post (l := ⟨some w.heap.size, 0, 0, 0⟩) h2 hs1 (.inl rfl) ?_ ?_) (Th.set_sub hn0)
  · refine ⟨rfl, rfl, _, v.cells, (0, 0), rfl, by rw [alloc_heap, if_pos rfl], nf0 _, by rw [hl]; rfl, fun j x hx => ?_⟩
    match j, hx with
    | 0, hx =>
      simp at hx; subst hx
      exact ⟨.pointer none, by rw [hl]; rfl, .bs _ _ ⟨some w.heap.size, 0, 0, 0⟩ (Th.set_self _ _ _) w.heap.size rfl (.inl rfl)⟩
    | 1, hx =>
      simp at hx; subst hx
      refine ⟨.slice none 0 0, by rw [hl]; rfl, .full0 n ⟨none, 0, P.cellsOf u, 0⟩ ?_ rfl⟩
      have : n ≠ n + 1 := by omega
      simp [Th.set, this]
    | j + 2, hx => simp at hx
  · have := RepT.ref (w := w.alloc (.cells v.cells e)) (N := Nn X ((θ.set n ⟨none, 0, P.cellsOf u, 0⟩).set (n + 1) ⟨some w.heap.size, 0, 0, 0⟩) ((n + 1, .var e [.bs (n + 1), .full n]) :: (n, .row u []) :: hp)) (θ := (θ.set n ⟨none, 0, P.cellsOf u, 0⟩).set (n + 1) ⟨some w.heap.size, 0, 0, 0⟩) (n + 1) 0 0 ⟨some w.heap.size, 0, 0, 0⟩ (Th.set_self _ _ _) w.heap.size rfl
    simpa using this

theorem evAlloc_sound {tab : Tab} (tk : TabOK P tab) (hs : Sat P X O w0 θ st a w) {e : Nat} {dst : Option Nat} {K : St → Prop} (h : evAlloc tab e dst st K) :
    ∃ u w', (Instr.alloc e true (.tuple #[])).run P w = .ok u w' ∧ Post P X O w0 θ K (a.put dst u) w' := by
  unfold evAlloc at h
  cases hbl : isBld tab e with
  | some q =>
    simp only [hbl] at h
    cases ht : tab.ty e with
    | none => simp [ht] at h
    | some i =>
      simp only [ht] at h
      split at h
      case h_2 => exact h.elim
      rename_i hz
      obtain ⟨info, v, i1, i2, i3, _, _, _, _, i4⟩ := zero_of tk ht hz
      have hcells : v.cells = #[.pointer none, .slice none 0 0] := by
        obtain ⟨u0, h0, z0⟩ := i4 0 .nilp rfl
        obtain ⟨u1, h1, z1⟩ := i4 1 .nils rfl
        have hsz : v.cells.size = 2 := by simpa using i3
        have e0 : u0 = .pointer none := by cases u0 <;> simp [zq] at z0; rename_i p; cases p <;> simp_all [zq]
        have e1 : u1 = .slice none 0 0 := by
          unfold zq at z1
          split at z1 <;> simp_all
        subst e0; subst e1
        apply Array.ext
        · simpa using hsz
        · intro k hk1 hk2
          rw [hsz] at hk1
          match k, hk1 with
          | 0, _ => exact (Array.getElem?_eq_some_iff.mp h0).2
          | 1, _ => exact (Array.getElem?_eq_some_iff.mp h1).2
      obtain ⟨u, w', r1, r2⟩ := newB_sound (v := v) hs hcells h
      refine ⟨u, w', ?_, r2⟩
      simp only [Instr.alloc, Sem.run_bind, run_zeroValue i1 i2, Result.andThen_ok]
      exact r1
  | none =>
  simp only [hbl] at h
  cases ht : tab.ty e with
  | none => simp [ht] at h
  | some i =>
    simp only [ht] at h
    cases hz : i.zero with
    | none => simp [hz] at h
    | some z =>
      simp only [hz] at h
      obtain ⟨info, v, i1, i2, i3, _, _, _, _, i4⟩ := zero_of tk ht hz
      obtain ⟨u, w', r1, r2⟩ := var_new (v := v) hs i3 (fun j x hx => by obtain ⟨u, u1, u2⟩ := i4 j x hx; exact ⟨u, u1, zq_rep u2⟩) h
      refine ⟨u, w', ?_, r2⟩
      simp only [Instr.alloc, Sem.run_bind, run_zeroValue i1 i2, Result.andThen_ok]
      exact r1

theorem evBox_sound (hs : Sat P X O w0 θ st a w) {e : Nat} {v : Value} {x : T} {dst : Option Nat} {K : St → Prop} (hv : RepT w (Nn X θ st.h) θ v x) (h : evBox e x dst st K) :
    ∃ u w', (Instr.box e v).run P w = .ok u w' ∧ Post P X O w0 θ K (a.put dst u) w' := by
  unfold evBox at h
  cases hc : x.cells with
  | none => simp [hc] at h
  | some cs =>
    simp only [hc] at h
    obtain ⟨c1, c2⟩ := cells_len hv hc
    exact var_new (v := v) hs c1 c2 h

theorem Sat.drew (hs : Sat P X O w0 θ st a w) (n : Nat) : Sat P X O w0 θ st a { w with drawn := n } := by
  have hE : ∀ N : Nat → Prop, Ext w N { w with drawn := n } N := fun N => ⟨Nat.le_refl _, fun b _ h => ⟨h, rfl⟩⟩
  have hZ : Szp w { w with drawn := n } := fun b cs e fr h => ⟨cs, fr, h, rfl⟩
  refine ⟨fun i => (hs.tm i).ext (hE _) hZ (Sub.refl θ), ⟨fun id ob h => ?_, hs.hp.inj, hs.hp.rng⟩, hs.fresh, hs.dfr, hs.nts, ⟨hs.kp.os, hs.kp.tape, hs.kp.output, hs.kp.size, hs.kp.block, hs.kp.shp⟩, hs.xb, hs.gl⟩
  obtain ⟨l, k1, k2⟩ := hs.hp.ob id ob h
  exact ⟨l, k1, k2.ext (hE _) hZ (Sub.refl θ) (fun _ _ => rfl)⟩

theorem evLen_sound {tab : Tab} (tk : TabOK P tab) (hp : HpS P X O w0.heap.size θ st.h w) {t ty : Nat} {ts : Array TypeId} {v : Value} {vs : Array Value} {x : T} {K : T → Prop} (hts : ts[0]? = some t) (hvs : vs[0]? = some v)
    (hv : RepT w (Nn X θ st.h) θ v x) (h : evLen tab t x st K) : ∃ u r, (Builtin.len_ ts ty vs).run P w = .ok u w ∧ RepT w (Nn X θ st.h) θ u r ∧ K r := by
  unfold evLen at h
  cases ht : tab.ty t with
  | none => simp [ht] at h
  | some i =>
    simp only [ht] at h
    split at h
    · rename_i n e hk
      have hu := tab.array_of tk ht hk
      exact ⟨_, _, by simp only [Builtin.len_, hts, hvs, Sem.run_bind, run_underlying' hu, Result.andThen_ok, Sem.run_pure, goInt], .int _ _, h⟩
    · rename_i A hk
      have hu := tab.ptr_of tk ht hk
      cases hj : tab.ty A with
      | none => simp [hj] at h
      | some j =>
        simp only [hj] at h
        cases hkj : j.k <;> simp only [hkj] at h <;> try exact h.elim
        have hu2 := tab.array_of tk hj hkj
        exact ⟨_, _, by simp only [Builtin.len_, hts, hvs, Sem.run_bind, run_underlying' hu, run_underlying' hu2, Result.andThen_ok, Sem.run_pure, goInt], .int _ _, h⟩
    · rename_i s hk
      have hu := tab.str_of tk ht hk
      obtain rfl := hv.str_inv
      have hsz : (⟨s.toArray⟩ : ByteArray).size = s.length := by simp [ByteArray.size]
      exact ⟨_, _, by simp only [Builtin.len_, hts, hvs, Sem.run_bind, run_underlying' hu, Result.andThen_ok, Sem.run_pure, goInt, hsz], .int _ _, h⟩
    · rename_i e es hk
      have hu := tab.slice_of tk ht hk
      cases hv with
      | d hv => cases hv <;> exact ⟨_, _, by simp only [Builtin.len_, hts, hvs, Sem.run_bind, run_underlying' hu, Result.andThen_ok, Sem.run_pure, goInt] <;> rfl, .int _ _, h⟩
    · rename_i e hk
      have hu := tab.slice_of tk ht hk
      cases hv
      exact ⟨_, _, by simp only [Builtin.len_, hts, hvs, Sem.run_bind, run_underlying' hu, Result.andThen_ok, Sem.run_pure, goInt]; rfl, .int _ _, h⟩
    · rename_i e id hk
      have hu := tab.slice_of tk ht hk
      cases hlk : look st.h id with
      | none => simp [hlk] at h
      | some ob =>
        cases ob <;> simp only [hlk] at h <;> try exact h.elim
        rename_i e' es
        obtain ⟨L, k1, k2, k3, k4, k5⟩ := hp.ob id _ hlk
        cases hv with
        | full _ L' hθ b cap hb hlc hz ad hab hsp ho =>
          rw [hθ] at k1; cases k1
          exact ⟨_, _, by simp only [Builtin.len_, hts, hvs, Sem.run_bind, run_underlying' hu, Result.andThen_ok, Sem.run_pure, goInt, k3], .int _ _, h⟩
        | full0 _ L' hθ h0 =>
          rw [hθ] at k1; cases k1
          rw [← k3, h0] at h
          exact ⟨_, _, by simp only [Builtin.len_, hts, hvs, Sem.run_bind, run_underlying' hu, Result.andThen_ok, Sem.run_pure, goInt], .int _ _, h⟩
    · rename_i e id o n hk
      have hu := tab.slice_of tk ht hk
      cases hv <;> exact ⟨_, _, by simp only [Builtin.len_, hts, hvs, Sem.run_bind, run_underlying' hu, Result.andThen_ok, Sem.run_pure, goInt], .int _ _, h⟩
    · rename_i k e id hk
      have hu := tab.map_of tk ht hk
      cases hlk : look st.h id with
      | none => simp [hlk] at h
      | some ob =>
        cases ob <;> simp only [hlk] at h <;> try exact h.elim
        rename_i es
        obtain ⟨L, k1, b, ents, clock, k2, k3, k4, k5⟩ := hp.ob id _ hlk
        cases hv with
        | mp _ L' hθ b' hb =>
          rw [hθ] at k1; cases k1
          rw [hb] at k2; cases k2
          refine ⟨_, _, ?_, .int _ _, h⟩
          have hg : (getObj b).run P w = .ok (.map ents clock) w := by simp [getObj, Sem.run, k3]
          simp only [Builtin.len_, hts, hvs, Sem.run_bind, run_underlying' hu, Result.andThen_ok, hg, Sem.run_pure, goInt, k4]
    · exact h.elim
end Go.VL
