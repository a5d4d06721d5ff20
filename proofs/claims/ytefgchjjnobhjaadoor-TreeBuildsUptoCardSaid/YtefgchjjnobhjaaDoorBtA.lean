/- tree.builder: what holds of the heap. -/
import Derived.Test.YtefgchjjnobhjaaDoorVTab
import Derived.Test.YtefgchjjnobhjaaDoorVBuild
import Derived.Laws.OwnMore
import Derived.RangeFuncBox
import Derived.Deep.AppendLies
import Derived.Deep.Draws
set_option linter.unusedVariables false
set_option linter.unusedSimpArgs false
namespace Go.VL.BtA
open Go Go.Proofs Go.VL Go.RowKit
set_option maxRecDepth 100000
structure Rec where
  (o : Nat) (vp : Value) (nb : Nat) (va : Value) (e : Ent)
def ptrV (b : Nat) : Value := .pointer (some ⟨b, 0, none⟩)
def strV (s : Str) : Value := .string ⟨s.toArray⟩
def npV (r : Rec) : Value := if r.e.tx = true then .pointer none else ptrV r.nb
def ptrQ (Q : List Rec) (k : Nat) : Value := match Q[k]? with | some r => ptrV r.o | none => .pointer none
def esQ (Q : List Rec) : List Ent := Q.tail.map (·.e)
def kidV (Q : List Rec) (k : Nat) : List Value := (kidE (esQ Q) ((k : Int) - 1)).map fun j => ptrQ Q (j + 1)
def stkV (Q : List Rec) (s : List Nat) : List Value := (0 :: s).map (ptrQ Q)
def acs (l : List Attr) : List Value := l.flatMap fun a => [strV a.name, strV a.value]
/-- What holds of one that was made. -/
structure Rk (w : World) (Q : List Rec) (k : Nat) (r : Rec) (W : World) : Prop where
  o : W.heap[r.o]? = some (.cells #[npV r, r.vp, strV r.e.text, .bool (!r.e.tx)] 34 (0, 0))
  row : W.ownsRow w.heap.size 30 1 r.vp (kidV Q k).length (kidV Q k)
  nod : r.e.tx = false → W.heap[r.nb]? = some (.cells #[strV r.e.name, r.va, strV [], .slice none 0 0] 47 (0, 0)) ∧ W.ownsRow w.heap.size 59 2 r.va r.e.attrs.length (acs r.e.attrs)
  lo : w.heap.size ≤ r.o
structure Bt (w : World) (bb : Nat) (Q : List Rec) (s : List Nat) (vs : Value) (c : Int) (mute : Str) (W : World) : Prop where
  bld : W.heap[bb]? = some (.cells #[ptrQ Q 0, vs, .int .i64 c, strV mute] 36 (0, 0))
  blo : w.heap.size ≤ bb
  stk : W.ownsRow w.heap.size 30 1 vs (s.length + 1) (stkV Q s)
  rk : ∀ (k : Nat) (r : Rec), Q[k]? = some r → Rk w Q k r W
  sep : ∀ (j k : Nat) (r r' : Rec), Q[j]? = some r → Q[k]? = some r' → j ≠ k → r.o ≠ r'.o ∧ (r.vp.ownBlock = none ∨ r.vp.ownBlock ≠ r'.vp.ownBlock)
  seps : ∀ (k : Nat) (r : Rec), Q[k]? = some r → r.vp.ownBlock = none ∨ r.vp.ownBlock ≠ vs.ownBlock
  root : ∃ r, Q[0]? = some r ∧ r.e.tx = true
  wf : WfE (esQ Q)
  ws : WfS (esQ Q) s
  len : Q.length ≤ 152
  sl : s.length ≤ 10
  bel : Below w.heap.size w W
theorem typ_ne {W : World} {b c : Nat} {cs cs' : Array Value} {t t' : TypeId} {fr fr' : Nat × Nat} (h : W.heap[b]? = some (.cells cs t fr)) (k : W.heap[c]? = some (.cells cs' t' fr')) (hne : t ≠ t') : b ≠ c := by
  rintro rfl
  rw [h] at k
  simp at k
  exact hne k.2.1
theorem own_typ {W : World} {base : Nat} {e : TypeId} {size n : Nat} {v : Value} {xs : List Value} (h : W.ownsRow base e size v n xs) {b : Nat} (hb : v.ownBlock = some b) : ∃ cs, W.heap[b]? = some (.cells cs e (0, 0)) := by
  rcases h.2 with ⟨rfl, _⟩ | ⟨g, cap, cur, rfl, _, hg, _⟩
  · cases hb
  · simp [Value.ownBlock] at hb
    subst hb
    exact ⟨_, hg⟩
theorem owns_ne {W : World} {base : Nat} {e t : TypeId} {size n B : Nat} {v : Value} {xs : List Value} {cs : Array Value} {fr : Nat × Nat} (h : W.ownsRow base e size v n xs) (hb : W.heap[B]? = some (.cells cs t fr)) (hne : t ≠ e) : v.ownBlock ≠ some B := fun he => by
  obtain ⟨cs', h2⟩ := own_typ h he
  exact typ_ne hb h2 hne rfl
theorem lt_of {W : World} {b : Nat} {x : Obj} (h : W.heap[b]? = some x) : b < W.heap.size := (Array.getElem?_eq_some_iff.1 h).1
theorem keepO {W W' : World} {B : Option Nat} {b : Nat} {x : Obj} (hg : W.grownBy W' B) (h : W.heap[b]? = some x) (hne : B ≠ some b) : W'.heap[b]? = some x := (hg.block b (lt_of h) (fun e => hne e.symm)).trans h
theorem setCell_grown (W : World) (a : Addr) (v : Value) : W.grownBy (W.setCell a v) (some a.block) := by
  refine ⟨rfl, rfl, rfl, by simp [World.setCell], fun i hi hne => ?_⟩
  have hn : a.block ≠ i := fun e => hne (by rw [e])
  simp [World.setCell, Array.getElem?_modify, hn]
theorem setCell_at {W : World} {b n : Nat} {cs : Array Value} {t : TypeId} {v : Value} (h : W.heap[b]? = some (.cells cs t (0, 0))) : (W.setCell ⟨b, n, none⟩ v).heap[b]? = some (.cells (cs.setIfInBounds n v) t (0, 0)) := by
  simp [World.setCell, Array.getElem?_modify, h]
theorem grown_of_below {W W' : World} (h : Below W.heap.size W W') (r : Option Nat) : W.grownBy W' r := ⟨h.os, h.tape, h.output, h.size, fun k hk _ => h.block k hk⟩
section
variable {w W W' : World} {bb : Nat} {Q : List Rec} {s : List Nat} {vs : Value} {c : Int} {mute : Str}
theorem Rk.kept {k : Nat} {r : Rec} {B : Option Nat} (h : Rk w Q k r W) (hg : W.grownBy W' B) (h1 : B ≠ some r.o) (h2 : r.vp.ownBlock = none ∨ r.vp.ownBlock ≠ B) (h3 : r.e.tx = false → B ≠ some r.nb ∧ (r.va.ownBlock = none ∨ r.va.ownBlock ≠ B)) : Rk w Q k r W' :=
  ⟨keepO hg h.o h1, h.row.kept hg h2, fun ht => ⟨keepO hg (h.nod ht).1 (h3 ht).1, (h.nod ht).2.kept hg (h3 ht).2⟩, h.lo⟩
/-- .. by the block's type. -/
theorem Rk.keptT {k : Nat} {r : Rec} {B : Nat} {cs : Array Value} {t : TypeId} {fr : Nat × Nat} (h : Rk w Q k r W) (hg : W.grownBy W' (some B)) (hB : W.heap[B]? = some (.cells cs t fr)) (t1 : t ≠ 34 ∨ B ≠ r.o) (t2 : t ≠ 30 ∨ r.vp.ownBlock ≠ some B) (t3 : t ≠ 47) (t4 : t ≠ 59) : Rk w Q k r W' :=
  h.kept hg (fun e => by cases e; rcases t1 with t1 | t1; exact typ_ne hB h.o t1 rfl; exact t1 rfl) (.inr (by rcases t2 with t2 | t2; exact owns_ne h.row hB t2; exact t2))
    (fun ht => ⟨fun e => by cases e; exact typ_ne hB (h.nod ht).1 t3 rfl, .inr (owns_ne (h.nod ht).2 hB t4)⟩)
theorem Bt.keptN (h : Bt w bb Q s vs c mute W) (hg : W.grownBy W' none) : Bt w bb Q s vs c mute W' :=
  ⟨keepO hg h.bld (by simp), h.blo, h.stk.kept hg (by cases vs.ownBlock <;> simp), fun k r hr => (h.rk k r hr).kept hg (by simp) (by cases r.vp.ownBlock <;> simp) (fun _ => ⟨by simp, by cases r.va.ownBlock <;> simp⟩), h.sep, h.seps, h.root, h.wf, h.ws, h.len, h.sl,
    h.bel.grown hg h.bel.size (fun k e => by cases e)⟩
theorem Bt.below (h : Bt w bb Q s vs c mute W) (hb : Below W.heap.size W W') : Bt w bb Q s vs c mute W' := h.keptN (grown_of_below hb none)
theorem Bt.alloc (h : Bt w bb Q s vs c mute W) (o : Obj) : Bt w bb Q s vs c mute (W.alloc o) := h.keptN (World.grownBy_alloc W o none)
theorem Bt.drew (h : Bt w bb Q s vs c mute W) : Bt w bb Q s vs c mute W.drew := h.keptN ⟨rfl, rfl, rfl, Nat.le_refl _, fun _ _ _ => rfl⟩
theorem Bt.drewN (h : Bt w bb Q s vs c mute W) (q : Nat) : Bt w bb Q s vs c mute (W.drewN q) := h.keptN ⟨rfl, rfl, rfl, Nat.le_refl _, fun _ _ _ => rfl⟩
/-- A store into the builder: the rest is as it was. -/
theorem Bt.setB (h : Bt w bb Q s vs c mute W) (j : Nat) (v : Value) {vs' : Value} {s' : List Nat} {c' : Int} {mute' : Str} (h1 : (#[ptrQ Q 0, vs, .int .i64 c, strV mute] : Array Value).setIfInBounds j v = #[ptrQ Q 0, vs', .int .i64 c', strV mute'])
    (h2 : W.ownsRow w.heap.size 30 1 vs' (s'.length + 1) (stkV Q s')) (h3 : vs'.ownBlock = vs.ownBlock) (h4 : WfS (esQ Q) s') (h5 : s'.length ≤ 10) : Bt w bb Q s' vs' c' mute' (W.setCell ⟨bb, j, none⟩ v) := by
  have hg := setCell_grown W ⟨bb, j, none⟩ v
  refine ⟨by rw [setCell_at h.bld, h1], h.blo, h2.kept hg (.inr (owns_ne h2 h.bld (by decide))), fun k r hr => (h.rk k r hr).keptT hg h.bld (.inl (by decide)) (.inl (by decide)) (by decide) (by decide), h.sep, fun k r hr => by rw [h3]; exact h.seps k r hr, h.root, h.wf, h4, h.len, h5, h.bel.grown hg h.bel.size (fun k e => by cases e; exact h.blo)⟩
theorem Bt.setMute (h : Bt w bb Q s vs c mute W) (m : Str) : Bt w bb Q s vs c m (W.setCell ⟨bb, 3, none⟩ (strV m)) := h.setB 3 _ rfl h.stk rfl h.ws h.sl
theorem Bt.setCount (h : Bt w bb Q s vs c mute W) (c' : Int) : Bt w bb Q s vs c' mute (W.setCell ⟨bb, 2, none⟩ (.int .i64 c')) := h.setB 2 _ rfl h.stk rfl h.ws h.sl
theorem Bt.form (h : Bt w bb Q s vs c mute W) : ∃ g cap, vs = .slice (some ⟨g, 0, none⟩) (s.length + 1) cap ∧ s.length + 1 ≤ cap := by
  rcases h.stk.2 with ⟨_, h0⟩ | ⟨g, cap, cur, rfl, _, _, hc, _⟩
  · omega
  · exact ⟨g, cap, rfl, hc⟩
/-- The stack is cut. -/
theorem Bt.take (h : Bt w bb Q s vs c mute W) {g cap i : Nat} (hv : vs = .slice (some ⟨g, 0, none⟩) (s.length + 1) cap) (hi : 1 ≤ i) (hi2 : i ≤ s.length + 1) : Bt w bb Q (pclose s i) (.slice (some ⟨g, 0, none⟩) i cap) c mute (W.setCell ⟨bb, 1, none⟩ (.slice (some ⟨g, 0, none⟩) i cap)) := by
  subst hv
  have hl : (pclose s i).length + 1 = i := by unfold pclose; rw [if_pos (by omega), List.length_take]; omega
  refine h.setB 1 _ rfl ?_ rfl (h.ws.close i) (by have := h.sl; omega)
  rcases h.stk.2 with ⟨h0, _⟩ | ⟨g2, cap2, cur, he, k1, k2, k3, k4, k5, k6⟩
  · cases h0
  · simp only [Value.slice.injEq, Option.some.injEq, Addr.mk.injEq] at he
    obtain ⟨⟨rfl, _⟩, _, rfl⟩ := he
    rw [hl]
    have e : stkV Q (pclose s i) = (stkV Q s).take i := by
      unfold stkV pclose
      rw [if_pos (by omega), ← List.map_take]
      obtain ⟨j, rfl⟩ : ∃ j, i = j + 1 := ⟨i - 1, by omega⟩
      simp
    refine ⟨by rw [e]; simp [stkV]; omega, .inr ⟨g, cap, cur, rfl, k1, k2, by omega, k4, k5, ?_⟩⟩
    rw [e, ← k6, List.take_take]
    congr 1
    omega
/-- .. grows by one. -/
theorem Bt.push (h : Bt w bb Q s vs c mute W) {x : Nat} {vs' : Value} {o : Obj} (hx : 1 ≤ x) (hx2 : ∃ e, (esQ Q)[x - 1]? = some e ∧ e.tx = false) (hr : W'.ownsRow w.heap.size 30 1 vs' (s.length + 1 + 1) (stkV Q s ++ [ptrQ Q x])) (hg : (W.alloc o).grownBy W' vs.ownBlock)
    (hv : vs'.ownBlock = vs.ownBlock ∨ ∃ b, vs'.ownBlock = some b ∧ W.heap.size < b) (hs : s.length < 10) : Bt w bb Q (s ++ [x]) vs' c mute (W'.setCell ⟨bb, 1, none⟩ vs') := by
  obtain ⟨g, cap, rfl, _⟩ := h.form
  obtain ⟨gcs, hgc⟩ := own_typ h.stk (b := g) rfl
  have ha := h.alloc o
  have hbb : W'.heap[bb]? = _ := keepO hg ha.bld (fun e => by cases e; exact typ_ne hgc h.bld (by decide) rfl)
  have hgc2 : (W.alloc o).heap[g]? = _ := (Below.heap_alloc W o g (lt_of hgc)).trans hgc
  have hrk : ∀ k r, Q[k]? = some r → Rk w Q k r W' := fun k r hr => (ha.rk k r hr).keptT hg hgc2 (.inl (by decide)) (.inr (fun e => by
    rcases h.seps k r hr with h2 | h2
    · rw [h2] at e; cases e
    · exact h2 e)) (by decide) (by decide)
  have hg2 := setCell_grown W' ⟨bb, 1, none⟩ vs'
  have hb2 : Below w.heap.size w W' := ha.bel.grown hg ha.bel.size (fun k e => (ha.stk.lt k e).1)
  refine ⟨by rw [setCell_at hbb]; rfl, h.blo, ?_, fun k r hr => (hrk k r hr).keptT hg2 hbb (.inl (by decide)) (.inl (by decide)) (by decide) (by decide), h.sep, fun k r hr2 => ?_, h.root, h.wf, ?_, h.len, by simp; omega, hb2.grown hg2 hb2.size (fun k e => by cases e; exact h.blo)⟩
  · have e : stkV Q (s ++ [x]) = stkV Q s ++ [ptrQ Q x] := by simp [stkV]
    rw [e, List.length_append, List.length_singleton]
    exact hr.kept hg2 (.inr (owns_ne hr hbb (by decide)))
  · rcases hv with hv | ⟨b, hb, hlt⟩
    · rw [hv]; exact h.seps k r hr2
    · rw [hb]
      right
      intro e
      have := ((h.rk k r hr2).row.lt b e).2
      omega
  · intro y hy
    rcases List.mem_append.1 hy with hy | hy
    · exact h.ws y hy
    · simp at hy; subst hy; exact ⟨hx, hx2⟩
end
end Go.VL.BtA
