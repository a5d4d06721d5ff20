/- auto.pairs: the invariant and its steps. -/
import Derived.Test.YtkjiccficfcaeaaPairsA
set_option linter.unusedVariables false
set_option linter.unusedSimpArgs false
namespace Go.VL.PairsB
open Go Go.Proofs Go.VL Go.RowKit Go.Maps Go.VL.MapPair Go.VL.PairStep Go.VL.PairsA
set_option maxRecDepth 100000
/-- Between two rounds: pairs ahead of place i are done, and c letters of the one there. -/
structure Pv (w : World) (ca cb : Array Value) (la lb : List (List Int)) (i c : Nat) (all : List (Int × Int)) (va vn : Value) (W : World) : Prop where
  box1 : W.heap[w.heap.size]? = some (.cells ca 25 (0, 0))
  box2 : W.heap[w.heap.size + 1]? = some (.cells cb 25 (0, 0))
  map : ∃ cnt D, W.ownsMap Try.prog 37 (plainElem (H := Unit) Try.prog 3) (w.heap.size + 2) cnt D ∧ cnt ≤ all.length ∧ Knows D all
  row : W.ownsRow w.heap.size 37 2 va all.length (pcs2 all)
  nxt : ∃ xs, W.ownsRow w.heap.size 51 8 vn i xs
  met : Met (dA la) (dA lb) (0 : Int) (0 : Int) all i c
  nodup : all.Nodup
  inr : ∀ x ∈ all, inR la.length lb.length x
  bel : Below w.heap.size w W
theorem owns_ne {W : World} {base : Nat} {e t : TypeId} {size n B : Nat} {v : Value} {xs : List Value} {cs : Array Value} {fr : Nat × Nat} (h : W.ownsRow base e size v n xs) (hb : W.heap[B]? = some (.cells cs t fr)) (hne : t ≠ e) : v.ownBlock ≠ some B := by
  intro he
  rcases h.2 with ⟨rfl, _⟩ | ⟨g, cap, cur, rfl, _, hg, _⟩
  · cases he
  · simp [Value.ownBlock] at he
    subst he
    rw [hg] at hb
    simp at hb
    exact hne hb.2.1.symm
theorem map_ne {W : World} {base : Nat} {e : TypeId} {size n B cnt : Nat} {v : Value} {xs : List Value} {D : DataW Unit} (h : W.ownsRow base e size v n xs) (hm : W.ownsMap Try.prog 37 (plainElem (H := Unit) Try.prog 3) B cnt D) : v.ownBlock ≠ some B := by
  intro he
  obtain ⟨es, clock, hb, _⟩ := hm
  rcases h.2 with ⟨rfl, _⟩ | ⟨g, cap, cur, rfl, _, hg, _⟩
  · cases he
  · simp [Value.ownBlock] at he
    subst he
    rw [hg] at hb
    cases hb
/-- Where only one block turned, that is none of its own. -/
theorem Pv.kept {w : World} {ca cb : Array Value} {la lb : List (List Int)} {i c : Nat} {all : List (Int × Int)} {va vn : Value} {W W' : World} {B : Option Nat} (h : Pv w ca cb la lb i c all va vn W) (hg : W.grownBy W' B) (hB : ∀ b, B = some b → w.heap.size + 2 < b)
    (h1 : va.ownBlock = none ∨ va.ownBlock ≠ B) (h2 : vn.ownBlock = none ∨ vn.ownBlock ≠ B) : Pv w ca cb la lb i c all va vn W' := by
  have hl1 := (Array.getElem?_eq_some_iff.1 h.box1).1
  have hl2 := (Array.getElem?_eq_some_iff.1 h.box2).1
  obtain ⟨cnt, D, m1, m2, m3⟩ := h.map
  obtain ⟨xs, n1⟩ := h.nxt
  exact ⟨(hg.block _ hl1 (fun e => by have := hB _ e.symm; omega)).trans h.box1, (hg.block _ hl2 (fun e => by have := hB _ e.symm; omega)).trans h.box2, ⟨cnt, D, m1.kept hg (fun e => by have := hB _ e.symm; omega), m2, m3⟩,
    h.row.kept hg h1, ⟨xs, n1.kept hg h2⟩, h.met, h.nodup, h.inr, h.bel.grown hg h.bel.size (fun k e => by have := hB k e; omega)⟩
theorem Pv.alloc {w : World} {ca cb : Array Value} {la lb : List (List Int)} {i c : Nat} {all : List (Int × Int)} {va vn : Value} {W : World} (h : Pv w ca cb la lb i c all va vn W) (o : Obj) : Pv w ca cb la lb i c all va vn (W.alloc o) :=
  h.kept (World.grownBy_alloc W o none) (fun b e => by cases e) (by cases va.ownBlock <;> simp) (by cases vn.ownBlock <;> simp)
theorem Pv.known {w : World} {ca cb : Array Value} {la lb : List (List Int)} {i n : Nat} {all : List (Int × Int)} {va vn : Value} {W : World} {p : Int × Int} (h : Pv w ca cb la lb i n all va vn W) (hp : all[i]? = some p) (hk : (dA la p.1 n, dA lb p.2 n) ∈ all) : Pv w ca cb la lb i (n + 1) all va vn W :=
  ⟨h.box1, h.box2, h.map, h.row, h.nxt, h.met.known hp hk, h.nodup, h.inr, h.bel⟩
theorem row_of_own {W : World} {base : Nat} {e : TypeId} {size n : Nat} {v : Value} {xs : List Value} (h : W.ownsRow base e size v n xs) {b : Nat} (hb : v.ownBlock = some b) : ∃ cs, W.heap[b]? = some (.cells cs e (0, 0)) := by
  rcases h.2 with ⟨rfl, _⟩ | ⟨g, cap, cur, rfl, _, hg, _⟩
  · cases hb
  · simp [Value.ownBlock] at hb
    subst hb
    exact ⟨_, hg⟩
/-- A pair that was not known: the map's entry, and the list's. -/
theorem Pv.more {w : World} {ca cb : Array Value} {la lb : List (List Int)} {i n cnt : Nat} {all : List (Int × Int)} {va vn va' : Value} {W W1 W2 : World} {p : Int × Int} {D d : DataW Unit} {o : Obj} (h : Pv w ca cb la lb i n all va vn W) (hp : all[i]? = some p) (hn : n < 8)
    (hx : (dA la p.1 n, dA lb p.2 n) ∉ all) (hin : inR la.length lb.length (dA la p.1 n, dA lb p.2 n)) (hsm : la.length ≤ 40 ∧ lb.length ≤ 40) (hc : cnt ≤ all.length) (hD : Knows D all)
    (hm : W1.ownsMap Try.prog 37 (plainElem (H := Unit) Try.prog 3) (w.heap.size + 2) (cnt + 1) (D.put (kl (dA la p.1 n, dA lb p.2 n)) d)) (hg1 : W.grownBy W1 (some (w.heap.size + 2)))
    (hr : W2.ownsRow w.heap.size 37 2 va' (all.length + 1) (pcs2 all ++ [.int .i64 (dA la p.1 n), .int .i64 (dA lb p.2 n)])) (hg2 : (W1.alloc o).grownBy W2 va.ownBlock) :
    Pv w ca cb la lb i (n + 1) (all ++ [(dA la p.1 n, dA lb p.2 n)]) va' vn W2 := by
  have hl1 := (Array.getElem?_eq_some_iff.1 h.box1).1
  have hl2 := (Array.getElem?_eq_some_iff.1 h.box2).1
  obtain ⟨xs, n1⟩ := h.nxt
  have hs1 := hg1.size
  have hb1 := owns_ne h.row h.box1 (by decide)
  have hb2 := owns_ne h.row h.box2 (by decide)
  obtain ⟨cnt0, D0, m0, _, _⟩ := h.map
  have hb3 := map_ne h.row m0
  have hvn : vn.ownBlock = none ∨ vn.ownBlock ≠ some (w.heap.size + 2) := .inr (map_ne n1 m0)
  have hvv : vn.ownBlock = none ∨ vn.ownBlock ≠ va.ownBlock := by
    cases hv : vn.ownBlock with
    | none => exact .inl rfl
    | some b =>
      right
      intro e
      obtain ⟨cs, hcs⟩ := row_of_own n1 hv
      exact owns_ne h.row hcs (by decide) e.symm
  have blk : ∀ k, k < W.heap.size → k ≠ w.heap.size + 2 → some k ≠ va.ownBlock → W2.heap[k]? = W.heap[k]? := fun k hk h1 h2 =>
    (hg2.block k (by simp; omega) h2).trans ((Below.heap_alloc _ _ _ (by omega)).trans (hg1.block k hk (fun e => h1 (by cases e; rfl))))
  refine ⟨(blk _ hl1 (by omega) (fun e => hb1 e.symm)).trans h.box1, (blk _ hl2 (by omega) (fun e => hb2 e.symm)).trans h.box2, ⟨cnt + 1, _, (hm.kept (World.grownBy_alloc W1 o none) (by simp)).kept hg2 (fun e => hb3 e.symm), by simp; omega, hD.put (hin.small hsm.1 hsm.2) d⟩, ?_, ?_, h.met.more hp hn, ?_, ?_, ?_⟩
  · rw [pcs2_snoc, List.length_append]; exact hr
  · exact ⟨xs, ((n1.kept hg1 hvn).alloc o).kept hg2 hvv⟩
  · refine List.nodup_append.2 ⟨h.nodup, by simp, fun a ha b hb => ?_⟩
    simp at hb; subst hb
    rintro rfl; exact hx ha
  · intro x hx2
    rcases List.mem_append.1 hx2 with hx2 | hx2
    · exact h.inr x hx2
    · simp at hx2; subst hx2; exact hin
  · refine ((h.bel.grown hg1 h.bel.size (fun k e => by cases e; omega)).alloc (Nat.le_trans h.bel.size hs1) o).grown hg2 (by simp; have := h.bel.size; omega) (fun k e => (h.row.lt k e).1)
/-- The next place: what the round's letters led to is laid by. -/
theorem Pv.next {w : World} {ca cb : Array Value} {la lb : List (List Int)} {i : Nat} {all : List (Int × Int)} {va vn vn' : Value} {W W2 : World} {xs' : List Value} {o : Obj} (h : Pv w ca cb la lb i 8 all va vn W)
    (hr : W2.ownsRow w.heap.size 51 8 vn' (i + 1) xs') (hg2 : (W.alloc o).grownBy W2 vn.ownBlock) : Pv w ca cb la lb (i + 1) 0 all va vn' W2 := by
  have hl1 := (Array.getElem?_eq_some_iff.1 h.box1).1
  have hl2 := (Array.getElem?_eq_some_iff.1 h.box2).1
  obtain ⟨xs, n1⟩ := h.nxt
  obtain ⟨cnt, D, m1, m2, m3⟩ := h.map
  have hb1 := owns_ne n1 h.box1 (by decide)
  have hb2 := owns_ne n1 h.box2 (by decide)
  have hb3 := map_ne n1 m1
  have hvv : va.ownBlock = none ∨ va.ownBlock ≠ vn.ownBlock := by
    cases hv : va.ownBlock with
    | none => exact .inl rfl
    | some b =>
      right
      intro e
      obtain ⟨cs, hcs⟩ := row_of_own h.row hv
      exact owns_ne n1 hcs (by decide) e.symm
  have blk : ∀ k, k < W.heap.size → some k ≠ vn.ownBlock → W2.heap[k]? = W.heap[k]? := fun k hk h2 => (hg2.block k (by simp; omega) h2).trans (Below.heap_alloc _ _ _ hk)
  exact ⟨(blk _ hl1 (fun e => hb1 e.symm)).trans h.box1, (blk _ hl2 (fun e => hb2 e.symm)).trans h.box2, ⟨cnt, D, (m1.kept (World.grownBy_alloc W o none) (by simp)).kept hg2 (fun e => hb3 e.symm), m2, m3⟩, (h.row.alloc o).kept hg2 hvv, ⟨xs', hr⟩, h.met.next, h.nodup, h.inr,
    (h.bel.alloc h.bel.size o).grown hg2 (by simp; have := h.bel.size; omega) (fun k e => (n1.lt k e).1)⟩
end Go.VL.PairsB
