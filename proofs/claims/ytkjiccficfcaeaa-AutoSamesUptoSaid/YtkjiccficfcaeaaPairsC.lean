/- auto.pairs: what a round's call and stores leave. -/
import Derived.Test.YtkjiccficfcaeaaPairsB
set_option linter.unusedVariables false
set_option linter.unusedSimpArgs false
namespace Go.VL.PairsC
open Go Go.Proofs Go.VL Go.RowKit Go.Maps Go.VL.MapPair Go.VL.PairStep Go.VL.PairsA Go.VL.PairsB
set_option maxRecDepth 100000
theorem setCell_grown (W : World) (a : Addr) (v : Value) : W.grownBy (W.setCell a v) (some a.block) := by
  refine ⟨rfl, rfl, rfl, by simp [World.setCell], fun i hi hne => ?_⟩
  have hn : a.block ≠ i := fun e => hne (by rw [e])
  simp [World.setCell, Array.getElem?_modify, hn]
theorem setCell_at {W : World} {b n : Nat} {cs : Array Value} {t : TypeId} {v : Value} (h : W.heap[b]? = some (.cells cs t (0, 0))) : (W.setCell ⟨b, n, none⟩ v).heap[b]? = some (.cells (cs.setIfInBounds n v) t (0, 0)) := by
  simp [World.setCell, Array.getElem?_modify, h]
theorem grown_of_below {W W' : World} (h : Below W.heap.size W W') (r : Option Nat) : W.grownBy W' r := ⟨h.os, h.tape, h.output, h.size, fun k hk _ => h.block k hk⟩
section
variable {w : World} {ca cb : Array Value} {la lb : List (List Int)} {i c : Nat} {all : List (Int × Int)} {va vn : Value} {W : World}
theorem _root_.Go.VL.PairsB.Pv.below {W' : World} (h : Pv w ca cb la lb i c all va vn W) (hb : Below W.heap.size W W') : Pv w ca cb la lb i c all va vn W' :=
  h.kept (grown_of_below hb none) (fun b e => by cases e) (by cases va.ownBlock <;> simp) (by cases vn.ownBlock <;> simp)
theorem _root_.Go.VL.PairsB.Pv.lt2 (h : Pv w ca cb la lb i c all va vn W) : w.heap.size + 2 < W.heap.size := by
  obtain ⟨cnt, D, m1, _⟩ := h.map
  exact m1.lt
/-- A store into a block that is none of its own. -/
theorem _root_.Go.VL.PairsB.Pv.store (h : Pv w ca cb la lb i c all va vn W) {a : Addr} (v : Value) (ha : w.heap.size + 2 < a.block) {cs : Array Value} {t : TypeId} {fr : Nat × Nat} (hb : W.heap[a.block]? = some (.cells cs t fr)) (h1 : t ≠ 37) (h2 : t ≠ 51 ∨ vn.ownBlock ≠ some a.block) : Pv w ca cb la lb i c all va vn (W.setCell a v) := by
  obtain ⟨xs, n1⟩ := h.nxt
  exact h.kept (setCell_grown W a v) (fun b e => by cases e; exact ha) (.inr (owns_ne h.row hb h1)) (.inr (by rcases h2 with h2 | h2; exact owns_ne n1 hb h2; exact h2))
def Rel (w : World) (ca cb : Array Value) (la lb : List (List Int)) (i n : Nat) (all : List (Int × Int)) (va vn : Value) (B : Nat) (arr : Array Value) (q : Int × Int) (tv : Value) (wx : World) : Prop :=
  ∃ H, tv = .pointer (some ⟨H, 0, none⟩) ∧ H ≠ B ∧ w.heap.size + 2 < H ∧ wx.heap[H]? = some (.cells #[.int .i64 q.1, .int .i64 q.2] 37 (0, 0)) ∧ va.ownBlock ≠ some H ∧ Pv w ca cb la lb i n all va vn wx ∧ wx.heap[B]? = some (.cells arr 51 (0, 0))
theorem own_lt {base : Nat} {e : TypeId} {size n : Nat} {v : Value} {xs : List Value} (h : W.ownsRow base e size v n xs) {b : Nat} (hb : W.heap.size ≤ b) : v.ownBlock ≠ some b := fun e => by
  have := (h.lt b e).2; omega
theorem relA (h : Pv w ca cb la lb i c all va vn W) {B : Nat} {arr : Array Value} (hB : W.heap[B]? = some (.cells arr 51 (0, 0))) (q : Int × Int) {W5 : World} (hb : Below W.drew.heap.size W.drew W5) :
    Rel w ca cb la lb i c all va vn B arr q (.pointer (some ⟨W5.heap.size, 0, none⟩)) (W5.alloc (.cells #[.int .i64 q.1, .int .i64 q.2] 37)) := by
  have hb' : Below W.heap.size W W5 := ⟨hb.os, hb.tape, hb.output, hb.size, hb.block⟩
  have hl := (Array.getElem?_eq_some_iff.1 hB).1
  have hs := hb'.size
  refine ⟨_, rfl, by omega, by have := h.lt2; omega, World.alloc_heap_new W5 _, own_lt h.row hs, (h.below hb').alloc _, (Below.heap_alloc _ _ _ (by omega)).trans ((hb'.block _ hl).trans hB)⟩
theorem relB (h : Pv w ca cb la lb i c all va vn W) {B : Nat} {arr : Array Value} (hB : W.heap[B]? = some (.cells arr 51 (0, 0))) (q : Int × Int) {W5 : World} (hb : Below (W.alloc (.cells #[.int .i64 0, .int .i64 0] 37)).drew.heap.size (W.alloc (.cells #[.int .i64 0, .int .i64 0] 37)).drew W5) :
    Rel w ca cb la lb i c all va vn B arr q (.pointer (some ⟨W.heap.size, 0, none⟩)) ((W5.setCell ⟨W.heap.size, 0, none⟩ (.int .i64 q.1)).setCell ⟨W.heap.size, 1, none⟩ (.int .i64 q.2)) := by
  have hb' : Below (W.alloc (.cells #[.int .i64 0, .int .i64 0] 37)).heap.size (W.alloc (.cells #[.int .i64 0, .int .i64 0] 37)) W5 := ⟨hb.os, hb.tape, hb.output, hb.size, hb.block⟩
  have hl := (Array.getElem?_eq_some_iff.1 hB).1
  have e0 := (hb'.block W.heap.size (by simp)).trans (World.alloc_heap_new W (.cells #[.int .i64 0, .int .i64 0] 37))
  have eB := (hb'.block B (by simp; omega)).trans ((Below.heap_alloc _ _ _ hl).trans hB)
  have hP := (h.alloc (.cells #[.int .i64 0, .int .i64 0] 37)).below hb'
  have g1 := setCell_grown W5 ⟨W.heap.size, 0, none⟩ (.int .i64 q.1)
  have g2 := setCell_grown (W5.setCell ⟨W.heap.size, 0, none⟩ (.int .i64 q.1)) ⟨W.heap.size, 1, none⟩ (.int .i64 q.2)
  have hsz := hb'.size
  have hs1 := g1.size
  simp at hsz
  have hlt := h.lt2
  obtain ⟨xs, n1⟩ := h.nxt
  have k1 := own_lt h.row (Nat.le_refl _)
  have k2 := own_lt n1 (Nat.le_refl _)
  refine ⟨_, rfl, by omega, hlt, ?_, k1, ?_, ?_⟩
  · have := setCell_at (n := 1) (v := .int .i64 q.2) (setCell_at (n := 0) (v := .int .i64 q.1) e0)
    rw [this]; rfl
  · exact (hP.kept g1 (fun b e => by cases e; exact hlt) (.inr k1) (.inr k2)).kept g2 (fun b e => by cases e; exact hlt) (.inr k1) (.inr k2)
  · exact (g2.block B (by omega) (fun e => by simp at e; omega)).trans ((g1.block B (by omega) (fun e => by simp at e; omega)).trans eB)
theorem arr_set {cs : List Int} {n : Nat} {x : Int} : ((cs.map (Value.int .i64)).toArray).setIfInBounds n (.int .i64 x) = ((cs.set n x).map (Value.int .i64)).toArray := by
  simp [List.map_set]
end
end Go.VL.PairsC
