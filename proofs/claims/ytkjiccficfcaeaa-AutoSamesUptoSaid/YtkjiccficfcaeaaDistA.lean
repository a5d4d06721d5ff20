/- The reference's table: what holds of the heap. -/
import Derived.Test.YtkjiccficfcaeaaVTab
import Derived.Test.YtkjiccficfcaeaaVDist
import Derived.Deep.OwnRows
import Derived.Deep.LoopGhost
import Derived.Deep.Draws
set_option linter.unusedVariables false
set_option linter.unusedSimpArgs false
namespace Go.VL.DistA
open Go Go.Proofs Go.VL
/-- m rows of the table are made. -/
structure Tb (w : World) (vx vy : Value) (n m : Nat) (T : Nat → Nat → Bool) (W : World) : Prop where
  since : w.Since w.heap.size W
  size : W.heap.size = w.heap.size + 2 + m
  box : W.rowIs w.heap.size 41 2 (fun j => if j = 0 then vx else vy)
  top : W.rowIs (w.heap.size + 1) 23 n (fun j => if j < m then .slice (some ⟨w.heap.size + 2 + j, 0, none⟩) n n else .slice none 0 0)
  rows : ∀ j, j < m → W.rowIs (w.heap.size + 2 + j) 4 n (fun k => .bool (T j k))
variable {w W : World} {vx vy : Value} {n m : Nat} {T : Nat → Nat → Bool}
theorem Tb.start (w : World) (vx vy : Value) (n : Nat) (T : Nat → Nat → Bool) : Tb w vx vy n 0 T ((w.alloc (.cells #[vx, vy] 41)).alloc (.cells (madeCells #[.slice none 0 0] n) 23)) := by
  have h1 := World.rowIs_alloc w #[vx, vy] 41 (fun j => if j = 0 then vx else vy) (fun i hi => by
    match i, hi with
    | 0, _ => rfl
    | 1, _ => rfl)
  have h2 := World.rowIs_made (w.alloc (.cells #[vx, vy] 41)) (.slice none 0 0) n 23
  rw [World.size_alloc] at h2
  exact ⟨((World.Since.refl _ w).alloc (Nat.le_refl _) _).alloc (by simp) _, by simp, h1.alloc _, h2.congr (fun i _ => by simp), fun j hj => absurd hj (by omega)⟩
theorem Tb.congr {T' : Nat → Nat → Bool} (h : Tb w vx vy n m T W) (e : ∀ i k, i < m → k < n → T' i k = T i k) : Tb w vx vy n m T' W :=
  ⟨h.since, h.size, h.box, h.top, fun j hj => (h.rows j hj).congr (fun k hk => by rw [e j k hj hk])⟩
theorem Tb.drew (h : Tb w vx vy n m T W) : Tb w vx vy n m T W.drew := ⟨h.since.drew, h.size, h.box, h.top, h.rows⟩
theorem Tb.drewN (h : Tb w vx vy n m T W) (q : Nat) : Tb w vx vy n m T (W.drewN q) := ⟨⟨h.since.os, h.since.tape, h.since.output, h.since.size, h.since.block⟩, h.size, h.box, h.top, h.rows⟩
theorem Tb.row (h : Tb w vx vy n m T W) (hm : m < n) : Tb w vx vy n (m + 1) (fun j k => if j < m then T j k else false) ((W.alloc (.cells (madeCells #[.bool false] n) 4)).setCell ⟨w.heap.size + 1, m, none⟩ (.slice (some ⟨w.heap.size + 2 + m, 0, none⟩) n n)) := by
  have hnew := World.rowIs_made W (.bool false) n 4
  rw [h.size] at hnew
  refine ⟨(h.since.alloc (by rw [h.size]; omega) _).setCell (by show w.heap.size ≤ w.heap.size + 1; omega) _, by simp [h.size]; omega, (h.box.alloc _).setOther (by show w.heap.size ≠ w.heap.size + 1; omega) _, ((h.top.alloc _).set m _).congr (fun j _ => ?_), fun j hj => ?_⟩
  · by_cases e : j = m
    · subst e; simp
    · rw [if_neg e]
      by_cases hlt : j < m
      · rw [if_pos hlt, if_pos (by omega)]
      · rw [if_neg hlt, if_neg (by omega)]
  · by_cases e : j = m
    · subst e
      exact (hnew.setOther (by show w.heap.size + 2 + j ≠ w.heap.size + 1; omega) _).congr (fun k _ => by simp)
    · have hlt : j < m := by omega
      exact (((h.rows j hlt).alloc _).setOther (by show w.heap.size + 2 + j ≠ w.heap.size + 1; omega) _).congr (fun k _ => by rw [if_pos hlt])
theorem Tb.set (h : Tb w vx vy n m T W) {i k : Nat} (v : Bool) : Tb w vx vy n m (fun x y => if x = i ∧ y = k then v else T x y) (W.setCell ⟨w.heap.size + 2 + i, k, none⟩ (.bool v)) := by
  refine ⟨h.since.setCell (by show w.heap.size ≤ w.heap.size + 2 + i; omega) _, by simp [h.size], h.box.setOther (by show w.heap.size ≠ w.heap.size + 2 + i; omega) _, h.top.setOther (by show w.heap.size + 1 ≠ w.heap.size + 2 + i; omega) _, fun j hj => ?_⟩
  by_cases e : j = i
  · subst e
    exact ((h.rows j hj).set k _).congr (fun b _ => by
      by_cases eb : b = k
      · simp [eb]
      · simp [eb])
  · exact ((h.rows j hj).setOther (by show w.heap.size + 2 + j ≠ w.heap.size + 2 + i; omega) _).congr (fun b _ => by simp [e])
theorem Tb.t (h : Tb w vx vy n m T W) {i k : Nat} (hi : i < m) (hk : k < n) : W.cell? ⟨w.heap.size + 2 + i, k, none⟩ = some (.bool (T i k)) := (h.rows i hi).cell hk
theorem Tb.tf (h : Tb w vx vy n m T W) {i : Nat} (k : Nat) (hi : i < m) : W.frozen? ⟨w.heap.size + 2 + i, k, none⟩ = false := (h.rows i hi).frozen k
theorem Tb.o (h : Tb w vx vy n m T W) {i : Nat} (hi : i < m) (hn : i < n) : W.cell? ⟨w.heap.size + 1, i, none⟩ = some (.slice (some ⟨w.heap.size + 2 + i, 0, none⟩) n n) := by simpa [hi] using h.top.cell hn
theorem Tb.x (h : Tb w vx vy n m T W) : W.cell? ⟨w.heap.size, 0, none⟩ = some vx := by simpa using h.box.cell (i := 0) (by omega)
theorem Tb.y (h : Tb w vx vy n m T W) : W.cell? ⟨w.heap.size, 1, none⟩ = some vy := by simpa using h.box.cell (i := 1) (by omega)
def prtT (f : Nat → Bool) (i k : Nat) (a b : Nat) : Bool := if a < i ∨ b < k then f a != f b else false
end Go.VL.DistA
