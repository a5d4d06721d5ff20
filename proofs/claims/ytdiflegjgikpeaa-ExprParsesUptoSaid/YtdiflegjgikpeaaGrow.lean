/- strings.Builder's Grow, where nobody has written yet. -/
import Derived.Test.YtdiflegjgikpeaaBld
import Derived.Test.YtdiflegjgikpeaaVBd3
set_option linter.unusedVariables false
set_option linter.unusedSimpArgs false
namespace Go.Proofs
open Go.Shelf Go.VL
shelf_lay Lays.n241 Nm 241 at Try as Try.lays241
theorem Try.bldExtra2 : Builder.Extra Try.prog Try.lays241_ren where
  sizeBuilder := by kernel_rfl
  liesBuilder := by kernel_rfl
  t5 := Try.underlying5
  a5 := Try.isAgg5
  z5 := Try.sizeOf5
  v5 := Try.zeroValue5
  infoByte := by kernel_rfl
  cellsByte := by kernel_rfl
  sizeByte := by kernel_rfl
  neB5 := by decide
set_option maxHeartbeats 2000000 in
set_option maxRecDepth 1000000 in
theorem Try.growFresh (b n : Nat) (fr : Nat × Nat) (w : World) (hbk : w.heap[b]? = some (.cells #[.pointer none, .slice none 0 0] 53 fr)) (hnf : nf fr 2) (hn : n ≤ 281474976710656) :
    Calls Try.prog 27 #[.pointer (some ⟨b, 0, none⟩), .int .i64 n] w fun e w' => e = .returned (.tuple #[]) ∧ GrowQ b 5 w w' := by
  have hbk1 : (w.setCell ⟨b, 0, none⟩ (.pointer (some ⟨b, 0, none⟩))).heap[b]? = some (.cells #[.pointer (some ⟨b, 0, none⟩), .slice none 0 0] 53 fr) := by
    simp [World.setCell, Array.getElem?_modify, hbk]
  have hs1 : (w.setCell ⟨b, 0, none⟩ (.pointer (some ⟨b, 0, none⟩))).heap.size = w.heap.size := by simp [World.setCell]
  have c1 : (w.setCell ⟨b, 0, none⟩ (.pointer (some ⟨b, 0, none⟩))).cell? ⟨b, 1, none⟩ = some (.slice none 0 0) := by rw [Lib.cell_of_heap hbk1]; rfl
  have c1' : (w.setCell ⟨b, 0, none⟩ (.pointer (some ⟨b, 0, none⟩))).drew.cell? ⟨b, 1, none⟩ = some (.slice none 0 0) := c1
  have f0 : w.frozen? ⟨b, 0, none⟩ = false := by
    have h2 := hnf 0 (by omega)
    obtain ⟨lo, hi⟩ := fr
    simp only [World.frozen?, hbk, Bool.and_eq_false_iff, decide_eq_false_iff_not]
    simp only at h2
    omega
  go_enter Try.func27, Try.ntmps27
  go_wp2_with (go_at_call 31; refine (Try.bldFresh b w (by rw [Lib.cell_of_heap hbk]; rfl) (by simp [World.shape?, hbk]) f0).mono ?_; rintro e w' ⟨rfl, rfl⟩)
  go_region
  all_goals go_wp2_with (go_at_call 32; refine (grow_none Try.lays241 Try.bldExtra2 b n _ fr (w.setCell ⟨b, 0, none⟩ (.pointer (some ⟨b, 0, none⟩))).drew hbk1 hnf hn).mono ?_; rintro e w' ⟨rfl, cs, h1⟩)
  all_goals go_end0
  all_goals first
    | exact ⟨rfl, .inl ⟨rfl, rfl, rfl, rfl⟩⟩
    | (have hs2 : (w.setCell ⟨b, 0, none⟩ (.pointer (some ⟨b, 0, none⟩))).drew.heap.size = w.heap.size := hs1
       rw [hs2] at h1
       exact ⟨rfl, .inr ⟨cs, ⟨h1.heap, h1.os, h1.tape, h1.output⟩⟩⟩)
end Go.Proofs
namespace Go.VL.Grow
open Go Go.Proofs Go.VL
theorem grow_ (n : Nat) (hn : n ≤ 281474976710656) : CallWP Try.prog 27 [.ref 0 0 0, (.d (.int .i64 (n)))] [(0, .var 53 [.nilp, .nils])] (fun r h => r = .tup [] ∧ h = [(0, .var 53 [.bs 0, .full 1]), (1, .row 5 [])]) :=
  CallWP.growFresh _ _ _ (by kernel_rfl) n fun b fr w h1 h2 => Try.growFresh b n fr w h1 h2 hn
end Go.VL.Grow
