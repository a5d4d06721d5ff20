/- sync.Once's Do, not yet done, the lock free: over what the function handed to it does. -/
import Derived.Test.YtbokamdcjofkbaaDoorReplA
set_option linter.unusedVariables false
set_option linter.unusedSimpArgs false
namespace Go.VL.ReplB
open Go Go.Proofs Go.RowKit Go.VL.ReplA
set_option maxRecDepth 100000 in
set_option maxHeartbeats 1600000 in
theorem slow (b : Nat) (w : World) (G : World → Prop) (h0 : w.cell? ⟨b, 0, none⟩ = some (.int .u32 0)) (h1 : w.cell? ⟨b, 1, none⟩ = some (.int .i32 0))
    (f1 : w.frozen? ⟨b, 1, none⟩ = false)
    (hG : ∀ w2, G w2 → w2.cell? ⟨b, 0, none⟩ = some (.int .u32 0) ∧ w2.cell? ⟨b, 1, none⟩ = some (.int .i32 1) ∧ w2.frozen? ⟨b, 0, none⟩ = false ∧ w2.frozen? ⟨b, 1, none⟩ = false)
    (hf : Calls Tryd.prog 25 #[.pointer (some ⟨b, 0, none⟩)] (w.setCell ⟨b, 1, none⟩ (.int .i32 1)) fun e w' => e = .returned (.tuple #[]) ∧ G w') :
    Calls Tryd.prog 31 #[.pointer (some ⟨b, 0, none⟩), .func (.func 25) #[.pointer (some ⟨b, 0, none⟩)] #[]] w fun e w' => e = .returned (.tuple #[]) ∧
      ∃ w2, G w2 ∧ w' = (w2.drew.setCell ⟨b, 0, none⟩ (.int .u32 1)).setCell ⟨b, 1, none⟩ (.int .i32 0) := by
  have hl := run_call_load (P := Tryd.prog) Tryd.func36 (by kernel_rfl) (by kernel_rfl) (by kernel_rfl) .u32 (by kernel_rfl) (w := w.setCell ⟨b, 1, none⟩ (.int .i32 1)) (a := ⟨b, 0, none⟩) (x := 0) ((World.cell?_setCell_other _ ⟨b, 1, none⟩ ⟨b, 0, none⟩ _ (by simp)).trans h0)
  have hnot : ∀ (x : Bool) (w : World), (Op.unary .not (.bool x)).run Tryd.prog w = .ok (.bool (!x)) w := fun _ _ => rfl
  go_enter_defers Tryd.func31, Tryd.ntmps31
  go_wp2_with (first | (go_at_call 37; refine (lock_free ⟨b, 1, none⟩ _ h1 f1).mono ?_; rintro e w' ⟨rfl, rfl⟩) | (go_at_call 30; go_in) | (go_at_call 25; refine hf.mono ?_; rintro e w' ⟨rfl, hg⟩))
  obtain ⟨g0, g1, z0, z1⟩ := hG _ hg
  refine leaves_cons (f := 39) (args := #[.pointer (some ⟨b, 0, none⟩), .bool true]) (by simp) (by simp [go_sem]) ?_
  refine (store_deferred ⟨b, 0, none⟩ (.int .u32 0) .returning _ g0 z0).mono ?_
  rintro e u' w'' ⟨rfl, rfl, rfl⟩
  refine leaves_cons (f := 38) (args := #[.pointer (some ⟨b, 1, none⟩)]) (by simp [settle]) (by simp [go_sem]) ?_
  refine (unlock_deferred ⟨b, 1, none⟩ _ _ ?_ (by simp [z1])).mono ?_
  · refine (World.cell?_setCell_other _ ⟨b, 0, none⟩ ⟨b, 1, none⟩ _ (by simp)).trans ?_
    rw [World.cell?_drew]
    exact g1
  rintro e u' w'' ⟨rfl, rfl, rfl⟩
  simp [Leaves, settle, results, Tryd.results31]
  exact ⟨_, hg, rfl⟩
set_option maxRecDepth 100000 in
set_option maxHeartbeats 1600000 in
theorem once (b : Nat) (w : World) (G : World → Prop) (h0 : w.cell? ⟨b, 0, none⟩ = some (.int .u32 0)) (h1 : w.cell? ⟨b, 1, none⟩ = some (.int .i32 0))
    (f1 : w.frozen? ⟨b, 1, none⟩ = false)
    (hG : ∀ w2, G w2 → w2.cell? ⟨b, 0, none⟩ = some (.int .u32 0) ∧ w2.cell? ⟨b, 1, none⟩ = some (.int .i32 1) ∧ w2.frozen? ⟨b, 0, none⟩ = false ∧ w2.frozen? ⟨b, 1, none⟩ = false)
    (hf : Calls Tryd.prog 25 #[.pointer (some ⟨b, 0, none⟩)] (w.setCell ⟨b, 1, none⟩ (.int .i32 1)) fun e w' => e = .returned (.tuple #[]) ∧ G w') :
    Calls Tryd.prog 24 #[.pointer (some ⟨b, 0, none⟩), .func (.func 25) #[.pointer (some ⟨b, 0, none⟩)] #[]] w fun e w' => e = .returned (.tuple #[]) ∧
      ∃ w2, G w2 ∧ w' = (w2.drew.setCell ⟨b, 0, none⟩ (.int .u32 1)).setCell ⟨b, 1, none⟩ (.int .i32 0) := by
  have hl := run_call_load (P := Tryd.prog) Tryd.func36 (by kernel_rfl) (by kernel_rfl) (by kernel_rfl) .u32 (by kernel_rfl) h0
  have hnot : ∀ (x : Bool) (w : World), (Op.unary .not (.bool x)).run Tryd.prog w = .ok (.bool (!x)) w := fun _ _ => rfl
  go_enter Tryd.func24, Tryd.ntmps24
  go_wp2_with (first | (go_at_call 31; refine (slow b _ G h0 h1 f1 hG hf).mono ?_; rintro e w' ⟨rfl, w2, hg, rfl⟩) | (go_at_call 30; go_in))
  go_end0
  exact ⟨rfl, _, hg, rfl⟩
/-- What the maker of the replacer lays. -/
structure Bsr (N : Nat) (W : World) : Prop where
  rep : ∀ i : Nat, i < 256 → ∃ u, W.cell? ⟨N, i, none⟩ = some u ∧ ((i = 9 ∨ i = 10 ∨ i = 13) ∧ (∃ a c, u = .slice (some a) 0 c) ∨ ¬ (i = 9 ∨ i = 10 ∨ i = 13) ∧ u = .slice none 0 0)
  to : ∃ t c, W.cell? ⟨N, 256, none⟩ = some (.slice (some ⟨t, 0, none⟩) 3 c) ∧ W.cell? ⟨t, 0, none⟩ = some (.string ⟨#[13]⟩) ∧ W.cell? ⟨t, 1, none⟩ = some (.string ⟨#[10]⟩) ∧ W.cell? ⟨t, 2, none⟩ = some (.string ⟨#[9]⟩)
set_option maxRecDepth 100000 in
set_option maxHeartbeats 1600000 in
theorem bOnce (b : Nat) (w : World) (R : Nat → World → Prop) (x3 x4 : Value) (hb3 : w.cell? ⟨b, 3, none⟩ = some x3) (hb4 : w.cell? ⟨b, 4, none⟩ = some x4) (z3 : w.frozen? ⟨b, 3, none⟩ = false) (z4 : w.frozen? ⟨b, 4, none⟩ = false)
    (hR : ∀ N w2, R N w2 → (∀ o, w2.cell? ⟨b, o, none⟩ = w.cell? ⟨b, o, none⟩) ∧ (∀ o, w2.frozen? ⟨b, o, none⟩ = w.frozen? ⟨b, o, none⟩))
    (hf : Calls Tryd.prog 32 #[.pointer (some ⟨b, 0, none⟩)] w fun e w' => ∃ N, e = .returned (.iface 78 (.pointer (some ⟨N, 0, none⟩))) ∧ R N w') :
    Calls Tryd.prog 25 #[.pointer (some ⟨b, 0, none⟩)] w fun e w' => e = .returned (.tuple #[]) ∧
      ∃ N w2, R N w2 ∧ w' = (w2.setCell ⟨b, 3, none⟩ (.iface 78 (.pointer (some ⟨N, 0, none⟩)))).setCell ⟨b, 4, none⟩ (.slice none 0 0) := by
  go_enter Tryd.func25, Tryd.ntmps25
  go_wp2_with (go_at_call 32; refine hf.mono ?_; rintro e w' ⟨N, rfl, hr⟩; obtain ⟨c2, k2⟩ := hR _ _ hr; have q3 := (c2 3).trans hb3; have q4 := (c2 4).trans hb4; have p3 := (k2 3).trans z3; have p4 := (k2 4).trans z4)
  go_end0
  exact ⟨rfl, _, _, hr, rfl⟩
end Go.VL.ReplB
