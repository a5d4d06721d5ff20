/- What strings.Replacer lays for three letters that are taken out: the world, step by step. -/
import Derived.Test.YtbokamdcjofkbaaGreatDoorVCv
import Derived.Below
import Derived.Laws.NewBlocks
import Derived.Lib.ConvBytes
import Derived.WalkKit
set_option linter.unusedVariables false
set_option linter.unusedSimpArgs false
namespace Go.VL.Repl
open Go Go.RowKit
/-- The letters to be taken out, as they come. -/
def outs : List UInt8 := [13, 10, 9]
/-- kr letters are marked in the table g, kt texts stand in the row h. -/
structure Inv (w0 : World) (g h kr kt : Nat) (W : World) : Prop where
  below : Below w0.heap.size w0 W
  hh : w0.heap.size ≤ h
  hg : w0.heap.size ≤ g
  ne : g ≠ h
  lg : g < W.heap.size
  lh : h < W.heap.size
  rep : ∀ i : Nat, i < 256 → ∃ u, W.cell? ⟨g, i, none⟩ = some u ∧ ((∃ j x, j < kr ∧ outs[j]? = some x ∧ i = x.toNat) ∧ (∃ a c, u = .slice (some a) 0 c) ∨ (∀ j x, j < kr → outs[j]? = some x → i ≠ x.toNat) ∧ u = .slice none 0 0)
  to : W.cell? ⟨g, 256, none⟩ = some (.slice (some ⟨h, 0, none⟩) kt 3)
  txt : ∀ j : Nat, j < 3 → ∃ u, W.cell? ⟨h, j, none⟩ = some u ∧ (j < kt → ∀ x, outs[j]? = some x → u = .string ⟨#[x]⟩)
  fg : ∀ j : Nat, W.frozen? ⟨g, j, none⟩ = false
  fh : ∀ j : Nat, W.frozen? ⟨h, j, none⟩ = false
theorem cell_new (W : World) (v : Value) (t : TypeId) : (W.alloc (.cells #[v] t)).cell? ⟨W.heap.size, 0, none⟩ = some v := by
  have h : (W.alloc (.cells #[v] t)).heap[W.heap.size]? = some (.cells #[v] t) := by
    show (W.heap.push _)[W.heap.size]? = _
    exact Array.getElem?_push_size
  unfold World.cell?
  rw [h]
  rfl
/-- Another text. -/
theorem Inv.push {w0 W : World} {g h k : Nat} (hI : Inv w0 g h k k W) (hk : k < 3) {x : UInt8} (hx : outs[k]? = some x) (A B : Obj) :
    Inv w0 g h k (k + 1) ((((W.setCell ⟨h, k, none⟩ (.string ⟨#[x]⟩)).setCell ⟨g, 256, none⟩ (.slice (some ⟨h, 0, none⟩) (k + 1) 3)).alloc A).alloc B) := by
  have hne := hI.ne
  have lg := hI.lg
  have lh := hI.lh
  have cg : ∀ j v, j ≠ 256 → W.cell? ⟨g, j, none⟩ = some v → ((((W.setCell ⟨h, k, none⟩ (.string ⟨#[x]⟩)).setCell ⟨g, 256, none⟩ (.slice (some ⟨h, 0, none⟩) (k + 1) 3)).alloc A).alloc B).cell? ⟨g, j, none⟩ = some v := fun j v hj hv => by
    rw [World.cell?_alloc_past _ _ _ (by simp; omega), World.cell?_alloc_past _ _ _ (by simpa using lg), World.cell?_setCell_other _ _ _ _ (fun e => hj (congrArg Addr.off e).symm), World.cell?_setCell_other _ _ _ _ (fun e => hne (congrArg Addr.block e).symm)]
    exact hv
  have ch : ∀ j, ((((W.setCell ⟨h, k, none⟩ (.string ⟨#[x]⟩)).setCell ⟨g, 256, none⟩ (.slice (some ⟨h, 0, none⟩) (k + 1) 3)).alloc A).alloc B).cell? ⟨h, j, none⟩ = (W.setCell ⟨h, k, none⟩ (.string ⟨#[x]⟩)).cell? ⟨h, j, none⟩ := fun j => by
    rw [World.cell?_alloc_past _ _ _ (by simp; omega), World.cell?_alloc_past _ _ _ (by simpa using lh), World.cell?_setCell_other _ _ _ _ (fun e => hne (congrArg Addr.block e))]
  refine ⟨?_, hI.hh, hI.hg, hne, by simp; omega, by simp; omega, fun i hi => ?_, ?_, fun j hj => ?_, fun j => ?_, fun j => ?_⟩
  · have s1 := (hI.below.setCell (p := ⟨h, k, none⟩) hI.hh (.string ⟨#[x]⟩)).setCell (p := ⟨g, 256, none⟩) hI.hg (.slice (some ⟨h, 0, none⟩) (k + 1) 3)
    have s2 := s1.alloc s1.size A
    exact s2.alloc s2.size B
  · obtain ⟨u, u1, u2⟩ := hI.rep i hi
    exact ⟨u, cg i u (by omega) u1, u2⟩
  · rw [World.cell?_alloc_past _ _ _ (by simp; omega), World.cell?_alloc_past _ _ _ (by simpa using lg)]
    exact World.cell?_setCell_same _ _ _ (by rw [World.cell?_setCell_other _ _ _ _ (fun e => hne (congrArg Addr.block e).symm)]; exact hI.to)
  · rw [ch]
    obtain ⟨u, u1, u2⟩ := hI.txt j hj
    by_cases hjk : j = k
    · subst hjk
      refine ⟨_, World.cell?_setCell_same _ _ _ u1, fun _ y hy => ?_⟩
      rw [hx] at hy; cases hy; rfl
    · exact ⟨u, by rw [World.cell?_setCell_other _ _ _ _ (fun e => hjk (congrArg Addr.off e).symm)]; exact u1, fun hj2 => u2 (by omega)⟩
  · rw [World.frozen?_alloc_past _ _ _ (by simp; omega), World.frozen?_alloc_past _ _ _ (by simpa using lg), World.frozen?_setCell, World.frozen?_setCell]
    exact hI.fg j
  · rw [World.frozen?_alloc_past _ _ _ (by simp; omega), World.frozen?_alloc_past _ _ _ (by simpa using lh), World.frozen?_setCell, World.frozen?_setCell]
    exact hI.fh j
/-- Its letter is marked. -/
theorem Inv.mark {w0 W : World} {g h k : Nat} (hI : Inv w0 g h k (k + 1) W) {x : UInt8} (hx : outs[k]? = some x) (o : Obj) (a : Addr) (c : Nat) :
    Inv w0 g h (k + 1) (k + 1) (((W.setCell ⟨g, x.toNat, none⟩ (.slice (some a) 0 c)).alloc o).drew) := by
  have hne := hI.ne
  have lg := hI.lg
  have lh := hI.lh
  have hx6 : x.toNat < 256 := x.toNat_lt
  have cg : ∀ j, (((W.setCell ⟨g, x.toNat, none⟩ (.slice (some a) 0 c)).alloc o).drew).cell? ⟨g, j, none⟩ = (W.setCell ⟨g, x.toNat, none⟩ (.slice (some a) 0 c)).cell? ⟨g, j, none⟩ := fun j => by
    rw [World.cell?_drew, World.cell?_alloc_past _ _ _ (by simpa using lg)]
  refine ⟨?_, hI.hh, hI.hg, hne, by simp; omega, by simp; omega, fun i hi => ?_, ?_, fun j hj => ?_, fun j => ?_, fun j => ?_⟩
  · have s1 := hI.below.setCell (p := ⟨g, x.toNat, none⟩) hI.hg (.slice (some a) 0 c)
    exact (s1.alloc s1.size o).drew
  · obtain ⟨u, u1, u2⟩ := hI.rep i hi
    rw [cg]
    by_cases hix : i = x.toNat
    · subst hix
      exact ⟨_, World.cell?_setCell_same _ _ _ u1, .inl ⟨⟨k, x, by omega, hx, rfl⟩, a, c, rfl⟩⟩
    · refine ⟨u, by rw [World.cell?_setCell_other _ _ _ _ (fun e => hix (congrArg Addr.off e).symm)]; exact u1, ?_⟩
      rcases u2 with ⟨⟨j, y, h1, h2, h3⟩, h4⟩ | ⟨h1, h2⟩
      · exact .inl ⟨⟨j, y, by omega, h2, h3⟩, h4⟩
      · refine .inr ⟨fun j y hj hy => ?_, h2⟩
        by_cases hjk : j = k
        · subst hjk
          rw [hx] at hy; cases hy; exact hix
        · exact h1 j y (by omega) hy
  · rw [cg, World.cell?_setCell_other _ _ _ _ (fun e => by have := congrArg Addr.off e; simp at this; omega)]
    exact hI.to
  · obtain ⟨u, u1, u2⟩ := hI.txt j hj
    exact ⟨u, by rw [World.cell?_drew, World.cell?_alloc_past _ _ _ (by simpa using lh), World.cell?_setCell_other _ _ _ _ (fun e => hne (congrArg Addr.block e))]; exact u1, u2⟩
  · rw [World.frozen?_drew, World.frozen?_alloc_past _ _ _ (by simpa using lg), World.frozen?_setCell]
    exact hI.fg j
  · rw [World.frozen?_drew, World.frozen?_alloc_past _ _ _ (by simpa using lh), World.frozen?_setCell]
    exact hI.fh j
/-- At the start: the row of three texts, the table of nothing. -/
theorem Inv.start (w : World) (Z : Array Value) (hZ : Z.toList = List.replicate 257 (.slice none 0 0)) (t e : TypeId) :
    Inv w (w.heap.size + 1) w.heap.size 0 0 (((w.alloc (.cells #[.string ⟨#[]⟩, .string ⟨#[]⟩, .string ⟨#[]⟩] e)).alloc (.cells Z t)).setRow (w.heap.size + 1) (Z.toList.take 0 ++ Z.toList.set 256 (.slice (some ⟨w.heap.size, 0, none⟩) 0 3)).toArray) := by
  generalize hW : ((w.alloc (.cells #[.string ⟨#[]⟩, .string ⟨#[]⟩, .string ⟨#[]⟩] e)).alloc (.cells Z t)).setRow (w.heap.size + 1) (Z.toList.take 0 ++ Z.toList.set 256 (.slice (some ⟨w.heap.size, 0, none⟩) 0 3)).toArray = W
  have hs : W.heap.size = w.heap.size + 2 := by subst hW; simp [World.setRow]
  have hg : W.heap[w.heap.size + 1]? = some (.cells ((List.replicate 257 (Value.slice none 0 0)).set 256 (.slice (some ⟨w.heap.size, 0, none⟩) 0 3)).toArray t (0, 0)) := by
    subst hW
    rw [hZ]
    have h1 : ((w.alloc (.cells #[.string ⟨#[]⟩, .string ⟨#[]⟩, .string ⟨#[]⟩] e)).alloc (.cells Z t)).heap[w.heap.size + 1]? = some (.cells Z t (0, 0)) := by
      show ((w.heap.push _).push _)[_]? = _
      rw [Array.getElem?_push, if_pos (by rw [Array.size_push])]
    unfold World.setRow
    simp only [Array.getElem?_modify, if_true, h1, Option.map_some]
    rfl
  have hh : W.heap[w.heap.size]? = some (.cells #[.string ⟨#[]⟩, .string ⟨#[]⟩, .string ⟨#[]⟩] e (0, 0)) := by
    subst hW
    have h1 : ((w.alloc (.cells #[.string ⟨#[]⟩, .string ⟨#[]⟩, .string ⟨#[]⟩] e)).alloc (.cells Z t)).heap[w.heap.size]? = some (.cells #[.string ⟨#[]⟩, .string ⟨#[]⟩, .string ⟨#[]⟩] e (0, 0)) := by
      show ((w.heap.push _).push _)[_]? = _
      rw [Array.getElem?_push, if_neg (by rw [Array.size_push]; omega), Array.getElem?_push, if_pos rfl]
    unfold World.setRow
    simp only [Array.getElem?_modify]
    rw [if_neg (by omega)]
    exact h1
  obtain ⟨L, hL⟩ : ∃ L, L = (List.replicate 257 (Value.slice none 0 0)).set 256 (.slice (some ⟨w.heap.size, 0, none⟩) 0 3) := ⟨_, rfl⟩
  rw [← hL] at hg
  have cg : ∀ j, W.cell? ⟨w.heap.size + 1, j, none⟩ = L[j]? := fun j => by
    unfold World.cell?
    simp only [hg, Option.isSome_none, Bool.false_eq_true, if_false, List.getElem?_toArray]
  refine ⟨?_, Nat.le_refl _, by omega, by omega, by omega, by omega, fun i hi => ?_, ?_, fun j hj => ?_, fun j => ?_, fun j => ?_⟩
  · have s0 := Below.refl w.heap.size w
    have s1 := s0.alloc (Nat.le_refl _) (.cells #[.string ⟨#[]⟩, .string ⟨#[]⟩, .string ⟨#[]⟩] e)
    have s2 := s1.alloc s1.size (.cells Z t)
    subst hW
    refine s2.trans ⟨rfl, rfl, rfl, by simp [World.setRow], fun k hk => ?_⟩
    unfold World.setRow
    simp only [Array.getElem?_modify]
    rw [if_neg (by omega)]
  · refine ⟨.slice none 0 0, ?_, .inr ⟨fun j x hj => by omega, rfl⟩⟩
    rw [cg, hL, List.getElem?_set_ne (by omega), List.getElem?_replicate, if_pos (by omega)]
  · rw [cg, hL, List.getElem?_set_self (by rw [List.length_replicate]; omega)]
  · unfold World.cell?
    simp only [hh, Option.isSome_none, Bool.false_eq_true, if_false]
    match j, hj with
    | 0, _ => exact ⟨_, rfl, fun h => by omega⟩
    | 1, _ => exact ⟨_, rfl, fun h => by omega⟩
    | 2, _ => exact ⟨_, rfl, fun h => by omega⟩
  · unfold World.frozen?
    simp [hg]
  · unfold World.frozen?
    simp [hh]
end Go.VL.Repl
