/- bobbinetref.MarksNest's add, walked. -/
import Derived.Test.YtpdieheihbdogaaDoorSpN
import Derived.Deep.RegionLaw
import Derived.Shelf.RegionOpenPlain
import Derived.WalkSpells
import Derived.WalkLawsBesides
import Derived.Calls
import Derived.RangeFuncRecord
import Derived.RangeFuncBox
set_option linter.unusedVariables false
set_option linter.unusedSimpArgs false
namespace Go.VL.AddRaw
open Go Go.Proofs Go.VL Go.RowKit Go.VL.SpN
set_option maxRecDepth 100000
/-- Names, below n0. -/
def NmV (w : World) (n0 : Nat) (nv : Value) (names : List Str) : Prop := ((∃ a c, nv = .slice a 0 c) ∧ names = []) ∨
  ∃ nb off cap, nv = .slice (some ⟨nb, off, none⟩) names.length cap ∧ names.length ≤ cap ∧ (names ≠ [] → nb < n0 ∧ ∀ (i : Nat) (x : Str), names[i]? = some x → w.cell? ⟨nb, off + i, none⟩ = some (.string ⟨x.toArray⟩))
structure Fr (w : World) (gs : List Nat) (w' : World) : Prop where
  os : w'.os = w.os
  tape : w'.tape = w.tape
  output : w'.output = w.output
  size : w.heap.size ≤ w'.heap.size
  block : ∀ k, k < w.heap.size → k ∉ gs → w'.heap[k]? = w.heap[k]?
def boxV (bx : Nat) : Value := .func (.func 10) #[] #[.pointer (some ⟨bx, 0, none⟩)]
def AddQ (w : World) (A : Nat → Prop) (n0 : Nat) (gs : List Nat) (k : Nat) (es' : List Nd) (e : Ending) (w' : World) : Prop :=
  ∃ v' gs', e = .returned v' ∧ (∀ A', (∀ b, A' b → A b ∨ w.heap.size ≤ b) → Sp w' A' n0 k v' es' gs') ∧ (∀ b ∈ gs', b ∈ gs ∨ w.heap.size ≤ b) ∧ Fr w gs w'
/-- How long the rows are. -/
def Wd (B : Nat) : Nat → List Nd → Prop
  | 0, es => es.length ≤ B
  | o + 1, es => es.length ≤ B ∧ ∀ pre a b c ps, es = pre ++ [.mk a b c ps] → Wd B o ps
theorem Wd.le {B o : Nat} {es : List Nd} (h : Wd B o es) : es.length ≤ B := by cases o with | zero => exact h | succ o => exact h.1
theorem Wd.less {B : Nat} : ∀ {k o : Nat} {es : List Nd}, Wd B o es → k ≤ o → Wd B k es
  | 0, o, es, h, _ => h.le
  | k + 1, 0, es, h, hk => absurd hk (by omega)
  | k + 1, o + 1, es, h, hk => ⟨h.1, fun pre a b c ps e => Wd.less (h.2 pre a b c ps e) (by omega)⟩
theorem Wd.add {B : Nat} (tx : Str) : ∀ (names : List Str) {o : Nat} {es : List Nd}, Wd B o es → o ≤ names.length → Wd (B + 1) names.length (addNd es names tx o)
  | [], o, es, h, _ => by have := h.le; simp [addNd, Wd]; omega
  | n :: ns, 0, es, h, _ => by
    have h1 := h.le
    refine ⟨by simp [addNd]; omega, fun pre a b c ps e => ?_⟩
    simp only [addNd] at e
    have := List.append_inj_right' e rfl
    simp at this
    obtain ⟨_, _, _, rfl⟩ := this
    exact Wd.add tx ns (o := 0) (Nat.zero_le B) (by omega)
  | n :: ns, o + 1, es, h, ho => by
    refine ⟨?_, fun pre a b c ps e => ?_⟩
    · rcases List.eq_nil_or_concat es with rfl | ⟨pre, nd, rfl⟩
      · simp [addNd]
      · obtain ⟨a, b, c, ps⟩ := nd
        have := h.1
        simp [addNd] at this ⊢; omega
    · rcases List.eq_nil_or_concat es with rfl | ⟨pre2, nd, rfl⟩
      · simp [addNd] at e
      · obtain ⟨a2, b2, c2, ps2⟩ := nd
        simp only [List.concat_eq_append] at *
        rw [addNd_last] at e
        have := List.append_inj_right' e rfl
        simp at this
        obtain ⟨_, _, _, rfl⟩ := this
        exact Wd.add tx ns (h.2 _ _ _ _ _ rfl) (by simp at ho; omega)
theorem infoN : (Tryd.prog.info? 36).map (fun i => (i.zero, i.size, i.bytes)) = some (some (.agg #[.string ByteArray.empty, .slice none 0 0, .string ByteArray.empty, .slice none 0 0]), 4, 80) := by kernel_rfl
theorem app_nd {ops : Array Oper} {rest : List Oper} {o : Oper} {a : Act} {Q : Exit → Act → World → Prop} (hgd : o.guard = none) (s x : Operand)
    (hop : o.op = .call { callee := .builtin .append, args := #[s, x], argTypes := #[24, 24] }) {WX : World} {n0 : Nat} {v : Value} {n : Nat} {xs : List Value} (hown : WX.ownsRow n0 36 4 v n xs) (hs : a.eval s = v)
    (ys : List Value) (hy : ys.length = 4) (h1 : ∀ u ∈ ys, u.oneCell' = true) {bx : Nat} (hx : a.eval x = .slice (some ⟨bx, 0, none⟩) 1 1) (hbx : bx = WX.heap.size) (hn : n < 2 ^ 40) (hn0 : n0 ≤ WX.heap.size)
    (hK : ∀ g cap w', w'.ownsRow n0 36 4 (.slice (some ⟨g, 0, none⟩) (n + 1) cap) (n + 1) (xs ++ ys) → (WX.alloc (.cells ys.toArray 36)).grownBy w' v.ownBlock → (v.ownBlock = some g ∨ g = WX.heap.size + 1) →
      wpList Tryd.prog ops Q rest (a.put o.dst (.slice (some ⟨g, 0, none⟩) (n + 1) cap)) w') :
    wpList Tryd.prog ops Q (o :: rest) a (WX.alloc (.cells ys.toArray 36)) := by
  subst hbx
  obtain ⟨i0, hi, hz0, hz1, hz2⟩ := info_parts infoN
  refine wpList_append_lies _ hgd s x 24 hop n0 36 i0 _ 4 80 Tryd.underlying24 hi hz0 hz1 hz2 rfl (by decide) v n xs hs (hown.alloc _) ⟨WX.heap.size, 0, none⟩ 1 1 ys hx (by rw [hy]) (World.news_of_block (World.alloc_heap_new WX _)) h1 (by omega) ?_ (by omega) (by simp; omega) (WX.heap.size + 1) (by simp) (fun g cap w' k1 k2 k3 k4 => hK g cap w' k1 k2 k3)
  have : maxLen = 9223372036854775807 := rfl
  omega
theorem step_nd {ops : Array Oper} {o : Oper} {a : Act} {K : Act → World → Prop} {Q : Exit → Act → World → Prop} {E : Prop} (hgd : o.guard = none) (s x : Operand)
    (hop : o.op = .call { callee := .builtin .append, args := #[s, x], argTypes := #[24, 24] }) {WX : World} {n0 : Nat} {v : Value} {n : Nat} {xs : List Value} (hown : WX.ownsRow n0 36 4 v n xs) (hs : a.eval s = v)
    (ys : List Value) (hy : ys.length = 4) (h1 : ∀ u ∈ ys, u.oneCell' = true) {bx : Nat} (hx : a.eval x = .slice (some ⟨bx, 0, none⟩) 1 1) (hbx : bx = WX.heap.size) (hn : n < 2 ^ 40) (hn0 : n0 ≤ WX.heap.size)
    (hK : ∀ g cap w', w'.ownsRow n0 36 4 (.slice (some ⟨g, 0, none⟩) (n + 1) cap) (n + 1) (xs ++ ys) → (WX.alloc (.cells ys.toArray 36)).grownBy w' v.ownBlock → (v.ownBlock = some g ∨ g = WX.heap.size + 1) →
      K (a.put o.dst (.slice (some ⟨g, 0, none⟩) (n + 1) cap)) w') :
    if Region.wanted o (yielded ops a.tmps) = true then Oper.wp Tryd.prog o a (WX.alloc (.cells ys.toArray 36)) K Q else E := by
  subst hbx
  obtain ⟨i0, hi, hz0, hz1, hz2⟩ := info_parts infoN
  refine step_append_lies _ hgd s x 24 hop n0 36 i0 _ 4 80 Tryd.underlying24 hi hz0 hz1 hz2 rfl (by decide) v n xs hs (hown.alloc _) ⟨WX.heap.size, 0, none⟩ 1 1 ys hx (by rw [hy]) (World.news_of_block (World.alloc_heap_new WX _)) h1 (by omega) ?_ (by omega) (by simp; omega) (WX.heap.size + 1) (by simp) (fun g cap w' k1 k2 k3 k4 => hK g cap w' k1 k2 k3)
  have : maxLen = 9223372036854775807 := rfl
  omega
/-- Behind an append: whatever is not the row lies as it lay. -/
theorem app_block {WX w' : World} {o : Obj} {v : Value} (hg : (WX.alloc o).grownBy w' v.ownBlock) {k : Nat} (hk : k < WX.heap.size) (hne : k ∉ v.ownBlock.toList) : w'.heap[k]? = WX.heap[k]? :=
  (hg.block k (by simp; omega) (fun e => hne (by rw [← e]; simp))).trans (Below.heap_alloc _ _ _ hk)
theorem app_size {WX w' : World} {o : Obj} {v : Value} (hg : (WX.alloc o).grownBy w' v.ownBlock) : WX.heap.size + 1 ≤ w'.heap.size := by
  have := hg.size; simp at this; exact this
set_option maxHeartbeats 4000000 in
theorem add_nil (bx n0 : Nat) (fr : Bool) (tx : Str) (nv v : Value) (es : List Nd) (gs : List Nat) (A : Nat → Prop) (w : World) (hn0 : n0 ≤ w.heap.size) (hB : es.length < 2 ^ 40) (hnv : NmV w n0 nv []) (hA : ∀ g ∈ gs, A g) (hsp : Sp w A n0 0 v es gs) :
    Calls Tryd.prog 10 #[v, nv, .bool fr, .string ⟨tx.toArray⟩, .int .i64 0, .pointer (some ⟨bx, 0, none⟩)] w (AddQ w A n0 gs 0 (addNd es [] tx 0)) := by
  obtain ⟨xs, h1, h2, h3⟩ := hsp
  have hlen : ∃ a c, nv = .slice a 0 c := by
    rcases hnv with ⟨⟨a, c, rfl⟩, _⟩ | ⟨nb, off, cap, rfl, _⟩
    · exact ⟨_, _, rfl⟩
    · exact ⟨_, _, rfl⟩
  obtain ⟨na, nc, rfl⟩ := hlen
  go_enter Tryd.func10, Tryd.ntmps10
  go_wp2_with (at_builtin; refine app_nd rfl _ _ rfl h1 rfl [.string ⟨#[]⟩, .slice none 0 0, .string ⟨tx.toArray⟩, .slice none 0 0] rfl (by simp [Value.oneCell']) rfl rfl hB hn0 ?_; intro g cap w' hown' hgrow hat)
  go_ret
  have hsz := app_size hgrow
  have hbl : ∀ k, k < w.heap.size → k ∉ gs → w'.heap[k]? = w.heap[k]? := fun k hk hne => app_block hgrow hk (by rw [← h3]; exact hne)
  refine ⟨_, [g], rfl, fun A' hA' => ⟨_, by simpa [addNd] using hown', ?_, rfl⟩, fun b hb => ?_, hgrow.os, hgrow.tape, hgrow.output, by omega, hbl⟩
  · exact (h2.frame (by omega) (fun k hk hn => hbl k hk (fun hg => hn (hA k hg))) hA').snoc rfl fun j x hx => by
      match j, hx with
      | 0, hx => cases hx; exact ⟨_, rfl, .str []⟩
      | 1, hx => cases hx; exact ⟨_, rfl, .nil⟩
      | 2, hx => cases hx; exact ⟨_, rfl, .str tx⟩
      | 3, hx => cases hx; exact ⟨_, rfl, .nil⟩
  · simp at hb; subst hb
    rcases hat with hat | rfl
    · left; rw [h3, hat]; simp
    · right; omega
end Go.VL.AddRaw
