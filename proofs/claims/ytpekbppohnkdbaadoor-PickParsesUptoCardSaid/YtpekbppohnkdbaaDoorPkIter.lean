/- strings.SplitSeq: its iterator, at one space, with rounds that go on. -/
import Derived.Test.YtpekbppohnkdbaaDoorVTab
import Derived.Test.YtpekbppohnkdbaaDoorVPickP
import Derived.RangeFuncNested
import Derived.RangeFuncBound
import Derived.RangeFuncCalls
import Derived.RangeFuncLeaves
import Derived.RangeFuncBox
import Derived.Shelf.Abstract
import Derived.Shelf.RegionOpen
import Derived.WalkKit
import Derived.OwnWalkIn
import Derived.TacticsInMore
import Derived.LoopNIn
import Derived.LoopIn
import Derived.Maps.AppendAt
import Derived.Shelf.Strings.Search3
import Derived.Shelf.Lays
set_option linter.unusedVariables false
set_option linter.unusedSimpArgs false
namespace Go.Proofs
open Go.Shelf
def Tryd.lays143_ren : Go.Shelf.Ren := ⟨fun | 143 => 27 | 219 => 28 | 217 => 35 | 225 => 36 | 224 => 37 | 267 => 38 | 266 => 41 | 314 => 42 | n => n, fun | 9 => 9 | 3 => 3 | 4 => 4 | 5 => 5 | 46 => 65 | 146 => 74 | 51 => 73 | n => n, fun | 1 => 0 | n => n⟩
theorem Tryd.lays143 : Go.Proofs.Lays.n143 Tryd.prog Tryd.lays143_ren := {
  mixed := by kernel_rfl
  f143 := Tryd.func27.trans (congrArg some (by kernel_rfl))
  f217 := Tryd.func35.trans (congrArg some (by kernel_rfl))
  f219 := Tryd.func28.trans (congrArg some (by kernel_rfl))
  f224 := Tryd.func37.trans (congrArg some (by kernel_rfl))
  f225 := Tryd.func36.trans (congrArg some (by kernel_rfl))
  f266 := Tryd.func41.trans (congrArg some (by kernel_rfl))
  f267 := Tryd.func38.trans (congrArg some (by kernel_rfl))
  f314 := Tryd.func42.trans (congrArg some (by kernel_rfl))
  t3 := Tryd.underlying3
  a3 := Tryd.isAgg3
  z3 := Tryd.sizeOf3
  v3 := Tryd.zeroValue3
  t4 := Tryd.underlying4
  a4 := Tryd.isAgg4
  z4 := Tryd.sizeOf4
  v4 := Tryd.zeroValue4
  t5 := Tryd.underlying5
  a5 := Tryd.isAgg5
  z5 := Tryd.sizeOf5
  v5 := Tryd.zeroValue5
  t9 := Tryd.underlying9
  a9 := Tryd.isAgg9
  z9 := Tryd.sizeOf9
  v9 := Tryd.zeroValue9
  t46 := Tryd.underlying65
  a46 := Tryd.isAgg65
  z46 := Tryd.sizeOf65
  v46 := Tryd.zeroValue65
  t51 := Tryd.underlying73
  a51 := Tryd.isAgg73
  z51 := Tryd.sizeOf73
  v51 := Tryd.zeroValue73
  t146 := Tryd.underlying74
  a146 := Tryd.isAgg74
  z146 := Tryd.sizeOf74
  v146 := Tryd.zeroValue74
  g1 := by kernel_rfl }
end Go.Proofs
namespace Go.VL.PkIter
open Go Go.Proofs Go.VL Go.RowKit Go.Shelf
attribute [local go_sem] Oper.semAt_some
set_option maxRecDepth 100000
theorem ib : ∀ t : Str, Lib.indexByte t 32 = match plc [32] t with | some k => (k : Int) | none => -1
  | [] => by simp [Lib.indexByte, plc]
  | c :: r => by
    have ih := ib r
    rw [plc_one]
    by_cases hc : c = 32
    · subst hc; simp [Lib.indexByte]
    · rw [if_neg hc]
      cases hp : plc [32] r with
      | none => rw [hp] at ih; simp [Lib.indexByte, ih, hc]
      | some k => rw [hp] at ih; simp [Lib.indexByte, ih, hc]
def left (b : Nat) (W : World) : Nat := match W.cell? ⟨b, 0, none⟩ with | some (.string s) => s.size | _ => 0
/-- The three boxes of the iterator. -/
structure Bx (W : World) (p b v : Nat) (t : Str) : Prop where
  sep : Boxed W p 9 (.string ⟨#[32]⟩)
  txt : Boxed W b 9 (.string ⟨t.toArray⟩)
  sav : Boxed W v 3 (.int .i64 0)
theorem Bx.of_eq {W W' : World} {p b v : Nat} {t : Str} (h : Bx W p b v t) (h1 : W'.heap[p]? = W.heap[p]?) (h2 : W'.heap[b]? = W.heap[b]?) (h3 : W'.heap[v]? = W.heap[v]?) : Bx W' p b v t :=
  ⟨h1.trans h.sep, h2.trans h.txt, h3.trans h.sav⟩
set_option maxHeartbeats 2000000 in
theorem iter (n : Nat) (hn : 3 ≤ n) (l p b v : Nat) (hpb : p ≠ b) (hbv : b ≠ v) (J : List Str → World → Prop)
    (hJs : ∀ pre W u, J pre W → J pre (W.setCell ⟨b, 0, none⟩ u))
    (hY : ∀ pre x t W, x.length ≤ 600 → pre.length ≤ 600 → J pre W → Bx W p b v t → YieldAt Fence.wide (n - 1) Tryd.prog l #[.string ⟨x.toArray⟩] W fun e W' => e = .returned (.bool true) ∧ J (pre ++ [x]) W' ∧ Bx W' p b v t)
    (s : Str) (hs : s.length ≤ 600) (W : World) (hb : Bx W p b v s) (h0 : J [] W) :
    CallsIn Fence.wide n Tryd.prog 25 #[.func (.yield l) #[] #[], .pointer (some ⟨p, 0, none⟩), .pointer (some ⟨b, 0, none⟩), .pointer (some ⟨v, 0, none⟩)] W fun e W' => (∃ u, e = .returned u) ∧ J (spl s) W' := by
  refine callsIn_of_wp Tryd.func25 rfl trivial ?_ rfl
  simp only [Tryd.ntmps25, List.size_toArray, List.length_cons, List.length_nil, Nat.reduceAdd, Nat.reduceSub, Array.replicate_succ, Array.replicate_zero, List.push_toArray, List.append_toArray, List.nil_append, List.cons_append]
  have hp1 := hb.sep.cell
  have hb1 := hb.txt.cell
  have hv1 := hb.sav.cell
  gi_wp2
  gi_loopw [] (fun wr => ∃ (pre : List Str) (t : Str), spl s = pre ++ spl t ∧ t.length ≤ s.length ∧ pre.length + t.length ≤ s.length ∧ Bx wr p b v t ∧ J pre wr)
    (fun wr => left b wr)
  case atStart => exact ⟨[], s, rfl, Nat.le_refl _, by simp, hb, h0⟩
  case round =>
    obtain ⟨pre, t, hpt, htl, hpl, hbt, hJ⟩ := hrel
    have hp2 := hbt.sep.cell
    have hb2 := hbt.txt.cell
    have hv2 := hbt.sav.cell
    have hix := ib t
    have hcl := Any.strings_Index_one Tryd.lays143 ⟨t.toArray⟩ 32 wr
    cases hk : plc [32] t with
    | none =>
      rw [hk] at hix
      simp only at hix
      obtain ⟨fn, tmps, assign, body, hy, hR⟩ := hY pre t t wr (by omega) (by omega) hJ hbt
      gi_wp2
      refine ⟨trivial, (fun _ => by omega), ?_⟩
      refine (callsIn_wide.2 hcl).mono ?_
      rintro e w' ⟨rfl, rfl⟩
      simp only [hix]
      gi_wp2
      refine ⟨(fun _ => by omega), hR.mono ?_⟩
      rintro e w2 ⟨rfl, hJ2, hb2⟩
      gi_wp2
      go_end0
      exact ⟨⟨_, rfl⟩, by rw [hpt, spl_none hk]; exact hJ2⟩
    | some k =>
      rw [hk] at hix
      simp only at hix
      have hkl := plc_lt (by simp) hk
      have hkl2 : k + 1 ≤ t.length := hkl
      obtain ⟨fn, tmps, assign, body, hy, hR⟩ := hY pre (t.take k) t wr (by simp; omega) (by omega) hJ hbt
      have hex : (⟨t.toArray⟩ : ByteArray).extract 0 k = ⟨(t.take k).toArray⟩ := by rw [Lib.extract_eq]; simp
      gi_wp2
      refine ⟨trivial, (fun _ => by omega), ?_⟩
      refine (callsIn_wide.2 hcl).mono ?_
      rintro e w' ⟨rfl, rfl⟩
      simp only [hix]
      gi_wp2
      refine ⟨(fun _ => by omega), hR.mono ?_⟩
      rintro e w2 ⟨rfl, hJ2, hb2⟩
      have hp3 := hb2.sep.cell
      have hb3 := hb2.txt.cell
      have hb4 := hb2.txt.frozen
      gi_wp2
      have he2 : (⟨t.toArray⟩ : ByteArray).extract (k + 1) t.length = ⟨(t.drop (k + 1)).toArray⟩ := by
        rw [Lib.extract_eq, List.take_of_length_le (by simp)]
      rw [he2]
      have hset := hb2.txt.set (.string ⟨(t.drop (k + 1)).toArray⟩)
      refine ⟨⟨pre ++ [t.take k], t.drop (k + 1), ?_, by simp; omega, by simp; omega, ⟨hb2.sep.other hpb _, hset, hb2.sav.other (Ne.symm hbv) _⟩, hJs _ _ _ hJ2⟩, ?_⟩
      · rw [hpt, spl_some hk]; simp
      · unfold left
        rw [hset.cell, hbt.txt.cell]
        simp [ByteArray.size]
        omega
end Go.VL.PkIter
