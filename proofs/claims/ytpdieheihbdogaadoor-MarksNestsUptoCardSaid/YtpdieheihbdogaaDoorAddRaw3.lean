/- bobbinetref.MarksNest's add, walked: within what is open. -/
import Derived.Test.YtpdieheihbdogaaDoorAddRaw2
set_option linter.unusedVariables false
set_option linter.unusedSimpArgs false
namespace Go.VL.AddRaw
open Go Go.Proofs Go.VL Go.RowKit Go.VL.SpN
set_option maxRecDepth 100000
theorem wrap_nat {x : Nat} (h : x < 2 ^ 40) : wrap64 (x : Int) = x := by unfold wrap64; omega
theorem wrapk_nat {x : Nat} (h : x < 2 ^ 40) : IntKind.i64.wrap (x : Int) = x := by simp [IntKind.wrap, IntKind.bits, IntKind.signed]; omega
theorem fin_in {w w1 : World} {A : Nat → Prop} {n0 g vc o : Nat} {u u1 : Value} {pre : List Nd} {nm n : Str} {ps : List Nd} {ns : List Str} {tx : Str} {xp : List Value} {gs' gs1 : List Nat} (h4 : g ∉ gs')
    (h5 : w.ownsRow n0 36 4 (.slice (some ⟨g, 0, none⟩) (pre.length + 1) vc) (pre.length + 1) (xp ++ [.string ⟨nm.toArray⟩, .slice none 0 0, .string ⟨#[]⟩, u])) (h6 : Cl w A xp pre) (hA : ∀ k ∈ g :: gs', A k) (hF : Fr w.drew gs' w1)
    (hS : ∀ A', (∀ b, A' b → A b ∨ w.drew.heap.size ≤ b) → Sp w1 A' n0 ns.length u1 (addNd ps ns tx o) gs1) (hg1 : ∀ b ∈ gs1, b ∈ gs' ∨ w.drew.heap.size ≤ b)
    (h5' : w1.ownsRow n0 36 4 (.slice (some ⟨g, 0, none⟩) (pre.length + 1) vc) (pre.length + 1) (xp ++ [.string ⟨nm.toArray⟩, .slice none 0 0, .string ⟨#[]⟩, u])) :
    AddQ w A n0 (g :: gs') (ns.length + 1) (addNd (pre ++ [.mk nm [] [] ps]) (n :: ns) tx (o + 1)) (.returned (.slice (some ⟨g, 0, none⟩) (pre.length + 1) vc)) (w1.setCell ⟨g, pre.length * 4 + 3, none⟩ u1) := by
  have hs1 : w.heap.size ≤ w1.heap.size := hF.size
  have hsz : w.drew.heap.size = w.heap.size := rfl
  have hgl := (h5.lt g rfl).2
  have hst := h5'.stored (pre.length * 4 + 3) u1
  have hss : (w1.setCell ⟨g, pre.length * 4 + 3, none⟩ u1).heap.size = w1.heap.size := by simp [World.setCell]
  have hset : (xp ++ [.string ⟨nm.toArray⟩, .slice none 0 0, .string ⟨#[]⟩, u]).set (pre.length * 4 + 3) u1 = xp ++ [.string ⟨nm.toArray⟩, .slice none 0 0, .string ⟨#[]⟩, u1] := by
    rw [List.set_append_right _ _ (by rw [h6.len]; omega), h6.len, show pre.length * 4 + 3 - pre.length * 4 = 3 by omega]; rfl
  rw [hset] at hst
  have hb1 : ∀ k, k ≠ g → (w1.setCell ⟨g, pre.length * 4 + 3, none⟩ u1).heap[k]? = w1.heap[k]? := fun k hk => Below.heap_setCell _ _ _ k hk
  have hblk : ∀ k, k < w.heap.size → k ∉ g :: gs' → (w1.setCell ⟨g, pre.length * 4 + 3, none⟩ u1).heap[k]? = w.heap[k]? := fun k hk hne =>
    (hb1 k (fun e => hne (by simp [e]))).trans (hF.block k hk (fun h => hne (by simp [h])))
  refine ⟨_, g :: gs1, rfl, fun A' hA' => ?_, fun b hb => ?_, hF.os, hF.tape, hF.output, by omega, hblk⟩
  · have hSp := hS (fun b => A' b ∨ b = g) (fun b hb => hb.elim (fun h => hA' b h) (fun h => .inl (hA b (by simp [h]))))
    have hgg : g ∉ gs1 := fun h => (hg1 g h).elim h4 (fun h => by omega)
    exact ⟨pre, nm, addNd ps ns tx o, xp, u1, g, gs1, addNd_last _ _ _ _ _ _ _ _ _, rfl, rfl, hgg, hst.1, h6.frame (by omega) (fun k hk hn => hblk k hk (fun h => hn (hA k h))) hA',
      Sp.frame (by omega) (fun k hk hn => hb1 k (fun e => hn (.inr e))) (fun b hb => .inl (.inl hb)) _ hSp (fun k hk => hb1 k (fun e => hgg (e ▸ hk)))⟩
  · rcases List.mem_cons.1 hb with rfl | hb
    · left; simp
    · rcases hg1 b hb with h | h
      · left; simp [h]
      · right; exact h
set_option maxHeartbeats 8000000 in
theorem add_in (bx n0 : Nat) (hbx : bx < n0) (fr : Bool) (tx : Str) (B : Nat) (hB : B < 2 ^ 40) (n : Str) (ns : List Str) (ih : AddAll bx n0 fr tx B ns) (o : Nat) (ho : o ≤ ns.length) (hns : ns.length < 2 ^ 40)
    (nv v : Value) (es : List Nd) (gs : List Nat) (A : Nat → Prop) (w : World) (hn0 : n0 ≤ w.heap.size) (hW : Wd B (o + 1) es) (hbox : w.heap[bx]? = some (.cells #[boxV bx] 33 (0, 0))) (hnv : NmV w n0 nv (n :: ns)) (hA : ∀ g ∈ gs, A g) (hsp : Sp w A n0 (o + 1) v es gs) :
    Calls Tryd.prog 10 #[v, nv, .bool fr, .string ⟨tx.toArray⟩, .int .i64 ((o : Int) + 1), .pointer (some ⟨bx, 0, none⟩)] w (AddQ w A n0 gs (ns.length + 1) (addNd es (n :: ns) tx (o + 1))) := by
  obtain ⟨pre, nm, ps, xp, u, g, gs', rfl, rfl, h3, h4, h5, h6, h7⟩ := hsp
  rcases hnv with ⟨_, h⟩ | ⟨nb, off, cap, rfl, hcap, hc⟩
  · cases h
  obtain ⟨hnb, hcs⟩ := hc (by simp)
  have hcap1 : ns.length + 1 ≤ cap := hcap
  have hq1 : 1 ≤ cap := by omega
  have hq2 : (1 : Int) ≤ (ns.length : Int) + 1 := by omega
  have hq3 : 1 ≤ ns.length + 1 := by omega
  have hbc : w.cell? ⟨bx, 0, none⟩ = some (boxV bx) := by simp [World.cell?, hbox]
  unfold boxV at hbc
  obtain ⟨g2, vc, rfl, hg2, hg3⟩ := h5.form (by omega)
  obtain rfl : g2 = g := by simpa [Value.ownBlock] using h3
  have hxl : xp.length = pre.length * 4 := h6.len
  have hcu : w.cell? ⟨g2, pre.length * 4 + 3, none⟩ = some u := by
    rw [h5.cellAt _ (by omega), List.getElem?_append_right (by omega), hxl, show pre.length * 4 + 3 - pre.length * 4 = 3 by omega]; rfl
  obtain ⟨ua, ul, uc, rfl⟩ := sp_sl h7
  have ih0 : Calls Tryd.prog 10 #[.slice ua ul uc, .slice (if cap = 1 then some ⟨nb, off, none⟩ else some ⟨nb, off + 1, none⟩) ns.length (cap - 1), .bool fr, .string ⟨tx.toArray⟩, .int .i64 (o : Int), .pointer (some ⟨bx, 0, none⟩)] w.drew (AddQ w.drew A n0 gs' ns.length (addNd ps ns tx o)) :=
    ih o _ (.slice ua ul uc) ps gs' A w.drew ho hn0 (hW.2 pre nm [] [] ps rfl) hbox (NmV.tail (w := w.drew) hcap1 hnb hcs) (fun k hk => hA k (by simp [hk])) (Sp.frame (w := w) (w' := w.drew) (Nat.le_refl _) (fun _ _ _ => rfl) (fun b hb => .inl hb) _ h7 (fun _ _ => rfl))
  have hdr : w.drew.heap = w.heap := rfl
  have hpl : pre.length < 2 ^ 40 := by have := hW.le; simp at this; omega
  have hol : o < 2 ^ 40 := Nat.lt_of_le_of_lt ho hns
  have hw1 : wrap64 (pre.length : Int) = pre.length := wrap_nat hpl
  have hw2 : IntKind.i64.wrap (o : Int) = o := wrapk_nat hol
  have hq4 : (0 : Int) ≤ pre.length := Int.natCast_nonneg _
  have hq5 : (pre.length : Int) < pre.length + 1 := Int.lt_succ _
  have hop : (0 : Int) < (o : Int) + 1 := by omega
  have hsub : (o : Int) + 1 - 1 = o := by omega
  clear hcs hc
  go_enter Tryd.func10, Tryd.ntmps10
  go_wp2
  go_region_law (first
    | (go_simp; refine ih0.mono ?_; rintro e w1 ⟨v1, gs1, rfl, hS, hg1, hF⟩;
       have h5' := ownsRow_fr h5 (fun k he => hF.block k (by rw [hdr]; exact (h5.lt k he).2) (by cases he; exact h4));
       have hcu' : w1.cell? ⟨g2, pre.length * 4 + 3, none⟩ = some (.slice ua ul uc) := (World.cell?_of_block (hF.block g2 (by rw [hdr]; exact hg3) h4)).trans hcu;
       have hcf' : w1.frozen? ⟨g2, pre.length * 4 + 3, none⟩ = false := h5'.frozenAt _;
       obtain ⟨sa, sl, sc, rfl⟩ := sp_sl (hS (fun _ => False) (fun b hb => hb.elim))))
  all_goals go_wp2
  all_goals (go_ret; exact fin_in h4 h5 h6 hA hF hS hg1 h5')
/-- add, whole. -/
theorem add_all (bx n0 : Nat) (hbx : bx < n0) (fr : Bool) (tx : Str) (B : Nat) (hB : B < 2 ^ 40) : ∀ names : List Str, names.length < 2 ^ 40 → AddAll bx n0 fr tx B names
  | [], _ => fun o nv v es gs A w ho hn0 hW hbox hnv hA hsp => by
    obtain rfl : o = 0 := by simpa using ho
    exact add_nil bx n0 fr tx nv v es gs A w hn0 (by have := hW.le; omega) hnv hA hsp
  | n :: ns, hl => fun o nv v es gs A w ho hn0 hW hbox hnv hA hsp => by
    have ih := add_all bx n0 hbx fr tx B hB ns (by simp at hl; omega)
    cases o with
    | zero => exact add_new bx n0 hbx fr tx B hB n ns ih nv v es gs A w hn0 hW hbox hnv hA hsp
    | succ o => exact add_in bx n0 hbx fr tx B hB n ns ih o (by simpa using ho) (by simp at hl; omega) nv v es gs A w hn0 hW hbox hnv hA hsp
end Go.VL.AddRaw
