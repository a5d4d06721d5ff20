/- bobbinetref.MarksNest's add, walked whole. -/
import Derived.Test.YtpdieheihbdogaaDoorAddRaw
set_option linter.unusedVariables false
set_option linter.unusedSimpArgs false
namespace Go.VL.AddRaw
open Go Go.Proofs Go.VL Go.RowKit Go.VL.SpN
set_option maxRecDepth 100000
def tl1 (nb off cap : Nat) : Option Addr := if cap = 1 then some ⟨nb, off, none⟩ else some ⟨nb, off + 1, none⟩
def AddAll (bx n0 : Nat) (fr : Bool) (tx : Str) (B : Nat) (names : List Str) : Prop :=
  ∀ (o : Nat) (nv v : Value) (es : List Nd) (gs : List Nat) (A : Nat → Prop) (w : World), o ≤ names.length → n0 ≤ w.heap.size → Wd B o es → w.heap[bx]? = some (.cells #[boxV bx] 33 (0, 0)) → NmV w n0 nv names → (∀ g ∈ gs, A g) → Sp w A n0 o v es gs →
    Calls Tryd.prog 10 #[v, nv, .bool fr, .string ⟨tx.toArray⟩, .int .i64 o, .pointer (some ⟨bx, 0, none⟩)] w (AddQ w A n0 gs names.length (addNd es names tx o))
theorem row_sl {w : World} {n0 : Nat} {v : Value} {n : Nat} {xs : List Value} (h : w.ownsRow n0 36 4 v n xs) : ∃ a l c, v = .slice a l c := by
  rcases h.2 with ⟨rfl, _⟩ | ⟨g, cap, cur, rfl, _⟩ <;> exact ⟨_, _, _, rfl⟩
theorem sp_sl {w : World} {A : Nat → Prop} {n0 : Nat} : ∀ {o : Nat} {v : Value} {es : List Nd} {gs : List Nat}, Sp w A n0 o v es gs → ∃ a l c, v = .slice a l c
  | 0, v, es, gs, ⟨xs, h1, _⟩ => row_sl h1
  | o + 1, v, es, gs, ⟨_, _, _, _, _, _, _, _, _, _, _, h5, _⟩ => row_sl h5
theorem NmV.tail {w : World} {n0 nb off cap : Nat} {n : Str} {ns : List Str} (hcap : ns.length + 1 ≤ cap) (hnb : nb < n0) (hcs : ∀ (i : Nat) (x : Str), (n :: ns)[i]? = some x → w.cell? ⟨nb, off + i, none⟩ = some (.string ⟨x.toArray⟩)) :
    NmV w n0 (.slice (if cap = 1 then some ⟨nb, off, none⟩ else some ⟨nb, off + 1, none⟩) ns.length (cap - 1)) ns := by
  right
  by_cases h : cap = 1
  · have : ns = [] := List.length_eq_zero_iff.1 (by omega)
    subst this
    exact ⟨nb, off, cap - 1, by rw [if_pos h], by simp, fun h => absurd rfl h⟩
  · refine ⟨nb, off + 1, cap - 1, by rw [if_neg h], by omega, fun _ => ⟨hnb, fun i x hx => ?_⟩⟩
    rw [show off + 1 + i = off + (i + 1) by omega]
    exact hcs (i + 1) x (by simpa using hx)
theorem fin_new {w w1 w' : World} {A : Nat → Prop} {n0 : Nat} {v u : Value} {xs : List Value} {es : List Nd} {n : Str} {ns : List Str} {tx : Str} {gs1 : List Nat} {g cap2 : Nat} {o : Obj} (h1 : w.ownsRow n0 36 4 v es.length xs) (h2 : Cl w A xs es) (hA : ∀ g ∈ v.ownBlock.toList, A g) (hF : Fr w.drew [] w1)
    (hS : ∀ A', (∀ b, A' b → True ∨ w.drew.heap.size ≤ b) → Sp w1 A' n0 ns.length u (addNd [] ns tx 0) gs1) (hg1 : ∀ b ∈ gs1, b ∈ ([] : List Nat) ∨ w.drew.heap.size ≤ b)
    (hown' : w'.ownsRow n0 36 4 (.slice (some ⟨g, 0, none⟩) (es.length + 1) cap2) (es.length + 1) (xs ++ [.string ⟨n.toArray⟩, .slice none 0 0, .string ⟨#[]⟩, u])) (hgrow : (w1.alloc o).grownBy w' v.ownBlock) (hat : v.ownBlock = some g ∨ g = w1.heap.size + 1) :
    AddQ w A n0 v.ownBlock.toList (ns.length + 1) (addNd es (n :: ns) tx 0) (.returned (.slice (some ⟨g, 0, none⟩) (es.length + 1) cap2)) w' := by
  have hs1 : w.heap.size ≤ w1.heap.size := hF.size
  have hs2 := app_size hgrow
  have hsz : w.drew.heap.size = w.heap.size := rfl
  have hblk : ∀ k, k < w.heap.size → k ∉ v.ownBlock.toList → w'.heap[k]? = w.heap[k]? := fun k hk hne => (app_block hgrow (by omega) hne).trans (hF.block k hk (by simp))
  have hlow : ∀ k ∈ v.ownBlock.toList, k < w.heap.size := fun k hk => (h1.lt k (by simpa using hk)).2
  have hhi : ∀ k ∈ gs1, w.heap.size ≤ k := fun k hk => (hg1 k hk).elim (fun h => by simp at h) (fun h => h)
  refine ⟨_, g :: gs1, rfl, fun A' hA' => ?_, fun b hb => ?_, hgrow.os.trans hF.os, hgrow.tape.trans hF.tape, hgrow.output.trans hF.output, by omega, hblk⟩
  · have hSp := hS (fun b => A' b ∨ b ∈ v.ownBlock.toList) (fun _ _ => .inl trivial)
    refine ⟨es, n, addNd [] ns tx 0, xs, u, g, gs1, rfl, rfl, rfl, fun hg => ?_, hown', h2.frame (by omega) (fun k hk hn => hblk k hk (fun h => hn (hA k h))) hA', ?_⟩
    · have k1 := hhi g hg
      have k2 := (Sp.rng _ hSp g hg).2
      rcases hat with hat | rfl
      · have := (h1.lt g hat).2; omega
      · omega
    · exact Sp.frame (by omega) (fun k hk hn => app_block hgrow hk (fun h => hn (.inr h))) (fun b hb => .inl (.inl hb)) _ hSp (fun k hk => app_block hgrow (Sp.rng _ hSp k hk).2 (fun h => by have := hlow k h; have := hhi k hk; omega))
  · rcases List.mem_cons.1 hb with rfl | hb
    · rcases hat with hat | rfl
      · left; rw [hat]; simp
      · right; omega
    · right; exact hhi b hb
set_option maxHeartbeats 8000000 in
theorem add_new (bx n0 : Nat) (hbx : bx < n0) (fr : Bool) (tx : Str) (B : Nat) (hB : B < 2 ^ 40) (n : Str) (ns : List Str) (ih : AddAll bx n0 fr tx B ns)
    (nv v : Value) (es : List Nd) (gs : List Nat) (A : Nat → Prop) (w : World) (hn0 : n0 ≤ w.heap.size) (hW : Wd B 0 es) (hbox : w.heap[bx]? = some (.cells #[boxV bx] 33 (0, 0))) (hnv : NmV w n0 nv (n :: ns)) (hA : ∀ g ∈ gs, A g) (hsp : Sp w A n0 0 v es gs) :
    Calls Tryd.prog 10 #[v, nv, .bool fr, .string ⟨tx.toArray⟩, .int .i64 0, .pointer (some ⟨bx, 0, none⟩)] w (AddQ w A n0 gs (ns.length + 1) (addNd es (n :: ns) tx 0)) := by
  obtain ⟨xs, h1, h2, h3⟩ := hsp
  subst h3
  rcases hnv with ⟨_, h⟩ | ⟨nb, off, cap, rfl, hcap, hc⟩
  · cases h
  obtain ⟨hnb, hcs⟩ := hc (by simp)
  have hc0 : w.cell? ⟨nb, off, none⟩ = some (.string ⟨n.toArray⟩) := hcs 0 n rfl
  have hcap1 : ns.length + 1 ≤ cap := hcap
  have hq1 : 1 ≤ cap := by omega
  have hq2 : (1 : Int) ≤ (ns.length : Int) + 1 := by omega
  have hq3 : 1 ≤ ns.length + 1 := by omega
  have hbc : w.cell? ⟨bx, 0, none⟩ = some (boxV bx) := by simp [World.cell?, hbox]
  unfold boxV at hbc
  have ih0 : Calls Tryd.prog 10 #[.slice none 0 0, .slice (if cap = 1 then some ⟨nb, off, none⟩ else some ⟨nb, off + 1, none⟩) ns.length (cap - 1), .bool fr, .string ⟨tx.toArray⟩, .int .i64 0, .pointer (some ⟨bx, 0, none⟩)] w.drew (AddQ w.drew (fun _ => True) n0 [] ns.length (addNd [] ns tx 0)) :=
    ih 0 _ (.slice none 0 0) [] [] (fun _ => True) w.drew (Nat.zero_le _) hn0 (by simp [Wd]) hbox (NmV.tail (w := w.drew) hcap1 hnb hcs) (by simp) ⟨[], World.ownsRow_nil _ _ _ _, Cl.nil, rfl⟩
  have hdr : w.drew.heap = w.heap := rfl
  have hes : es.length < 2 ^ 40 := by have := hW.le; omega
  clear hcs hc
  go_enter Tryd.func10, Tryd.ntmps10
  go_wp2
  go_region_law (first
    | (refine step_nd rfl _ _ rfl h1' rfl [.string ⟨n.toArray⟩, .slice none 0 0, .string ⟨#[]⟩, .slice sa sl sc] rfl hone rfl rfl hes hn1 ?_; intro g cap2 w' hown' hgrow hat)
    | (go_simp; refine ih0.mono ?_; rintro e w1 ⟨v1, gs1, rfl, hS, hg1, hF⟩;
       have hc0' : w1.cell? ⟨nb, off, none⟩ = some (.string ⟨n.toArray⟩) := (World.cell?_of_block (hF.block nb (by rw [hdr]; omega) (by simp))).trans hc0;
       have h1' := ownsRow_fr h1 (fun g he => hF.block g (by rw [hdr]; exact (h1.lt g he).2) (by simp));
       have hn1 : n0 ≤ w1.heap.size := Nat.le_trans hn0 hF.size;
       obtain ⟨sa, sl, sc, rfl⟩ := sp_sl (hS (fun _ => False) (fun b hb => hb.elim));
       have hone : ∀ u ∈ [Value.string ⟨n.toArray⟩, .slice none 0 0, .string ⟨#[]⟩, .slice sa sl sc], u.oneCell' = true := by
         intro u hu
         simp only [List.mem_cons, List.not_mem_nil, or_false] at hu
         rcases hu with rfl | rfl | rfl | rfl <;> rfl))
  all_goals go_wp2
  all_goals (go_ret; exact fin_new h1 h2 hA hF hS hg1 hown' hgrow hat)
end Go.VL.AddRaw
