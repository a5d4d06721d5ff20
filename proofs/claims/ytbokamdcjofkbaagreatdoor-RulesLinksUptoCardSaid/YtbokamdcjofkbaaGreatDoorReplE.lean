/- (*strings.Replacer).Replace, three letters taken out: a rule. -/
import Derived.Test.YtbokamdcjofkbaaGreatDoorReplD
import Derived.Test.YtbokamdcjofkbaaGreatDoorVNc
import Derived.Test.YtbokamdcjofkbaaGreatDoorVLaw
set_option linter.unusedVariables false
set_option linter.unusedSimpArgs false
namespace Go.VL.ReplE
open Go Go.Proofs Go.RowKit Go.VL Go.VL.Repl Go.VL.ReplB Go.VL.ReplC Go.VL.ReplD
/-- Nothing that was there has turned, but block b, which keeps its shape. -/
structure KB (b : Nat) (w w' : World) : Prop where
  os : w'.os = w.os
  tape : w'.tape = w.tape
  output : w'.output = w.output
  size : w.heap.size ≤ w'.heap.size
  block : ∀ k, k < w.heap.size → k ≠ b → w'.heap[k]? = w.heap[k]?
  shp : ∀ (cs : Array Value) (e : TypeId) (fr : Nat × Nat), w.heap[b]? = some (Obj.cells cs e fr) → ∃ cs' fr', w'.heap[b]? = some (Obj.cells cs' e fr') ∧ cs'.size = cs.size
theorem KB.refl (b : Nat) (w : World) : KB b w w := ⟨rfl, rfl, rfl, Nat.le_refl _, fun _ _ _ => rfl, fun cs e fr h => ⟨cs, fr, h, rfl⟩⟩
theorem KB.trans {b : Nat} {w w' w'' : World} (h : KB b w w') (k : KB b w' w'') : KB b w w'' :=
  ⟨k.os.trans h.os, k.tape.trans h.tape, k.output.trans h.output, Nat.le_trans h.size k.size, fun i hi hb => (k.block i (Nat.lt_of_lt_of_le hi h.size) hb).trans (h.block i hi hb), fun cs e fr hc => by
    obtain ⟨cs1, fr1, h1, h2⟩ := h.shp cs e fr hc
    obtain ⟨cs2, fr2, h3, h4⟩ := k.shp cs1 e fr1 h1
    exact ⟨cs2, fr2, h3, h4.trans h2⟩⟩
theorem KB.setCell (b o : Nat) (w : World) (v : Value) : KB b w (w.setCell ⟨b, o, none⟩ v) :=
  ⟨rfl, rfl, rfl, by simp [World.setCell], fun k hk hb => by
    simp only [World.setCell, Array.getElem?_modify]
    rw [if_neg (fun e => hb e.symm)], fun cs e fr h => ⟨cs.setIfInBounds o v, fr, by
    simp only [World.setCell, Array.getElem?_modify, if_true, h, Option.map_some]
    rfl, by simp⟩⟩
theorem KB.drew (b : Nat) (w : World) : KB b w w.drew := ⟨rfl, rfl, rfl, Nat.le_refl _, fun _ _ _ => rfl, fun cs e fr h => ⟨cs, fr, h, rfl⟩⟩
theorem KB.below {b : Nat} {w w' : World} (h : Below w.heap.size w w') : KB b w w' :=
  ⟨h.os, h.tape, h.output, h.size, fun k hk _ => h.block k hk, fun cs e fr hc => by
    have hlt : b < w.heap.size := by
      rcases Nat.lt_or_ge b w.heap.size with h4 | h4
      · exact h4
      · rw [Array.getElem?_eq_none h4] at hc; cases hc
    exact ⟨cs, fr, by rw [h.block b hlt]; exact hc, rfl⟩⟩
theorem below_frozen {B : Nat} {w w' : World} (h : Below B w w') {a : Addr} (ha : a.block < B) : w'.frozen? a = w.frozen? a := by
  unfold World.frozen?
  rw [h.block a.block ha]
theorem inv_rep {w0 W : World} {g h : Nat} (hI : Inv w0 g h 3 3 W) : ∀ i : Nat, i < 256 → ∃ u, W.cell? ⟨g, i, none⟩ = some u ∧ (keepU (UInt8.ofNat i) = false ∧ (∃ a c, u = .slice (some a) 0 c) ∨ keepU (UInt8.ofNat i) = true ∧ u = .slice none 0 0) := by
  intro i hi
  obtain ⟨u, u1, u2⟩ := hI.rep i hi
  refine ⟨u, u1, ?_⟩
  have e : (UInt8.ofNat i).toNat = i := by simp; omega
  rcases u2 with ⟨⟨j, x, h1, h2, h3⟩, h4⟩ | ⟨h1, h2⟩
  · refine .inl ⟨(keepU_iff _).2 ?_, h4⟩
    have ex : UInt8.ofNat i = x := UInt8.toNat_inj.mp (by rw [e]; exact h3)
    rw [ex]
    match j, h1, h2 with
    | 0, _, h2 => simp [outs] at h2; exact .inl h2.symm
    | 1, _, h2 => simp [outs] at h2; exact .inr (.inl h2.symm)
    | 2, _, h2 => simp [outs] at h2; exact .inr (.inr h2.symm)
  · refine .inr ⟨?_, h2⟩
    cases hk : keepU (UInt8.ofNat i) with
    | true => rfl
    | false =>
      exfalso
      rcases (keepU_iff _).1 hk with q | q | q
      · exact h1 0 13 (by omega) rfl (by rw [← e, q])
      · exact h1 1 10 (by omega) rfl (by rw [← e, q])
      · exact h1 2 9 (by omega) rfl (by rw [← e, q])
theorem inv_txt {w0 W : World} {g h : Nat} (hI : Inv w0 g h 3 3 W) : W.cell? ⟨h, 0, none⟩ = some (.string ⟨#[13]⟩) ∧ W.cell? ⟨h, 1, none⟩ = some (.string ⟨#[10]⟩) ∧ W.cell? ⟨h, 2, none⟩ = some (.string ⟨#[9]⟩) := by
  obtain ⟨a, a1, a2⟩ := hI.txt 0 (by omega)
  obtain ⟨b, b1, b2⟩ := hI.txt 1 (by omega)
  obtain ⟨c, c1, c2⟩ := hI.txt 2 (by omega)
  rw [a2 (by omega) 13 rfl] at a1
  rw [b2 (by omega) 10 rfl] at b1
  rw [c2 (by omega) 9 rfl] at c1
  exact ⟨a1, b1, c1⟩
/-- Behind Do. -/
theorem after {b g h : Nat} {w w1 w2 w4 : World} {x3 : Value} (hI : Inv w1 g h 3 3 w2) (hw1 : w1 = w.setCell ⟨b, 1, none⟩ (.int .i32 1)) (bl : b < w.heap.size) (h3 : w.cell? ⟨b, 3, none⟩ = some x3)
    (e4 : w4 = (((w2.setCell ⟨b, 3, none⟩ (.iface 101 (.pointer (some ⟨g, 0, none⟩)))).setCell ⟨b, 4, none⟩ (.slice none 0 0)).drew.setCell ⟨b, 0, none⟩ (.int .u32 1)).setCell ⟨b, 1, none⟩ (.int .i32 0)) :
    w4.cell? ⟨b, 3, none⟩ = some (.iface 101 (.pointer (some ⟨g, 0, none⟩))) ∧ (∀ (a : Addr), a.block ≠ b → w4.cell? a = w2.cell? a) ∧ KB b w w4 := by
  have z1 : w1.heap.size = w.heap.size := by rw [hw1]; simp [World.setCell]
  have q3 : w2.cell? ⟨b, 3, none⟩ = some x3 := by
    rw [hI.below.cell (by show b < _; omega), hw1, World.cell?_setCell_other _ _ _ _ (by simp)]; exact h3
  subst e4
  refine ⟨?_, fun a ha => ?_, ?_⟩
  · rw [World.cell?_setCell_other _ _ _ _ (by simp), World.cell?_setCell_other _ _ _ _ (by simp), World.cell?_drew, World.cell?_setCell_other _ _ _ _ (by simp)]
    exact World.cell?_setCell_same _ _ _ q3
  · rw [World.cell?_setCell_other _ _ _ _ (fun e => ha (congrArg Addr.block e).symm), World.cell?_setCell_other _ _ _ _ (fun e => ha (congrArg Addr.block e).symm), World.cell?_drew, World.cell?_setCell_other _ _ _ _ (fun e => ha (congrArg Addr.block e).symm), World.cell?_setCell_other _ _ _ _ (fun e => ha (congrArg Addr.block e).symm)]
  · have k1 := KB.setCell b 1 w (.int .i32 1)
    rw [← hw1] at k1
    exact ((((((k1.trans (KB.below hI.below)).trans (KB.setCell b 3 _ _)).trans (KB.setCell b 4 _ _)).trans (KB.drew b _)).trans (KB.setCell b 0 _ _)).trans (KB.setCell b 1 _ _))
set_option maxRecDepth 100000 in
set_option maxHeartbeats 4000000 in
theorem replaceW (b r o c : Nat) (w : World) (s : List UInt8) (hs : s.length < 2 ^ 22) (hrb : r ≠ b)
    (h0 : w.cell? ⟨b, 0, none⟩ = some (.int .u32 0)) (h1 : w.cell? ⟨b, 1, none⟩ = some (.int .i32 0)) (h3 : w.cell? ⟨b, 3, none⟩ = some .nilIface) (h4 : w.cell? ⟨b, 4, none⟩ = some (.slice (some ⟨r, o, none⟩) 6 c))
    (fz : ∀ j, j < 5 → w.frozen? ⟨b, j, none⟩ = false)
    (s0 : w.cell? ⟨r, o, none⟩ = some (.string ⟨#[9]⟩)) (s1 : w.cell? ⟨r, o + 1, none⟩ = some (.string ⟨#[]⟩))
    (s2 : w.cell? ⟨r, o + 2, none⟩ = some (.string ⟨#[10]⟩)) (s3 : w.cell? ⟨r, o + 3, none⟩ = some (.string ⟨#[]⟩))
    (s4 : w.cell? ⟨r, o + 4, none⟩ = some (.string ⟨#[13]⟩)) (s5 : w.cell? ⟨r, o + 5, none⟩ = some (.string ⟨#[]⟩)) :
    Calls Tryz.prog 33 #[.pointer (some ⟨b, 0, none⟩), .string ⟨s.toArray⟩] w fun e w' => e = .returned (.string ⟨(filtU s).toArray⟩) ∧ KB b w w' := by
  have bl : b < w.heap.size := World.block_lt_of_cell? w _ h0
  have hmf : ∀ (fn : Fn) (first cap : Array Value) (w : World), (Instr.makeFunc fn first cap).run Tryz.prog w = .ok (.func fn first cap) w := fun _ _ _ _ => rfl
  obtain ⟨w1, hw1⟩ : ∃ w1, w1 = w.setCell ⟨b, 1, none⟩ (.int .i32 1) := ⟨_, rfl⟩
  have o1 : ∀ (a : Addr) (v : Value), a.block ≠ b ∨ a.off ≠ 1 → w.cell? a = some v → w1.cell? a = some v := fun a v ha hv => by
    rw [hw1, World.cell?_setCell_other _ _ _ _ (fun e => by subst e; simp at ha)]; exact hv
  have z1 : w1.heap.size = w.heap.size := by rw [hw1]; simp [World.setCell]
  have hbuild := build b r o c w1 (o1 _ _ (.inr (by simp)) h4) (o1 _ _ (.inl hrb) s0) (o1 _ _ (.inl hrb) s1) (o1 _ _ (.inl hrb) s2) (o1 _ _ (.inl hrb) s3) (o1 _ _ (.inl hrb) s4) (o1 _ _ (.inl hrb) s5)
  have hb2 := bOnce b w1 (fun g w2 => ∃ h, Inv w1 g h 3 3 w2) .nilIface _ (o1 _ _ (.inr (by simp)) h3) (o1 _ _ (.inr (by simp)) h4) (by rw [hw1, World.frozen?_setCell]; exact fz 3 (by omega)) (by rw [hw1, World.frozen?_setCell]; exact fz 4 (by omega))
    (fun g w2 ⟨h, hI⟩ => ⟨fun o => hI.below.cell (by show b < _; omega), fun o => below_frozen hI.below (by show b < _; omega)⟩)
    (hbuild.mono fun e w2 ⟨g, h, he, hI⟩ => ⟨g, he, h, hI⟩)
  have hfz1 : ∀ j, j < 5 → w1.frozen? ⟨b, j, none⟩ = false := fun j hj => by rw [hw1, World.frozen?_setCell]; exact fz j hj
  have honce := once b w (fun w3 => ∃ g w2, (∃ h, Inv w1 g h 3 3 w2) ∧ w3 = (w2.setCell ⟨b, 3, none⟩ (.iface 101 (.pointer (some ⟨g, 0, none⟩)))).setCell ⟨b, 4, none⟩ (.slice none 0 0)) h0 h1 (fz 1 (by omega))
    (fun w3 ⟨g, w2, ⟨h, hI⟩, e⟩ => by
      subst e
      have q0 : w2.cell? ⟨b, 0, none⟩ = some (.int .u32 0) := by rw [hI.below.cell (by show b < _; omega)]; exact o1 _ _ (.inr (by simp)) h0
      have q1 : w2.cell? ⟨b, 1, none⟩ = some (.int .i32 1) := by rw [hI.below.cell (by show b < _; omega), hw1]; exact World.cell?_setCell_same _ _ _ h1
      refine ⟨?_, ?_, ?_, ?_⟩
      · rw [World.cell?_setCell_other _ _ _ _ (by simp), World.cell?_setCell_other _ _ _ _ (by simp)]; exact q0
      · rw [World.cell?_setCell_other _ _ _ _ (by simp), World.cell?_setCell_other _ _ _ _ (by simp)]; exact q1
      · rw [World.frozen?_setCell, World.frozen?_setCell, below_frozen hI.below (by show b < _; omega)]; exact hfz1 0 (by omega)
      · rw [World.frozen?_setCell, World.frozen?_setCell, below_frozen hI.below (by show b < _; omega)]; exact hfz1 1 (by omega))
    (by rw [← hw1]; exact hb2.mono fun e w' ⟨he, g, w2, hr, e2⟩ => ⟨he, g, w2, hr, e2⟩)
  go_enter Tryz.func33, Tryz.ntmps33
  have hm : ∀ (g : Nat) (w : World), (method 282 101 (.pointer (some ⟨g, 0, none⟩)) "Replace").run Tryz.prog w = .ok (120, .pointer (some ⟨g, 0, none⟩)) w := fun _ _ => by kernel_rfl
  go_wp2_with (first | (go_at_call 41; refine honce.mono ?_; rintro e w4 ⟨rfl, w3, ⟨g, w2, ⟨h, hI⟩, rfl⟩, e4⟩; obtain ⟨F3, FO, FK⟩ := after hI hw1 bl h3 e4; clear e4) | (go_at_call 120; refine (repl g h w4 s hs (fun i hi => by
    obtain ⟨u, u1, u2⟩ := inv_rep hI i hi
    exact ⟨u, by rw [FO _ (by show g ≠ b; have := hI.hg; omega)]; exact u1, u2⟩) (by rw [FO _ (by show g ≠ b; have := hI.hg; omega)]; exact hI.to) (by rw [FO _ (by show h ≠ b; have := hI.hh; omega)]; exact (inv_txt hI).1) (by rw [FO _ (by show h ≠ b; have := hI.hh; omega)]; exact (inv_txt hI).2.1) (by rw [FO _ (by show h ≠ b; have := hI.hh; omega)]; exact (inv_txt hI).2.2)).mono ?_; rintro e w5 ⟨rfl, hb5⟩))
  go_ret
  exact ⟨rfl, FK.trans (KB.below hb5)⟩
def six : List (List D) := [[.str [9]], [.str []], [.str [10]], [.str []], [.str [13]], [.str []]]
def repH : Hp := [(0, .var 78 [.d (.int .u32 0), .d (.int .i32 0), .d (.int .u32 0), .nili, .full 1]), (1, .row 9 six)]
theorem replC (s : Str) (hs : s.length < 2 ^ 22) : CallWP Tryz.prog 33 [.ref 0 0 0, (.d (.str (s)))] repH (fun r h => r = (.d (.str (filtU s))) ∧ h = []) := by
  intro X O w θ vs h1 h2 h3 h4 h5 hG
  have ha := h2 0 _ rfl
  have hb := h2 1 _ rfl
  match vs, h1 with
  | ⟨[v, u]⟩, _ =>
    simp at ha hb
    cases hb with
    | d hb =>
      cases hb
      cases ha with
      | ref _ _ _ l hθ b hbl =>
        obtain ⟨l', hl', hob⟩ := h3.ob 0 _ rfl
        rw [hθ] at hl'; cases hl'
        obtain ⟨q1, q2, b', cs, fr, q3, q4, q5, q6, q7⟩ := hob
        rw [hbl] at q3; cases q3
        have hcs : cs.size = 5 := q6
        obtain ⟨v0, c0, r0⟩ := q7 0 _ rfl
        obtain ⟨v1, c1, r1⟩ := q7 1 _ rfl
        obtain ⟨v3, c3, r3⟩ := q7 3 _ rfl
        obtain ⟨v4, c4, r4⟩ := q7 4 _ rfl
        obtain rfl := r0.int_inv
        obtain rfl := r1.int_inv
        cases r3
        have cell : ∀ (j : Nat) (u : Value), cs[j]? = some u → w.cell? ⟨b, j, none⟩ = some u := fun j u hj => by
          unfold World.cell?
          simp only [q4, Option.isSome_none, Bool.false_eq_true, if_false]
          exact hj
        have froz : ∀ j, j < 5 → w.frozen? ⟨b, j, none⟩ = false := fun j hj => by
          unfold World.frozen?
          simp only [q4]
          have := q5 j (by omega)
          cases hd : (decide (fr.1 ≤ j) && decide (j < fr.2)) with
          | false => rfl
          | true => simp at hd; exact absurd hd this
        obtain ⟨l1, hl1, hob1⟩ := h3.ob 1 _ rfl
        obtain ⟨p1, p2, p3, p4⟩ := hob1
        have hz1 : l1.sz = 1 := p1.trans (by kernel_rfl)
        have hn6 : l1.len = 6 := p2
        have hbk := h3.rng 0 _ l b rfl hθ hbl
        have hlit : (⟨b, l.o0 + 0 * l.sz + 0, none⟩ : Addr) = ⟨b, 0, none⟩ := by rw [q2]; simp
        rw [hlit]
        cases r4 with
        | full0 _ l2 k1 k2 => rw [hl1] at k1; cases k1; omega
        | full _ l2 k1 rb cap k2 k3 k4 ad k5 k6 k7 =>
          rw [hl1] at k1; cases k1
          simp only [k2] at p4
          obtain ⟨cs1, fr1, m1, m2, m3, m4⟩ := p4
          have hne : rb ≠ b := fun e => by
            subst e
            have := h3.inj 0 1 _ _ l l1 rb rfl rfl hθ hl1 hbl k2
            omega
          have txt : ∀ (i : Nat) (y : Str), six[i]? = some [.str y] → w.cell? ⟨rb, l1.o0 + i, none⟩ = some (.string ⟨y.toArray⟩) := fun i y hy => by
            obtain ⟨u, u1, u2⟩ := m4 i 0 (.str y) (by rw [hy]; rfl)
            rw [hz1] at u1
            cases u2
            unfold World.cell?
            simp only [m1, Option.isSome_none, Bool.false_eq_true, if_false]
            simpa using u1
          have had : ad = ⟨rb, l1.o0, none⟩ := by
            have := k7 (by omega)
            cases ad
            simp at k5 k6 this
            simp [k5, k6, this]
          subst had
          rw [hn6] at c4
          refine (replaceW b rb l1.o0 cap w s hs hne (cell 0 _ c0) (cell 1 _ c1) (cell 3 _ c3) (cell 4 _ c4) froz (txt 0 [9] rfl) (txt 1 [] rfl) (txt 2 [10] rfl) (txt 3 [] rfl) (txt 4 [13] rfl) (txt 5 [] rfl)).mono fun e w' ⟨he, hw⟩ => ⟨_, _, [], θ, he, ⟨rfl, rfl⟩, fun _ _ h => h, .d (.str _), ⟨fun i o hi => by simp [look] at hi, fun i i' o1 o2 l1 l2 b hi => by simp [look] at hi, fun i o l b hi => by simp [look] at hi⟩, ?_⟩
          have hOb : O b := hbk.2.2.resolve_right (by have := hbk.1; omega)
          exact ⟨hw.os, hw.tape, hw.output, hw.size, fun k hk hno => hw.block k hk (fun e => hno (e ▸ hOb)), fun k cs e fr hc => by
            by_cases hkb : k = b
            · subst hkb; exact hw.shp cs e fr hc
            · have hlt : k < w.heap.size := by
                rcases Nat.lt_or_ge k w.heap.size with h4 | h4
                · exact h4
                · rw [Array.getElem?_eq_none h4] at hc; cases hc
              exact ⟨cs, fr, by rw [hw.block k hlt hkb]; exact hc, rfl⟩⟩
end Go.VL.ReplE
