/- strings.Builder's Grow, of a builder that nobody has written to. -/
import Derived.Test.YtekmfhoppbpobaaVBd
import Derived.Test.YtekmfhoppbpobaaVMv
set_option linter.unusedVariables false
set_option linter.unusedSimpArgs false
namespace Go.VL
open Go Go.RowKit Go.Shelf Go.Proofs
variable {P : Program} {ρ : Ren}

/-- As it was, but for the tape's place. -/
structure Sm (w W : World) : Prop where
  heap : W.heap = w.heap
  os : W.os = w.os
  tape : W.tape = w.tape
  output : W.output = w.output

set_option maxHeartbeats 2000000 in
set_option maxRecDepth 1000000 in
theorem grow_none (L : Lays.n241 P ρ) (X : Builder.Extra P ρ) (b n : Nat) (p : Value) (fr : Nat × Nat) (w : World) (hbk : w.heap[b]? = some (.cells #[p, .slice none 0 0] (ρ.t 72) fr)) (hnf : nf fr 2) (hn : n ≤ 281474976710656) :
    Calls P (ρ.f 241) #[.pointer (some ⟨b, 0, none⟩), .int .i64 n] w fun e w' => e = .returned (.tuple #[]) ∧ ∃ cs : Array Value, Sm ((w.setCell ⟨b, 1, none⟩ (.slice (some ⟨w.heap.size, 0, none⟩) 0 cs.size)).alloc (.cells cs (ρ.t 5))) w' := by
  obtain ⟨cs, hrun, hle, hmax⟩ := Lib.run_makeNoZero (P := P) w.drew #[(ρ.t 3)] (ρ.t 37) (ρ.t 5) L.t37 n hn
  have hw : IntKind.i64.wrap (IntKind.i64.wrap 0 + (n : Int)) = n := by
    rw [IntKind.wrap_i64, IntKind.wrap_i64]
    omega
  have hcall : (callFunc (ρ.f 277) #[.int .i64 (IntKind.i64.wrap (IntKind.i64.wrap 0 + (n : Int)))]).run P w.drew = .ok (.value (.slice (some ⟨w.drew.heap.size, 0, none⟩) n cs.size)) (w.drew.drew.drew.alloc (.cells cs (ρ.t 5))) := by
    rw [hw, run_callFunc_extern L.f277 (by kernel_rfl) (by kernel_rfl) (by kernel_rfl) (e := Extern.BytealgMakeNoZero.makeNoZero #[(ρ.t 3)] #[(ρ.t 37)]) (by kernel_rfl), hrun]
    rfl
  have hlt : b < w.heap.size := by
    rcases Nat.lt_or_ge b w.heap.size with h' | h'
    · exact h'
    · simp [Array.getElem?_eq_none h'] at hbk
  have c1 : w.drew.cell? ⟨b, 1, none⟩ = some (.slice none 0 0) := by
    have : w.drew.heap[b]? = _ := hbk
    rw [Lib.cell_of_heap this]; rfl
  have c2 : (w.alloc (.cells cs (ρ.t 5))).cell? ⟨b, 1, none⟩ = some (.slice none 0 0) := by
    have : (w.alloc (.cells cs (ρ.t 5))).heap[b]? = _ := (Lib.alloc_old w _ b hlt).trans hbk
    rw [Lib.cell_of_heap this]; rfl
  have f2 : (w.alloc (.cells cs (ρ.t 5))).frozen? ⟨b, 1, none⟩ = false := by
    have h1 : (w.alloc (.cells cs (ρ.t 5))).heap[b]? = _ := (Lib.alloc_old w _ b hlt).trans hbk
    have h2 := hnf 1 (by omega)
    obtain ⟨lo, hi⟩ := fr
    simp only [World.frozen?, h1, Bool.and_eq_false_iff, decide_eq_false_iff_not]
    simp only at h2
    omega
  have hcopy : ∀ W : World, (Builtin.copy_ #[(ρ.t 37), (ρ.t 37)] (ρ.t 3) #[.slice (some ⟨w.heap.size, 0, none⟩) 0 cs.size, .slice none 0 0]).run P W = .ok (goInt 0) W :=
    fun W => run_copy_none W (ρ.t 37) (ρ.t 37) (ρ.t 3) (ρ.t 5) _ _ 0 cs.size 0 0 L.t37 X.sizeByte rfl
  clear hw
  have mixed := L.mixed
  have t72 := L.t72; have a72 := L.a72; have z72 := L.z72; have v72 := L.v72; have u72 := run_underlying L.t72
  have t70 := L.t70; have a70 := L.a70; have z70 := L.z70; have v70 := L.v70; have u70 := run_underlying L.t70
  have t37 := L.t37; have a37 := L.a37; have z37 := L.z37; have v37 := L.v37; have u37 := run_underlying L.t37
  have t3 := L.t3; have a3 := L.a3; have z3 := L.z3; have v3 := L.v3; have u3 := run_underlying L.t3
  have t5 := X.t5; have a5 := X.a5; have z5 := X.z5; have v5 := X.v5; have u5 := run_underlying X.t5
  go_enter L.f241, Body.n241_ntmps ρ
  go_wp2
  go_region_o
  all_goals (go_wp2; go_end0; exact ⟨rfl, cs, ⟨rfl, rfl, rfl, rfl⟩⟩)

end Go.VL

/- What is behind strings.Builder's Grow. -/
namespace Go.VL
open Go Go.RowKit Go.Shelf Go.Proofs
variable {P : Program} {ρ : Ren}
/-- What is behind Grow, in words of the heap. -/
def GrowQ (b u : Nat) (w w' : World) : Prop := Sm (w.setCell ⟨b, 0, none⟩ (.pointer (some ⟨b, 0, none⟩))) w' ∨
  ∃ cs : Array Value, Sm (((w.setCell ⟨b, 0, none⟩ (.pointer (some ⟨b, 0, none⟩))).setCell ⟨b, 1, none⟩ (.slice (some ⟨w.heap.size, 0, none⟩) 0 cs.size)).alloc (.cells cs u)) w'

theorem HpS.two {X O : Nat → Prop} {W0 : Nat} {θ : Th} {l l1 : Lay} {b B u : Nat} {fr : Nat × Nat} {v : Value} {w' : World} (hθ : θ 0 = some l) (hl1 : l.sz = 0) (hl2 : l.o0 = 0) (hb : l.blk = some b)
    (hw : w'.heap[b]? = some (.cells #[.pointer (some ⟨b, 0, none⟩), v] B fr)) (hnf : nf fr 2) (hX : ¬ X b) (hO : O b)
    (hv : RepT w' (Nn X (θ.set 1 l1) [(0, .var B [.bs 0, .full 1]), (1, .row u [])]) (θ.set 1 l1) v (.full 1)) (hr : ObS P w' (Nn X (θ.set 1 l1) [(0, .var B [.bs 0, .full 1]), (1, .row u [])]) (θ.set 1 l1) l1 (.row u []))
    (hg : ∀ g, l1.blk = some g → g ≠ b ∧ g < w'.heap.size ∧ ¬ X g ∧ (O g ∨ W0 ≤ g)) : HpS P X O W0 (θ.set 1 l1) [(0, .var B [.bs 0, .full 1]), (1, .row u [])] w' := by
  have h0 : (θ.set 1 l1) 0 = some l := by simp [Th.set, hθ]
  have h1 : (θ.set 1 l1) 1 = some l1 := by simp [Th.set]
  have hlt : b < w'.heap.size := by
    rcases Nat.lt_or_ge b w'.heap.size with h' | h'
    · exact h'
    · simp [Array.getElem?_eq_none h'] at hw
  have key : ∀ {id : Nat} {ob : Ob}, look [(0, Ob.var B [.bs 0, .full 1]), (1, .row u [])] id = some ob → (id = 0 ∧ ob = .var B [.bs 0, .full 1]) ∨ (id = 1 ∧ ob = .row u []) := fun {id ob} h => by
    rw [look_cons] at h
    by_cases e : 0 = id
    · rw [if_pos e] at h; cases h; exact .inl ⟨e.symm, rfl⟩
    · rw [if_neg e, look_cons] at h
      by_cases e1 : 1 = id
      · rw [if_pos e1] at h; cases h; exact .inr ⟨e1.symm, rfl⟩
      · rw [if_neg e1] at h; simp [look] at h
  refine ⟨fun id ob hl => ?_, fun id id' ob ob' a a' c h2 h3 h4 h5 h6 h7 => ?_, fun id ob a c h2 h3 h4 => ?_⟩
  · rcases key hl with ⟨rfl, rfl⟩ | ⟨rfl, rfl⟩
    · refine ⟨l, h0, hl1, hl2, b, _, fr, hb, hw, by simpa using hnf, rfl, fun j x hx => ?_⟩
      match j, hx with
      | 0, hx => cases hx; exact ⟨.pointer (some ⟨b, 0, none⟩), by simp, .bs 0 _ l h0 b hb (.inr (by rw [hl2]))⟩
      | 1, hx => cases hx; exact ⟨_, rfl, hv⟩
      | j + 2, hx => simp at hx
    · exact ⟨l1, h1, hr⟩
  · rcases key h2 with ⟨rfl, _⟩ | ⟨rfl, _⟩ <;> rcases key h3 with ⟨rfl, _⟩ | ⟨rfl, _⟩
    · rfl
    · rw [h0] at h4; rw [h1] at h5; cases h4; cases h5
      rw [hb] at h6; cases h6
      exact absurd rfl (hg _ h7).1
    · rw [h1] at h4; rw [h0] at h5; cases h4; cases h5
      rw [hb] at h7; cases h7
      exact absurd rfl (hg _ h6).1
    · rfl
  · rcases key h2 with ⟨rfl, _⟩ | ⟨rfl, _⟩
    · rw [h0] at h3; cases h3
      rw [hb] at h4; cases h4
      exact ⟨hlt, hX, .inl hO⟩
    · rw [h1] at h3; cases h3
      exact (hg c h4).2
theorem Sm.kp {O : Nat → Prop} {w W W' : World} (h : Sm W W') (k : Kp O w W) : Kp O w W' :=
  ⟨h.os.trans k.os, h.tape.trans k.tape, h.output.trans k.output, by rw [h.heap]; exact k.size, fun b hb ho => by rw [h.heap]; exact k.block b hb ho, fun b cs e fr hb => by rw [h.heap]; exact k.shp b cs e fr hb⟩

theorem CallWP.growFresh (f B u : Nat) (hu1 : P.cellsOf u = 1) (n : Nat) (hrun : ∀ (b : Nat) (fr : Nat × Nat) (w : World), w.heap[b]? = some (.cells #[.pointer none, .slice none 0 0] B fr) → nf fr 2 →
      Calls P f #[.pointer (some ⟨b, 0, none⟩), .int .i64 n] w fun e w' => e = .returned (.tuple #[]) ∧ GrowQ b u w w') :
    CallWP P f [.ref 0 0 0, .d (.int .i64 n)] [(0, .var B [.nilp, .nils])] (fun q h => q = .tup [] ∧ h = [(0, .var B [.bs 0, .full 1]), (1, .row u [])]) := by
  intro X O w θ vs h1 h2 h3 h4 h5 hG
  have hlk : look [(0, Ob.var B [.nilp, .nils])] 0 = some (.var B [.nilp, .nils]) := rfl
  obtain ⟨l, hθ, hl1, hl2, b, cs, fr, hb, hw, hnf, hsz, hcs⟩ := h3.ob 0 _ hlk
  obtain ⟨u0, hu0, hr0⟩ := hcs 0 _ rfl
  obtain ⟨u1, hu1', hr1⟩ := hcs 1 _ rfl
  have hcs2 : cs = #[u0, u1] := by
    match cs, hsz, hu0, hu1' with
    | ⟨[x, y]⟩, _, a, b => simp at a b; simp [a, b]
    | ⟨[]⟩, h, _, _ => simp at h
    | ⟨[_]⟩, h, _, _ => simp at h
    | ⟨_ :: _ :: _ :: _⟩, h, _, _ => simp at h
  have e0 : u0 = .pointer none := by cases hr0; rfl
  have e1 : u1 = .slice none 0 0 := hr1.nils_inv
  subst hcs2; subst e0; subst e1
  have hv : vs = #[.pointer (some ⟨b, 0, none⟩), .int .i64 n] := by
    have q0 := h2 0 _ rfl
    have q1 := h2 1 _ rfl
    match vs, h1, q0, q1 with
    | ⟨[x, y]⟩, _, q0, q1 =>
      simp only [Array.getD, List.size_toArray, List.length_cons, List.length_nil] at q0 q1
      simp at q0 q1
      cases q1 with
      | d q1 =>
        cases q1
        cases q0 with
        | ref _ _ _ l' hθ' b' hb' =>
          rw [hθ] at hθ'; cases hθ'
          rw [hb] at hb'; cases hb'
          rw [hl1, hl2]
    | ⟨[]⟩, h, _, _ => simp at h
    | ⟨[_]⟩, h, _, _ => simp at h
    | ⟨_ :: _ :: _ :: _⟩, h, _, _ => simp at h
  subst hv
  have hlt : b < w.heap.size := (h3.rng 0 _ l b hlk hθ hb).1
  have hnX : ¬ X b := (h3.rng 0 _ l b hlk hθ hb).2.1
  have hO : O b ∨ w.heap.size ≤ b := (h3.rng 0 _ l b hlk hθ hb).2.2
  have hOb : O b := by rcases hO with h | h; exact h; omega
  have hθ1 : θ 1 = none := h5 1 (by simp [bndH, mxN, bndL, Ob.ids, idsL, T.ids])
  refine (hrun b fr w hw (by simpa using hnf)).mono fun e w' ⟨he, hcase⟩ => ?_
  obtain ⟨hwr, hwb⟩ := setCell_wr (o := 0) (.pointer (some ⟨b, 0, none⟩)) hw
  have hkp1 : Kp O w (w.setCell ⟨b, 0, none⟩ (.pointer (some ⟨b, 0, none⟩))) := hwr.kp hO rfl (Kp.refl O w)
  have hnf2 : nf fr 2 := by simpa using hnf
  rcases hcase with hs | ⟨cs, hs⟩
  · have hwb' : w'.heap[b]? = some (.cells #[.pointer (some ⟨b, 0, none⟩), .slice none 0 0] B fr) := by rw [hs.heap]; simpa using hwb
    have hz : P.cellsOf u = 1 := hu1
    refine ⟨.tuple #[], .tup [], _, θ.set 1 ⟨none, 0, 1, 0⟩, he, ⟨rfl, rfl⟩, fun id l hl => Th.set_sub hθ1 id l hl, .tup #[] [] rfl (fun i x hx => by simp at hx), ?_, hs.kp hkp1⟩
    exact HpS.two hθ hl1 hl2 hb hwb' hnf2 hnX hOb (.full0 1 _ (Th.set_self _ _ _) rfl) ⟨hz.symm, rfl, by simp, rfl⟩ (fun g hg => by cases hg)
  · obtain ⟨hwr2, hwb2⟩ := setCell_wr (o := 1) (.slice (some ⟨w.heap.size, 0, none⟩) 0 cs.size) hwb
    have hsz2 : ((w.setCell ⟨b, 0, none⟩ (.pointer (some ⟨b, 0, none⟩))).setCell ⟨b, 1, none⟩ (.slice (some ⟨w.heap.size, 0, none⟩) 0 cs.size)).heap.size = w.heap.size := by rw [hwr2.size, hwr.size]
    have hkp2 := (hwr2.kp hO rfl hkp1).trans (Kp.alloc (O := O) _ (.cells cs u))
    have hwb' : w'.heap[b]? = some (.cells #[.pointer (some ⟨b, 0, none⟩), .slice (some ⟨w.heap.size, 0, none⟩) 0 cs.size] B fr) := by
      rw [hs.heap, alloc_heap, hsz2, if_neg (by omega), hwb2]; simp
    have hnew : w'.heap[w.heap.size]? = some (.cells cs u (0, 0)) := by rw [hs.heap, alloc_heap, hsz2, if_pos rfl]
    have hlt' : w.heap.size < w'.heap.size := by
      rcases Nat.lt_or_ge w.heap.size w'.heap.size with h' | h'
      · exact h'
      · simp [Array.getElem?_eq_none h'] at hnew
    have hz : P.cellsOf u = 1 := hu1
    refine ⟨.tuple #[], .tup [], _, θ.set 1 ⟨some w.heap.size, 0, 1, 0⟩, he, ⟨rfl, rfl⟩, fun id l hl => Th.set_sub hθ1 id l hl, .tup #[] [] rfl (fun i x hx => by simp at hx), ?_, hs.kp hkp2⟩
    refine HpS.two hθ hl1 hl2 hb hwb' hnf2 hnX hOb (.full 1 _ (Th.set_self _ _ _) w.heap.size cs.size rfl (Nat.zero_le _) ⟨cs, u, (0, 0), hnew, by simp⟩ _ rfl rfl (fun _ => rfl))
      ⟨hz.symm, rfl, by simp, cs, (0, 0), hnew, fun o _ => by simp, by simp, by simp⟩ (fun g hg => by
        cases hg
        exact ⟨by omega, hlt', fun hx => by have := h4 _ hx; omega, .inr (Nat.le_refl _)⟩)
end Go.VL
