/- bobbinetref.MarksNest as a rule. -/
import Derived.Test.YtpdieheihbdogaaDoorNestRaw
import Derived.Test.YtpdieheihbdogaaDoorNestP
import Derived.Test.YtpdieheihbdogaaDoorNodes
set_option linter.unusedVariables false
set_option linter.unusedSimpArgs false
namespace Go.VL.NestLaw
open Go Go.Proofs Go.VL Go.RowKit Go.VL.NestRaw
set_option maxRecDepth 100000
theorem below_kp {O : Nat → Prop} {w w' : World} (h : Below w.heap.size w w') : Kp O w w' :=
  ⟨h.os, h.tape, h.output, h.size, fun k hk _ => h.block k hk, fun b cs e fr hc => by
    have hlt := (Array.getElem?_eq_some_iff.1 hc).1
    exact ⟨cs, fr, by rw [h.block b hlt]; exact hc, rfl⟩⟩
theorem normA_zero {marks : List Str} {l : List Run} (h : (normA marks l).2 ≠ 0) : (normA marks l).1 = [] := by
  unfold normA at *
  split
  · rfl
  · rename_i h0
    rw [if_neg h0] at h
    unfold normF at *
    split
    · rename_i h1; rw [if_pos h1] at h; exact absurd rfl h
    · rfl
theorem nestR (marks : List Str) (l : List Run) (hm : marks.length < 2 ^ 39) (hmn : ∀ m ∈ marks, m.length < 2 ^ 40) (hl : l.length < 2 ^ 39) (ht : totM l < 2 ^ 40) (hn : ∀ r ∈ l, r.marks.length < 2 ^ 40) :
    CallWP Tryd.prog 5 [(.d (.sl (marks.map iS))), (.d (.sl (l.map Run.d)))] [] (fun r h => r = .tup [(.d (.sl (nds (nstV 0 (normA marks l).1)))), (.d (.int .i64 ((normA marks l).2)))] ∧ h = []) := by
  intro X O w θ vs h1 h2 h3 h4 h5 hG
  obtain ⟨s1, s2⟩ := normA_small marks l
  match vs, h1 with
  | ⟨[va, vb]⟩, h1 =>
    have hN : Calls Tryd.prog 9 #[va, vb] w fun e W => (∃ rv N, e = .returned (.tuple #[rv, .int .i64 (normA marks l).2]) ∧ RepD W N rv (.sl ((normA marks l).1.map Run.d))) ∧ Below w.heap.size w W := by
      have ha := h2 0 _ rfl
      have hb := h2 1 _ rfl
      refine (MarksRef.NormR marks l (by omega) hmn (by omega) ht hn (fun _ => False) (fun _ => False) w (fun _ => none) #[va, vb] rfl (fun i y hy => ?_) HpS.nil (fun b hb => hb.elim) (fun _ _ => rfl) (hG.call (Kp.refl _ _) (fun b _ hx => hx.elim) (fun b _ hx => hx.elim))).mono ?_
      · have hex : Ext w (Nn X θ []) w (Nn (fun _ => False) (fun _ => none) []) := ⟨Nat.le_refl _, fun b _ _ => ⟨fun h => by rcases h with h | ⟨_, _, _, h, _⟩; exact h; simp [look] at h, rfl⟩⟩
        match i, hy with
        | 0, hy => cases hy; exact .d (ha.d_inv.ext hex)
        | 1, hy => cases hy; exact .d (hb.d_inv.ext hex)
      · rintro e W ⟨v, r, h', θ', rfl, ⟨rfl, rfl⟩, _, hr, _, hk⟩
        refine ⟨?_, hk.os, hk.tape, hk.output, hk.size, fun k hk2 => hk.block k hk2 (fun h => h)⟩
        cases hr with
        | tup us xs hl2 hq =>
          have q0 := hq 0 _ rfl
          have q1 := hq 1 _ rfl
          match us, hl2 with
          | ⟨[u0, u1]⟩, _ =>
            cases q1 with
            | d q1 =>
              generalize (normA marks l).2 = code at *
              simp at q1
              cases q1
              exact ⟨u0, _, rfl, q0.d_inv⟩
    refine (nest_core va vb (normA marks l).1 (normA marks l).2 w hN normA_zero (by omega) (fun r hr => by have := s2 r hr; omega)).mono ?_
    rintro e W ⟨v, rfl, hb, hr⟩
    refine ⟨_, _, [], θ, rfl, ⟨rfl, rfl⟩, fun _ _ h => h, .tup _ _ rfl fun i x hx => ?_, HpS.nil, below_kp hb⟩
    match i, hx with
    | 0, hx =>
      cases hx
      exact .d (hr.ext ⟨Nat.le_refl _, fun b _ hnb => ⟨fun h => by
        rcases h with h | ⟨_, _, _, h, _⟩
        · exact hnb (h4 b h)
        · simp [look] at h, rfl⟩⟩)
    | 1, hx => cases hx; exact .d (.int _ _)
end Go.VL.NestLaw
