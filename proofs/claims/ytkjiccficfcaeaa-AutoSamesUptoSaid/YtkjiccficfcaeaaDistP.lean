/- The reference's table, as a call. -/
import Derived.Test.YtkjiccficfcaeaaDistRaw
import Derived.Test.YtkjiccficfcaeaaPairsP
set_option linter.unusedVariables false
set_option linter.unusedSimpArgs false
namespace Go.VL.DistP
open Go Go.Proofs Go.VL Go.VL.DistA Go.VL.DistRaw Go.VL.PairsP
set_option maxRecDepth 100000
def dN (N : List (List Int)) (i c : Nat) : Nat := ((N[i]?.getD [])[c]?.getD 0).toNat
def fN (F : List Bool) (i : Nat) : Bool := F[i]?.getD false
def rowB (n : Nat) (T : Nat → Nat → Bool) (i : Nat) : List Bool := (List.range n).map (T i)
def iBL (r : List Bool) : List D := [.sl (r.map iB)]
def tbl (n : Nat) (T : Nat → Nat → Bool) : List (List Bool) := (List.range n).map (rowB n T)
theorem sl_inv {w : World} {N : Nat → Prop} {v : Value} {es : List (List D)} {x : D} (h : RepD w N v (.sl es)) (h0 : es ≠ []) (h1 : ∀ e ∈ es, e.length = 1) : ∃ g o c, v = .slice (some ⟨g, o, none⟩) es.length c ∧ ∀ (i : Nat) (x : D), es[i]? = some [x] → ∃ u, w.cell? ⟨g, o + i, none⟩ = some u ∧ RepD w N u x := by
  cases h with
  | nil => exact absurd rfl h0
  | sl ad es cap sz c hl hb hs hc hr =>
    obtain ⟨g, o, sp⟩ := ad
    obtain ⟨rfl, _, _⟩ : sp = none ∧ _ := hb h0
    obtain ⟨e, he⟩ : ∃ e, e ∈ es := List.exists_mem_of_ne_nil _ h0
    have hz : sz = 1 := by rw [← hs e he, h1 e he]
    subst hz
    refine ⟨g, o, cap, rfl, fun i x hx => ?_⟩
    have hb2 : (es[i]?).bind (·[0]?) = some x := by rw [hx]; rfl
    have := hc i 0 x hb2
    simp only [Nat.mul_one, Nat.add_zero] at this
    exact ⟨_, this, hr i 0 x hb2⟩
theorem rep_tbl {w W : World} {vx vy : Value} {n : Nat} {T : Nat → Nat → Bool} {N : Nat → Prop} (h : Tb w vx vy n n T W) (hn : 1 ≤ n) (hN : ∀ b, w.heap.size ≤ b → b < W.heap.size → ¬ N b) : RepD W N (.slice (some ⟨w.heap.size + 1, 0, none⟩) n n) (.sl ((tbl n T).map iBL)) := by
  have hsz := h.size
  have hlen : ((tbl n T).map iBL).length = n := by simp [tbl]
  have hrow : ∀ i, i < n → RepD W N (.slice (some ⟨w.heap.size + 2 + i, 0, none⟩) n n) (.sl ((rowB n T i).map iB)) := fun i hi => by
    have hl : ((rowB n T i).map iB).length = n := by simp [rowB]
    have := RepD.sl (w := W) (N := N) ⟨w.heap.size + 2 + i, 0, none⟩ ((rowB n T i).map iB) n 1 (fun k _ => .bool (T i k)) (by omega) (fun _ => ⟨rfl, hN (w.heap.size + 2 + i) (by omega) (by omega), by show w.heap.size + 2 + i < _; omega⟩) (fun e he => by
      obtain ⟨a, _, rfl⟩ := List.mem_map.1 he; rfl) (fun k j x hx => by
      rw [List.getElem?_map] at hx
      by_cases hk : k < n
      · match j, hx with
        | 0, hx => simpa [cellAt] using h.t hi hk
        | j + 1, hx => simp [rowB, hk, iB] at hx
      · simp [rowB, hk] at hx) (fun k j x hx => by
      rw [List.getElem?_map] at hx
      by_cases hk : k < n
      · match j, hx with
        | 0, hx => simp [rowB, hk, iB] at hx; subst hx; exact .bool _
        | j + 1, hx => simp [rowB, hk, iB] at hx
      · simp [rowB, hk] at hx)
    rwa [hl] at this
  have := RepD.sl (w := W) (N := N) ⟨w.heap.size + 1, 0, none⟩ ((tbl n T).map iBL) n 1 (fun i _ => .slice (some ⟨w.heap.size + 2 + i, 0, none⟩) n n) (by omega) (fun _ => ⟨rfl, hN (w.heap.size + 1) (by omega) (by omega), by show w.heap.size + 1 < _; omega⟩) (fun e he => by
    obtain ⟨a, _, rfl⟩ := List.mem_map.1 he; rfl) (fun i j x hx => by
    rw [List.getElem?_map] at hx
    by_cases hk : i < n
    · match j, hx with
      | 0, hx => simpa [cellAt] using h.o hk hk
      | j + 1, hx => simp [tbl, hk, iBL] at hx
    · simp [tbl, hk] at hx) (fun i j x hx => by
    rw [List.getElem?_map] at hx
    by_cases hk : i < n
    · match j, hx with
      | 0, hx => simp [tbl, hk, iBL] at hx; subst hx; exact hrow i hk
      | j + 1, hx => simp [tbl, hk, iBL] at hx
    · simp [tbl, hk] at hx)
  rwa [hlen] at this
theorem one_agg {vs : Array Value} (h : vs.size = 1) : ∃ a, vs = #[a] := by
  match vs, h with
  | ⟨[a]⟩, _ => exact ⟨a, rfl⟩
theorem distC (N : List (List Int)) (F : List Bool) (hl : F.length = N.length) (h1 : 1 ≤ N.length ∧ N.length ≤ 1000) (h8 : ∀ r ∈ N, r.length = 8 ∧ ∀ x ∈ r, 0 ≤ x ∧ x < (N.length : Int)) :
    CallWP Try.prog 13 [.agg [.d (.sl (N.map iL)), .d (.sl (F.map iB))]] [] (fun r h => ∃ T : Nat → Nat → Bool, r = .d (.sl ((tbl N.length T).map iBL)) ∧ h = [] ∧ ∀ i k, i < N.length → k < N.length → (T i k = false ↔ SameW (dN N) (dN N) (fN F) (fN F) i k)) := by
  intro X O w θ vs k1 k2 k3 k4 k5 hG
  obtain ⟨a, rfl⟩ := one_agg k1
  obtain ⟨x1, y1, e1, r1, r2⟩ := auto_inv (k2 0 _ rfl)
  simp at e1
  subst e1
  have hN0 : N ≠ [] := by rintro rfl; simp at h1
  have hF0 : F ≠ [] := by rintro rfl; simp at hl; omega
  obtain ⟨gx, ox, cx, rfl, cN⟩ := sl_inv (x := .bool true) r1 (by simpa using hN0) (fun e he => by obtain ⟨a, _, rfl⟩ := List.mem_map.1 he; rfl)
  obtain ⟨gy, oy, cy, rfl, cF⟩ := sl_inv (x := .bool true) r2 (by simpa using hF0) (fun e he => by obtain ⟨a, _, rfl⟩ := List.mem_map.1 he; rfl)
  rw [List.length_map, List.length_map, hl]
  have hd : ∀ i c, i < N.length → c < 8 → dN N i c < N.length := fun i c hi hc => by
    have h := h8 _ (List.getElem_mem hi)
    have hx := h.2 _ (List.getElem_mem (show c < N[i].length by rw [h.1]; exact hc))
    simp [dN, hi, h.1, hc]; omega
  refine (dist_raw N.length h1.2 gx ox cx gy oy cy (dN N) (fN F) w hd (fun i hi => ?_) (fun i hi => ?_)).mono ?_
  · have h := h8 _ (List.getElem_mem hi)
    obtain ⟨u, hu, hr⟩ := cN i (.sl (N[i].map iI)) (by simp [hi, iL])
    obtain ⟨g, o, cp, rfl, cc⟩ := sl_inv (x := .bool true) hr (by intro e; have := congrArg List.length e; simp [h.1] at this) (fun e he => by obtain ⟨a, _, rfl⟩ := List.mem_map.1 he; rfl)
    refine ⟨g, o, cp, by rw [hu, List.length_map, h.1], fun c hc => ?_⟩
    obtain ⟨u, hu, hr⟩ := cc c (.int .i64 (N[i][c]'(by rw [h.1]; exact hc))) (by simp [h.1, hc, iI])
    cases hr
    rw [hu]
    have hx := h.2 _ (List.getElem_mem (show c < N[i].length by rw [h.1]; exact hc))
    have : ((dN N i c : Nat) : Int) = N[i][c]'(by rw [h.1]; exact hc) := by simp [dN, hi, h.1, hc]; omega
    rw [this]
  · obtain ⟨u, hu, hr⟩ := cF i (.bool (fN F i)) (by simp [hl, hi, iB, fN])
    cases hr
    exact hu
  · rintro e W ⟨T, rfl, hT, hA, hcl⟩
    refine ⟨_, .d (.sl ((tbl N.length T).map iBL)), [], θ, rfl, ⟨T, rfl, rfl, fun i k hi hk => hA.same hd hcl hi hk⟩, fun _ _ h => h, .d (rep_tbl hT h1.1 (fun b hb _ hn => by
      rcases hn with h | ⟨_, _, _, h, _⟩
      · have := k4 b h; omega
      · simp [look] at h)), HpS.nil, Below.kp ⟨hT.since.os, hT.since.tape, hT.since.output, hT.since.size, hT.since.block⟩⟩
end Go.VL.DistP
