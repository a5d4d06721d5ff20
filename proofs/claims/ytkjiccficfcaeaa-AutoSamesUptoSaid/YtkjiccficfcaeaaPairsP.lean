/- auto.pairs, as a call. -/
import Derived.Test.YtkjiccficfcaeaaPairsRaw
set_option linter.unusedVariables false
set_option linter.unusedSimpArgs false
namespace Go.VL.PairsP
open Go Go.Proofs Go.VL Go.RowKit Go.Maps Go.VL.May Go.VL.MapPair Go.VL.PairStep Go.VL.PairsA Go.VL.PairsB Go.VL.PairsC Go.VL.PairsRaw
set_option maxRecDepth 100000
theorem HpS.nil {P : Program} {X O : Nat → Prop} {B : Nat} {θ : Th} {w : World} : HpS P X O B θ [] w :=
  ⟨fun i o hi => by simp [look] at hi, fun i i' o1 o2 l1 l2 b hi => by simp [look] at hi, fun i o l b hi => by simp [look] at hi⟩
theorem Below.kp {O : Nat → Prop} {w w' : World} (h : Below w.heap.size w w') : Kp O w w' :=
  ⟨h.os, h.tape, h.output, h.size, fun k hk _ => h.block k hk, fun b cs e fr hc => by
    have hlt := (Array.getElem?_eq_some_iff.1 hc).1
    exact ⟨cs, fr, by rw [h.block b hlt]; exact hc, rfl⟩⟩
theorem rep_pairs {W : World} {N : Nat → Prop} {base : Nat} {v : Value} {l : List (Int × Int)} (h : W.ownsRow base 37 2 v l.length (pcs2 l)) (hN : ∀ b, base ≤ b → b < W.heap.size → ¬ N b) : RepD W N v (.sl (l.map prD)) := by
  rcases h.2 with ⟨rfl, h0⟩ | ⟨g, cap, cur, rfl, h1, h2, h3, h4, h5, h6⟩
  · obtain rfl := List.length_eq_zero_iff.1 h0
    exact .nil
  · have hlt := (Array.getElem?_eq_some_iff.1 h2).1
    have hcur : ∀ k u, (pcs2 l)[k]? = some u → cur[k]? = some u := fun k u hk => by
      rw [← h6, List.getElem?_take] at hk
      split at hk
      · simpa using hk
      · cases hk
    have key : ∀ (i j : Nat) (x : D), (((l.map prD)[i]?).bind (·[j]?)) = some x → ∃ u, cur[i * 2 + j]? = some u ∧ RepD W N u x := by
      intro i j x hx
      rw [List.getElem?_map] at hx
      cases hp : l[i]? with
      | none => rw [hp] at hx; cases hx
      | some p =>
        rw [hp] at hx
        have hx : (prD p)[j]? = some x := hx
        match j, hx with
        | 0, hx => cases hx; exact ⟨_, hcur _ _ (pcs2_at hp).1, .int _ _⟩
        | 1, hx => cases hx; exact ⟨_, hcur _ _ (pcs2_at hp).2, .int _ _⟩
    have := RepD.sl (w := W) (N := N) ⟨g, 0, none⟩ (l.map prD) cap 2 (fun i j => cur.getD (i * 2 + j) undef) (by simpa using h3) (fun _ => ⟨rfl, hN g h1 hlt, hlt⟩) (fun e he => by
      simp at he; obtain ⟨a, b, _, rfl⟩ := he; rfl) (fun i j x hx => by
      obtain ⟨u, hu, _⟩ := key i j x hx
      simp [cellAt, World.cell?, h2, hu]) (fun i j x hx => by
      obtain ⟨u, hu, hr⟩ := key i j x hx
      simpa [hu] using hr)
    rw [List.length_map] at this
    exact this
theorem auto_inv {w : World} {N : Nat → Prop} {θ : Th} {v : Value} {la : List (List Int)} {ba : List Bool} (h : RepT w N θ v (.agg [.d (.sl (la.map iL)), .d (.sl (ba.map iB))])) : ∃ x y, v = .agg #[x, y] ∧ RepD w N x (.sl (la.map iL)) ∧ RepD w N y (.sl (ba.map iB)) := by
  cases h with
  | agg vs xs hl h =>
    match vs, hl with
    | ⟨[x, y]⟩, _ => exact ⟨x, y, rfl, (h 0 _ rfl).d_inv, (h 1 _ rfl).d_inv⟩
theorem two_inv {vs : Array Value} (h : vs.size = 2) : ∃ a b, vs = #[a, b] := by
  match vs, h with
  | ⟨[a, b]⟩, _ => exact ⟨a, b, rfl⟩
theorem stepV {la lb : List (List Int)} {ba bb : List Bool} {p : Int × Int} {c : Nat} {X O : Nat → Prop} {w W : World} {θ : Th} {x1 y1 x2 y2 : Value} (ha : ∀ r ∈ la, r.length = 8) (hb : ∀ r ∈ lb, r.length = 8) (r1 : RepD w (Nn X θ []) x1 (.sl (la.map iL))) (r2 : RepD w (Nn X θ []) y1 (.sl (ba.map iB))) (r3 : RepD w (Nn X θ []) x2 (.sl (lb.map iL))) (r4 : RepD w (Nn X θ []) y2 (.sl (bb.map iB)))
    (hG : GlobOK Try.prog X O w) (hB : Below w.heap.size w W) (hp : inR la.length lb.length p) (hc : c < 8) :
    Calls Try.prog 18 #[pv p, .agg #[x1, y1], .agg #[x2, y2], .int .i64 c] W (fun e W' => e = .returned (pv (dA la p.1 c, dA lb p.2 c)) ∧ Below W.heap.size W W') := by
  have hE : Ext w (Nn X θ []) W (Nn (fun _ => False) (fun _ => none) []) := ⟨hB.size, fun b hb _ => ⟨fun hn => (by rcases hn with h | ⟨_, _, _, h, _⟩; exact h; simp [look] at h), hB.block b hb⟩⟩
  have two : ∀ {u v : Value} {x y : T}, RepT W (Nn (fun _ => False) (fun _ => none) []) (fun _ => none) u x → RepT W (Nn (fun _ => False) (fun _ => none) []) (fun _ => none) v y → RepT W (Nn (fun _ => False) (fun _ => none) []) (fun _ => none) (.agg #[u, v]) (.agg [x, y]) := fun h1 h2 => .agg _ _ rfl fun i x hx => by
    match i, hx with
    | 0, hx => cases hx; exact h1
    | 1, hx => cases hx; exact h2
  refine (stepC la lb ba bb p.1 p.2 c hc hp.1.2 hp.2.2 ha hb hp.1.1 hp.2.1 (fun _ => False) (fun _ => False) W (fun _ => none) _ rfl (fun i y hy => ?_) HpS.nil (fun b hb => hb.elim) (fun _ _ => rfl) (hG.call (Below.kp hB) (fun b _ hx => hx.elim) (fun b _ hx => hx.elim))).mono ?_
  · match i, hy with
    | 0, hy => cases hy; exact two (.d (.int _ _)) (.d (.int _ _))
    | 1, hy => cases hy; exact two (.d (r1.ext hE)) (.d (r2.ext hE))
    | 2, hy => cases hy; exact two (.d (r3.ext hE)) (.d (r4.ext hE))
    | 3, hy => cases hy; exact .d (.int _ _)
  · rintro e W' ⟨u, r, h', θ', rfl, ⟨rfl, rfl⟩, _, hr, _, hk⟩
    cases hr with
    | agg vs xs hl h =>
      obtain ⟨a, b, rfl⟩ := two_inv hl
      have e0 := (h 0 _ rfl).d_inv
      have e1 := (h 1 _ rfl).d_inv
      simp at e0 e1
      cases e0; cases e1
      exact ⟨rfl, hk.os, hk.tape, hk.output, hk.size, fun k hk2 => hk.block k hk2 (fun h => h)⟩
theorem pairsC (la lb : List (List Int)) (ba bb : List Bool) (hla : 1 ≤ la.length ∧ la.length ≤ 40) (hlb : 1 ≤ lb.length ∧ lb.length ≤ 40) (ha : ∀ r ∈ la, r.length = 8 ∧ ∀ x ∈ r, -1 ≤ x ∧ x < (la.length : Int)) (hb : ∀ r ∈ lb, r.length = 8 ∧ ∀ x ∈ r, -1 ≤ x ∧ x < (lb.length : Int)) :
    CallWP Try.prog 7 [.agg [.d (.sl (la.map iL)), .d (.sl (ba.map iB))], .agg [.d (.sl (lb.map iL)), .d (.sl (bb.map iB))]] [] (fun r h => ∃ all : List (Int × Int), r = .tup [.d (.sl (all.map prD)), .dead] ∧ h = [] ∧ Met (dA la) (dA lb) (0 : Int) (0 : Int) all all.length 0 ∧ (∀ x ∈ all, inR la.length lb.length x) ∧ all.length ≤ 1681) := by
  intro X O w θ vs h1 h2 h3 h4 h5 hG
  obtain ⟨a, b, rfl⟩ := two_inv h1
  obtain ⟨x1, y1, e1, r1, r2⟩ := auto_inv (h2 0 _ rfl)
  obtain ⟨x2, y2, e2, r3, r4⟩ := auto_inv (h2 1 _ rfl)
  simp at e1 e2
  subst e1 e2
  refine (pairs_raw la lb x1 y1 x2 y2 w hla hlb ha hb (fun W p c hB hp hc => stepV (fun r hr => (ha r hr).1) (fun r hr => (hb r hr).1) r1 r2 r3 r4 hG hB hp hc)).mono ?_
  rintro e W ⟨all, va, vn, rfl, hP⟩
  have hf := few hP.nodup hP.inr
  have hm1 : (la.length + 1) * (lb.length + 1) ≤ 41 * 41 := Nat.mul_le_mul (by omega) (by omega)
  refine ⟨_, .tup [.d (.sl (all.map prD)), .dead], [], θ, rfl, ⟨all, rfl, rfl, hP.met, hP.inr, by omega⟩, fun _ _ h => h, .tup _ _ rfl (fun i x hx => ?_), HpS.nil, Below.kp hP.bel⟩
  match i, hx with
  | 0, hx => cases hx; exact .d (rep_pairs hP.row (fun b hb _ hn => by
      rcases hn with h | ⟨_, _, _, h, _⟩
      · have := h4 b h; omega
      · simp [look] at h))
  | 1, hx => cases hx; exact .dead _
end Go.VL.PairsP
