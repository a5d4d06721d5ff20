/- Both machines answer alike. -/
import Derived.Test.YtkjiccficfcaeaaSameRef
import Derived.Test.YtkjiccficfcaeaaSame
set_option linter.unusedVariables false
set_option linter.unusedSimpArgs false
namespace Go.VL.SameLink
open Go Go.Proofs Go.VL Go.VL.May Go.VL.PairStep Go.VL.DistP Go.VL.SameR Go.VL.SameRef
set_option maxRecDepth 100000
theorem runW_mapI {σ τ : Type} {d : σ → Nat → σ} {e : τ → Nat → τ} {f : σ → τ} {I : σ → Prop} (hI : ∀ p c, I p → c < 8 → I (d p c)) (h : ∀ p c, I p → c < 8 → e (f p) c = f (d p c)) : ∀ (w : List Nat) (p : σ), I p → (∀ c ∈ w, c < 8) → runW e (f p) w = f (runW d p w) ∧ I (runW d p w)
  | [], p, hp, _ => ⟨rfl, hp⟩
  | c :: w, p, hp, hw => by
    have hc := hw c (by simp)
    rw [runW, runW, h p c hp hc]
    exact runW_mapI hI h w _ (hI p c hp hc) (fun x hx => hw x (by simp [hx]))
def emA (na : Nat) (p : Int) : Nat := if p < 0 then na else p.toNat
def emB (na nb : Nat) (p : Int) : Nat := na + 1 + (if p < 0 then nb else p.toNat)
def inA (na : Nat) (p : Int) : Prop := -1 ≤ p ∧ p < na
theorem dA_at {l : List (List Int)} {p : Int} {c : Nat} (h8 : ∀ r ∈ l, r.length = 8 ∧ ∀ x ∈ r, -1 ≤ x ∧ x < (l.length : Int)) (hp : inA l.length p) (hc : c < 8) : inA l.length (dA l p c) ∧
    ∃ row, (tot l)[emA l.length p]? = some row ∧ row[c]? = some ((emA l.length (dA l p c) : Nat) : Int) := by
  obtain ⟨p1, p2⟩ := hp
  by_cases h0 : p < 0
  · have e1 : dA l p c = -1 := by unfold dA; rw [if_neg (by omega)]
    have e2 : emA l.length p = l.length := by unfold emA; rw [if_pos h0]
    rw [e1, e2]
    refine ⟨⟨by omega, by omega⟩, List.replicate 8 (l.length : Int), ?_, ?_⟩
    · unfold tot
      rw [List.getElem?_append_right (by simp)]
      simp
    · rw [List.getElem?_replicate, if_pos hc]
      simp [emA]
  · obtain ⟨r, hr⟩ : ∃ r, l[p.toNat]? = some r := ⟨_, List.getElem?_eq_getElem (by omega)⟩
    obtain ⟨h81, hx⟩ := h8 r (List.mem_of_getElem? hr)
    obtain ⟨y, hy⟩ : ∃ y, r[c]? = some y := ⟨_, List.getElem?_eq_getElem (by omega)⟩
    have hyx := hx y (List.mem_of_getElem? hy)
    have e1 : dA l p c = y := by unfold dA; rw [if_pos (by omega), hr]; simp [hy]
    have e2 : emA l.length p = p.toNat := by unfold emA; rw [if_neg h0]
    rw [e1, e2]
    refine ⟨hyx, r.map (tx l.length), ?_, ?_⟩
    · unfold tot
      rw [List.getElem?_append_left (by simp; omega)]
      simp [hr]
    · rw [List.getElem?_map, hy]
      unfold emA tx
      simp only [Option.map_some, Option.some.injEq]
      split
      · rfl
      · omega
theorem fA_at {b : List Bool} {p : Int} (hp : inA b.length p) : (totF b)[emA b.length p]? = some (fA b p) := by
  obtain ⟨p1, p2⟩ := hp
  unfold totF emA fA
  by_cases h0 : p < 0
  · rw [if_pos h0, if_neg (by omega)]
    simp
  · rw [if_neg h0, if_pos (by omega), List.getElem?_append_left (by omega)]
    obtain ⟨x, hx⟩ : ∃ x, b[p.toNat]? = some x := ⟨_, List.getElem?_eq_getElem (by omega)⟩
    simp [hx]
theorem emA_lt {na : Nat} {p : Int} (hp : inA na p) : emA na p < na + 1 := by
  unfold emA
  obtain ⟨p1, p2⟩ := hp
  split <;> omega
section
variable {la lb : List (List Int)} {ba bb : List Bool}
theorem stepA (ha : ∀ r ∈ la, r.length = 8 ∧ ∀ x ∈ r, -1 ≤ x ∧ x < (la.length : Int)) {p : Int} {c : Nat} (hp : inA la.length p) (hc : c < 8) : dN (bn la lb (lb.length + 1)) (emA la.length p) c = emA la.length (dA la p c) := by
  obtain ⟨_, row, hr, hx⟩ := dA_at ha hp hc
  have hl := emA_lt hp
  unfold dN bn
  rw [List.getElem?_append_left (by rw [tot_len]; exact hl), hr]
  simp [hx]
theorem stepB (hb : ∀ r ∈ lb, r.length = 8 ∧ ∀ x ∈ r, -1 ≤ x ∧ x < (lb.length : Int)) {p : Int} {c : Nat} (hp : inA lb.length p) (hc : c < 8) : dN (bn la lb (lb.length + 1)) (emB la.length lb.length p) c = emB la.length lb.length (dA lb p c) := by
  obtain ⟨_, row, hr, hx⟩ := dA_at hb hp hc
  have hl := emA_lt hp
  have ee : ∀ q, emB la.length lb.length q = la.length + 1 + emA lb.length q := fun q => rfl
  rw [ee, ee]
  unfold dN bn
  rw [List.getElem?_append_right (by rw [tot_len]; omega), tot_len, List.getElem?_map, List.getElem?_take, if_pos (by omega), show la.length + 1 + emA lb.length p - (la.length + 1) = emA lb.length p by omega, hr]
  simp [hx, shift]
  omega
theorem finA {p : Int} (e : ba.length = la.length) (hp : inA la.length p) : fN (bf ba bb (lb.length + 1)) (emA la.length p) = fA ba p := by
  have hl := emA_lt hp
  rw [← e] at hp hl ⊢
  unfold fN bf
  rw [List.getElem?_append_left (by rw [totF_len]; exact hl), fA_at hp]
  rfl
theorem finB {p : Int} (e : ba.length = la.length) (e2 : bb.length = lb.length) (hp : inA lb.length p) : fN (bf ba bb (lb.length + 1)) (emB la.length lb.length p) = fA bb p := by
  have hl := emA_lt hp
  have ee : emB la.length lb.length p = la.length + 1 + emA lb.length p := rfl
  rw [ee]
  rw [← e2] at hp hl ⊢
  unfold fN bf
  rw [List.getElem?_append_right (by rw [totF_len]; omega), totF_len, List.getElem?_take, if_pos (by omega), show la.length + 1 + emA bb.length p - (ba.length + 1) = emA bb.length p by omega, fA_at hp]
  rfl
theorem link (ha : may la ba = true) (hb : may lb bb = true) : SameW (dN (bn la lb (lb.length + 1))) (dN (bn la lb (lb.length + 1))) (fN (bf ba bb (lb.length + 1))) (fN (bf ba bb (lb.length + 1))) 0 (la.length + 1) ↔ SameW (dA la) (dA lb) (fA ba) (fA bb) (0 : Int) (0 : Int) := by
  obtain ⟨a1, a2, a3, a4⟩ := may_row ha
  obtain ⟨b1, b2, b3, b4⟩ := may_row hb
  have key : ∀ w : List Nat, (∀ c ∈ w, c < 8) → (fN (bf ba bb (lb.length + 1)) (runW (dN (bn la lb (lb.length + 1))) 0 w) = fA ba (runW (dA la) 0 w)) ∧ (fN (bf ba bb (lb.length + 1)) (runW (dN (bn la lb (lb.length + 1))) (la.length + 1) w) = fA bb (runW (dA lb) 0 w)) := fun w hw => by
    obtain ⟨r1, i1⟩ := runW_mapI (d := dA la) (e := dN (bn la lb (lb.length + 1))) (f := emA la.length) (I := inA la.length) (fun p c hp hc => (dA_at a4 hp hc).1) (fun p c hp hc => stepA a4 hp hc) w 0 ⟨by omega, by omega⟩ hw
    obtain ⟨r2, i2⟩ := runW_mapI (d := dA lb) (e := dN (bn la lb (lb.length + 1))) (f := emB la.length lb.length) (I := inA lb.length) (fun p c hp hc => (dA_at b4 hp hc).1) (fun p c hp hc => stepB b4 hp hc) w 0 ⟨by omega, by omega⟩ hw
    have z1 : emA la.length 0 = 0 := rfl
    have z2 : emB la.length lb.length 0 = la.length + 1 := rfl
    rw [z1] at r1
    rw [z2] at r2
    rw [r1, r2]
    exact ⟨finA a3 i1, finB a3 b3 i2⟩
  constructor
  · intro hs w hw
    obtain ⟨k1, k2⟩ := key w hw
    rw [← k1, ← k2]; exact hs w hw
  · intro hs w hw
    obtain ⟨k1, k2⟩ := key w hw
    rw [k1, k2]; exact hs w hw
theorem same_eq : sameR la lb ba bb = Same.same la lb ba bb := by
  unfold sameR Same.same
  by_cases h : may la ba = true ∧ may lb bb = true
  · rw [if_pos h, if_pos h]
    have := link h.1 h.2
    unfold sameN Same.sameO
    exact Prod.ext (decide_eq_decide.2 this) rfl
  · rw [if_neg h, if_neg h]
end
end Go.VL.SameLink
