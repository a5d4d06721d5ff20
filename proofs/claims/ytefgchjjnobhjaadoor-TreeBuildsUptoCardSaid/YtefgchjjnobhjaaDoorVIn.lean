/- What a row's reading of an argument says of it. -/
import Derived.Test.YtefgchjjnobhjaaDoorVDr
import GoSem.ClaimChange
import Derived.DataReads
import Derived.ChangeReads
import Derived.ChangeArms
set_option linter.unusedVariables false
set_option linter.unusedSimpArgs false
namespace Go.VL
open Go Go.RowKit

mutual
def dOf {H : Type} : DataW H → List D
  | .lit (.bool b) => [.bool b]
  | .lit (.int k n) => [.int k n]
  | .lit (.string s) => [.str s]
  | .slice es _ => [.sl (dOfA es)]
  | .nil => [.sl []]
  | .agg ps => dOfF ps
  | _ => []
def dOfA {H : Type} : List (DataW H) → List (List D)
  | [] => []
  | d :: r => dOf d :: dOfA r
def dOfF {H : Type} : List (DataW H) → List D
  | [] => []
  | d :: r => dOf d ++ dOfF r
end

theorem dOfA_eq {H : Type} : ∀ l : List (DataW H), dOfA l = l.map dOf
  | [] => rfl
  | d :: r => by rw [dOfA, dOfA_eq r]; rfl
theorem dOfF_eq {H : Type} : ∀ l : List (DataW H), dOfF l = (l.map dOf).flatten
  | [] => rfl
  | d :: r => by rw [dOfF, dOfF_eq r]; rfl

/-- Data of a type. -/
inductive TyD (P : Program) : Nat → List D → Prop where
  | bool {t : Nat} (b : Bool) (h : P.underlying t = some .bool) : TyD P t [.bool b]
  | int {t : Nat} {k : IntKind} {n : Int} (h : P.underlying t = some (.int k)) (hr : InR k n) : TyD P t [.int k n]
  | str {t : Nat} {s : List UInt8} (h : P.underlying t = some .string) : TyD P t [.str s]
  | sl {t e : Nat} {es : List (List D)} (h : P.underlying t = some (.slice e)) (he : ∀ c, c ∈ es → TyD P e c) : TyD P t [.sl es]
  | st {t : Nat} {fs : Array Field} (h : P.underlying t = some (.struct fs)) (parts : List (List D)) (hl : parts.length = fs.size) (hp : ∀ (i : Nat) (f : Field) (c : List D), fs[i]? = some f → parts[i]? = some c → TyD P f.type c) : TyD P t parts.flatten

def seqB (P : Program) (S : List Nat) (tot : Nat) : Nat → List Field → Bool
  | o, [] => Nat.beq o tot
  | o, f :: r => Nat.beq f.offset o && memN S f.type && seqB P S tot (o + P.cellsOf f.type) r
def goodB (P : Program) (S : List Nat) (t : Nat) : Bool := match P.underlying t with
  | some .bool | some (.int _) | some .string => Nat.beq (P.cellsOf t) 1
  | some (.slice e) => memN S e && Nat.blt 0 (P.cellsOf e) && Nat.beq (P.cellsOf t) 1
  | some (.struct fs) => seqB P S (P.cellsOf t) 0 fs.toList
  | _ => false

theorem wf_InR {k : IntKind} {n : Int} (h : (Lit.int k n).wf = true) : InR k n := by
  cases k <;> simp [Lit.wf, IntKind.min, IntKind.max, IntKind.signed, IntKind.bits] at h <;> simp only [InR] <;> omega

variable {H : Type} {enc : TypeId × Value → H} {P : Program} {w : World} {sp : Nat → Bool}

/-- The reading's cells hold the data. -/
def Holds (w : World) (cs : List Value) (l : List D) : Prop := cs.length = l.length ∧ ∀ (j : Nat) (x : D), l[j]? = some x → ∃ u, cs[j]? = some u ∧ RepD w (fun _ => False) u x

theorem Holds.one {u : Value} {x : D} (h : RepD w (fun _ => False) u x) : Holds w [u] [x] := ⟨rfl, fun j y hy => by
  cases j with
  | zero => simp at hy; subst hy; exact ⟨u, rfl, h⟩
  | succ j => simp at hy⟩

theorem fields_rep {S : List Nat} {cs : List Value} {tot : Nat} (fuel : Nat) (hcs : cs.length = tot)
    (ih : ∀ t cs d ps, t ∈ S → DataW.trod enc P w 0 sp true fuel t cs = some (d, ps) → Holds w cs (dOf d) ∧ (dOf d).length = P.cellsOf t ∧ TyD P t (dOf d)) :
    ∀ (fs : List Field) (o : Nat) (xs : List (DataW H × List MemPlace)), seqB P S tot o fs = true → xs.length = fs.length → (∀ (i : Nat) (f : Field), fs[i]? = some f → DataW.trod enc P w 0 sp true fuel f.type ((cs.drop f.offset).take (P.cellsOf f.type)) = xs[i]?) →
      Holds w (cs.drop o) (dOfF (xs.map (·.1))) ∧ o + (dOfF (xs.map (·.1))).length = tot ∧ ∀ (i : Nat) (f : Field) (c : DataW H × List MemPlace), fs[i]? = some f → xs[i]? = some c → TyD P f.type (dOf c.1)
  | [], o, [], hs, hl, hm => by
    have : o = tot := Nat.eq_of_beq_eq_true hs
    subst this
    refine ⟨⟨by simp [dOfF, hcs], by simp [dOfF]⟩, by simp [dOfF], by simp⟩
  | f :: r, o, x :: ys, hs, hl, hm => by
    simp only [seqB, Bool.and_eq_true] at hs
    obtain ⟨⟨h1, h2⟩, h3⟩ := hs
    have ho := Nat.eq_of_beq_eq_true h1
    have hx := hm 0 f rfl
    simp only [List.getElem?_cons_zero] at hx
    obtain ⟨k1, k2, k3⟩ := ih f.type _ x.1 x.2 (memN_iff.mp h2) hx
    obtain ⟨q1, q2, q4⟩ := fields_rep fuel hcs ih r (o + P.cellsOf f.type) ys h3 (by simpa using hl) (fun i g hg => by simpa using hm (i + 1) g (by simpa using hg))
    rw [ho] at k1
    simp only [List.map_cons, dOfF]
    refine ⟨⟨?_, fun j y hy => ?_⟩, by rw [List.length_append, k2]; omega, fun i g c hg hc => ?_⟩
    · have := q1.1
      simp only [List.length_drop, List.length_append] at this ⊢
      omega
    · by_cases hj : j < (dOf x.1).length
      · rw [List.getElem?_append_left hj] at hy
        obtain ⟨u, u1, u2⟩ := k1.2 j y hy
        rw [List.getElem?_take] at u1
        split at u1
        · exact ⟨u, u1, u2⟩
        · cases u1
      · rw [List.getElem?_append_right (by omega)] at hy
        obtain ⟨u, u1, u2⟩ := q1.2 _ y hy
        rw [List.getElem?_drop] at u1
        rw [List.getElem?_drop]
        exact ⟨u, by rw [← u1]; congr 1; omega, u2⟩
    · cases i with
      | zero => simp at hg hc; subst hg; subst hc; exact k3
      | succ i => exact q4 i g c (by simpa using hg) (by simpa using hc)
  | [], _, _ :: _, _, hl, _ => by simp at hl
  | _ :: _, _, [], _, hl, _ => by simp at hl

theorem trod_rep {S : List Nat} (hS : ∀ t ∈ S, goodB P S t = true) : ∀ (fuel : Nat) (t : TypeId) (cs : List Value) (d : DataW H) (ps : List MemPlace), t ∈ S → DataW.trod enc P w 0 sp true fuel t cs = some (d, ps) →
    Holds w cs (dOf d) ∧ (dOf d).length = P.cellsOf t ∧ TyD P t (dOf d)
  | 0, _, _, _, _, _, h => by simp [DataW.trod] at h
  | fuel + 1, t, cs, d, ps, ht, h => by
    have hg := hS t ht
    unfold goodB at hg
    split at hg
    · rename_i hu
      obtain ⟨b, rfl, hx⟩ := DataW.trod_bool hu h
      cases hx
      exact ⟨Holds.one (.bool _), (Nat.eq_of_beq_eq_true hg).symm, .bool _ hu⟩
    · rename_i k hu
      obtain ⟨n, rfl, hx, hw⟩ := DataW.trod_int hu h
      cases hx
      exact ⟨Holds.one (.int _ _), (Nat.eq_of_beq_eq_true hg).symm, .int hu (wf_InR hw)⟩
    · rename_i hu
      obtain ⟨s, rfl, hx, _⟩ := DataW.trod_string hu h
      cases hx
      exact ⟨Holds.one (by have := RepD.str (w := w) (N := fun _ => False) s.data.toList; simpa using this), (Nat.eq_of_beq_eq_true hg).symm, .str hu⟩
    · rename_i e hu
      simp only [Bool.and_eq_true] at hg
      obtain ⟨⟨g1, g2⟩, g3⟩ := hg
      have g1 := memN_iff.mp g1
      have g2 := Nat.blt_eq.mp g2
      have g3 := Nat.eq_of_beq_eq_true g3
      rcases DataW.trod_slice hu h with ⟨rfl, hx⟩ | ⟨a, len, cap, elems, rest, n, hn, rfl, hx, hb1, hb2, hb3, hlen, hel0, _⟩
      · cases hx
        exact ⟨Holds.one .nil, g3.symm, .sl hu (by simp)⟩
      · cases hx
        obtain rfl : fuel = n := by omega
        have hel : ∀ (i : Nat) (x : DataW H × List MemPlace), elems[i]? = some x → ∃ ci, w.cells? 0 (a.add (i * P.cellsOf e)) (P.cellsOf e) = some ci ∧ DataW.trod enc P w 0 sp true fuel e ci = some (x.1, x.2) := fun i x hx => by
          have hi : i < len := by rw [← hlen]; exact (List.getElem?_eq_some_iff.mp hx).1
          have := hel0 i hi
          rw [hx] at this
          simpa [Option.bind_eq_some_iff] using this
        have hrep : ∀ (i : Nat) (x : DataW H × List MemPlace), elems[i]? = some x → ∃ ci, w.cells? 0 (a.add (i * P.cellsOf e)) (P.cellsOf e) = some ci ∧ Holds w ci (dOf x.1) ∧ (dOf x.1).length = P.cellsOf e ∧ TyD P e (dOf x.1) := fun i x hx => by
          obtain ⟨ci, c1, c2⟩ := hel i x hx
          exact ⟨ci, c1, trod_rep hS fuel e ci x.1 x.2 g1 c2⟩
        have hes : dOfA (elems.map (·.1)) = elems.map fun x => dOf x.1 := by rw [dOfA_eq, List.map_map]; rfl
        have hsp : elems ≠ [] → a.spot = none := fun hne => by
          obtain ⟨x, r, rfl⟩ := List.exists_cons_of_ne_nil hne
          obtain ⟨ci, c1, _⟩ := hrep 0 x rfl
          obtain ⟨_, c3, c4⟩ := World.cells?_some c1
          have := c4 0 g2
          have hc : w.cell? a ≠ none := by
            simp only [Nat.zero_mul, Addr.add, if_true] at this
            rw [this]
            simp [c3, g2]
          cases hs : a.spot with
          | none => rfl
          | some q =>
            exfalso; apply hc
            unfold World.cell?
            split <;> simp [hs]
        have hcell : ∀ (i j : Nat) (x : DataW H × List MemPlace), elems[i]? = some x → j < P.cellsOf e → ∀ ci, w.cells? 0 (a.add (i * P.cellsOf e)) (P.cellsOf e) = some ci → cellAt w a.block (a.off + i * P.cellsOf e + j) = ci[j]? := fun i j x hx hj ci c1 => by
          obtain ⟨_, c3, c4⟩ := World.cells?_some c1
          have hspn := hsp (by rintro rfl; simp at hx)
          rw [← c4 j hj]
          unfold cellAt
          obtain ⟨ab, ao, asp⟩ := a
          simp only at hspn
          subst hspn
          congr 1
          simp only [Addr.add]
          split <;> split <;> simp_all <;> omega
        refine ⟨Holds.one ?_, g3.symm, .sl hu ?_⟩
        · rw [hes]
          have hl2 : (elems.map fun x => dOf x.1).length = len := by simp [hlen]
          rw [← hl2]
          have hdec : ∀ (i j : Nat) (x : D), ((elems.map fun x => dOf x.1)[i]?).bind (·[j]?) = some x → ∃ u, cellAt w a.block (a.off + i * P.cellsOf e + j) = some u ∧ RepD w (fun _ => False) u x := fun i j x hx => by
            simp only [List.getElem?_map] at hx
            cases hi : elems[i]? with
            | none => simp [hi] at hx
            | some y =>
              simp [hi] at hx
              obtain ⟨ci, c1, c2, c3, c4⟩ := hrep i y hi
              obtain ⟨u, u1, u2⟩ := c2.2 j x hx
              have hj : j < P.cellsOf e := by rw [← c3]; exact (List.getElem?_eq_some_iff.mp hx).1
              exact ⟨u, by rw [hcell i j y hi hj ci c1]; exact u1, u2⟩
          refine .sl a _ cap (P.cellsOf e) (fun i j => (cellAt w a.block (a.off + i * P.cellsOf e + j)).getD undef) (by rw [hl2]; exact hb2) (fun hne => ?_) (fun c hc => ?_) (fun i j x hx => ?_) (fun i j x hx => ?_)
          · have hne' : elems ≠ [] := by rintro rfl; simp at hne
            refine ⟨hsp hne', fun h => h, ?_⟩
            obtain ⟨x, r, rfl⟩ := List.exists_cons_of_ne_nil hne'
            obtain ⟨ci, c1, _⟩ := hrep 0 x rfl
            have h1 := hcell 0 0 x rfl g2 ci c1
            obtain ⟨_, c3, _⟩ := World.cells?_some c1
            unfold cellAt World.cell? at h1
            have : ci[0]? ≠ none := by simp [c3, g2]
            refine Nat.lt_of_not_le fun hle => this ?_
            rw [← h1]
            simp [Array.getElem?_eq_none hle]
          · simp only [List.mem_map] at hc
            obtain ⟨y, hy, rfl⟩ := hc
            obtain ⟨i, hi⟩ := List.getElem?_of_mem hy
            obtain ⟨ci, c1, c2, c3, c4⟩ := hrep i y hi
            exact c3
          · obtain ⟨u, u1, u2⟩ := hdec i j x hx
            simp [u1]
          · obtain ⟨u, u1, u2⟩ := hdec i j x hx
            simp [u1, u2]
        · intro c hc
          rw [hes] at hc
          simp only [List.mem_map] at hc
          obtain ⟨y, hy, rfl⟩ := hc
          obtain ⟨i, hi⟩ := List.getElem?_of_mem hy
          obtain ⟨ci, c1, c2, c3, c4⟩ := hrep i y hi
          exact c4
    · rename_i fs hu
      obtain ⟨xs, n, hn, hx, hcs, hl, hm⟩ := DataW.trod_struct hu h
      cases hx
      obtain rfl : fuel = n := by omega
      obtain ⟨k1, k2, k4⟩ := fields_rep fuel hcs (fun t cs d ps ht h => trod_rep hS fuel t cs d ps ht h) fs.toList 0 xs hg (by simpa using hl) (fun i f hf => hm i f (by simpa using hf))
      simp only [dOf]
      refine ⟨by simpa using k1, by omega, ?_⟩
      rw [dOfF_eq]
      refine .st hu _ (by simp [hl]) fun i f c hf hc => ?_
      simp only [List.getElem?_map] at hc
      cases hx : xs[i]? with
      | none => simp [hx] at hc
      | some y =>
        simp [hx] at hc
        subst hc
        exact k4 i f y (by rw [Array.getElem?_toList]; exact hf) hx
    · cases hg
end Go.VL
