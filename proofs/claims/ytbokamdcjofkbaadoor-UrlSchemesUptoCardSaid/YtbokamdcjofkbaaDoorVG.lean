/- Reading and writing cells. -/
import Derived.Test.YtbokamdcjofkbaaDoorVF
import Derived.Laws.Cells
import Derived.Laws.IdiomCopy
set_option linter.unusedVariables false
set_option linter.unusedSimpArgs false
namespace Go.VL
open Go Go.RowKit

variable {P : Program} {X O : Nat → Prop} {w0 w w' : World} {θ θ' : Th} {st : St} {a : Act} {N : Nat → Prop}

theorem nth_eq {α : Type} : ∀ (l : List α) (n : Nat), nth l n = l[n]?
  | [], n => by simp [nth]
  | x :: r, 0 => by simp [nth]
  | x :: r, n + 1 => by simp [nth, nth_eq r n]
theorem dropN_eq {α : Type} : ∀ (l : List α) (n : Nat), dropN l n = l.drop n
  | [], 0 => by simp [dropN]
  | [], n + 1 => by simp [dropN]
  | x :: r, 0 => by simp [dropN]
  | x :: r, n + 1 => by simp [dropN, dropN_eq r n]
theorem takeN_eq {α : Type} : ∀ (l : List α) (n : Nat) (r : List α), takeN l n = some r → r = l.take n ∧ n ≤ l.length
  | [], 0, r, h => by simp [takeN] at h; simp [h]
  | x :: l, 0, r, h => by simp [takeN] at h; simp [h]
  | [], n + 1, r, h => by simp [takeN] at h
  | x :: l, n + 1, r, h => by
    simp only [takeN] at h
    cases hk : takeN l n with
    | none => simp [hk] at h
    | some r' =>
      simp [hk] at h
      obtain ⟨h1, h2⟩ := takeN_eq l n r' hk
      subst h
      exact ⟨by simp [h1], by simpa using h2⟩
theorem lay_eq {α : Type} : ∀ (xs : List α) (n : Nat) (ys r : List α), lay xs n ys = some r → r.length = xs.length ∧ (ys ≠ [] → n + ys.length ≤ xs.length) ∧ ∀ k, r[k]? = if n ≤ k ∧ k < n + ys.length then ys[k - n]? else xs[k]?
  | [], n, [], r, h => by simp [lay] at h; subst h; refine ⟨rfl, by simp, fun k => ?_⟩; rw [if_neg (fun hh => by simp at hh; omega)]
  | [], n, y :: ys, r, h => by simp [lay] at h
  | x :: xs, n, [], r, h => by simp [lay] at h; subst h; refine ⟨rfl, by simp, fun k => ?_⟩; rw [if_neg (fun hh => by simp at hh; omega)]
  | x :: xs, n + 1, y :: ys, r, h => by
    simp only [lay] at h
    cases hk : lay xs n (y :: ys) with
    | none => simp [hk] at h
    | some r' =>
      simp [hk] at h
      subst h
      obtain ⟨h1, h2, h3⟩ := lay_eq xs n (y :: ys) r' hk
      refine ⟨by simp [h1], fun _ => by have := h2 (by simp); simp at this ⊢; omega, fun k => ?_⟩
      cases k with
      | zero => simp
      | succ k =>
        simp only [List.getElem?_cons_succ, h3 k]
        by_cases hc : n ≤ k ∧ k < n + (y :: ys).length
        · rw [if_pos hc, if_pos (by omega), show k + 1 - (n + 1) = k - n by omega]
        · rw [if_neg hc, if_neg (by omega)]
  | x :: xs, 0, y :: ys, r, h => by
    simp only [lay] at h
    cases hk : lay xs 0 ys with
    | none => simp [hk] at h
    | some r' =>
      simp [hk] at h
      subst h
      obtain ⟨h1, h2, h3⟩ := lay_eq xs 0 ys r' hk
      refine ⟨by simp [h1], fun _ => ?_, fun k => ?_⟩
      · by_cases hy : ys = []
        · subst hy; simp
        · have := h2 hy; simp at this ⊢; omega
      · cases k with
        | zero => simp
        | succ k =>
          simp only [List.getElem?_cons_succ, h3 k]
          by_cases hc : k < ys.length
          · rw [if_pos (by omega), if_pos (by simp; omega)]; simp
          · rw [if_neg (by omega), if_neg (by simp; omega)]

theorem add_off (b o j : Nat) : (⟨b, o, none⟩ : Addr).add j = ⟨b, o + j, none⟩ := by unfold Addr.add; split <;> simp_all
theorem add_off' {ad : Addr} (h : ad.spot = none) (j : Nat) : ad.add j = ⟨ad.block, ad.off + j, none⟩ := by
  obtain ⟨b, o, s⟩ := ad
  simp only at h
  subst h
  exact add_off b o j

theorem RepD.one {v : Value} {x : D} (h : RepD w N v x) : v.oneCell' = true := by cases h <;> rfl
theorem RepT.one {v : Value} {x : T} (h : RepT w N θ v x) (hl : leafy x = true) : v.oneCell' = true := by
  cases h <;> first | rfl | (simp [leafy] at hl; done) | (rename_i h; exact h.one) | (rename_i h; rcases h with rfl | rfl <;> rfl)
theorem oneCell_cells {v : Value} (h : v.oneCell' = true) : v.cells = #[v] := by cases v <;> first | rfl | simp [Value.oneCell'] at h

/-- A variable's value out of its cells. -/
theorem ldT_sound {tab : Tab} (tk : TabOK P tab) {t : Nat} {cs : List T} {K : T → Prop} {ad : Addr} (hsp : ad.spot = none) (hc : ∀ (j : Nat) (x : T), cs[j]? = some x → ∃ u, cellAt w ad.block (ad.off + j) = some u ∧ RepT w N θ u x)
    (h : ldT tab t cs K) : ∃ u r, (loadVar t ad).run P w = .ok u w ∧ RepT w N θ u r ∧ K r := by
  unfold ldT at h
  cases ht : tab.ty t with
  | none => simp [ht] at h
  | some i =>
    simp only [ht] at h
    obtain ⟨info, d, i1, i2, i3, i4, _⟩ := tk.ty t i ht
    have hag := fits_agg i3
    cases ha : i.k.agg with
    | true =>
      simp only [ha] at h
      cases hk : takeN cs i.size with
      | none => simp [hk] at h
      | some l =>
        simp only [hk] at h
        obtain ⟨rfl, hlen⟩ := takeN_eq _ _ _ hk
        have hf : ∀ j, j < i.size → ∃ u, w.cell? (ad.add j) = some u ∧ ∀ x, cs[j]? = some x → RepT w N θ u x := fun j hj => by
          obtain ⟨u, u1, u2⟩ := hc j cs[j] (by simp)
          exact ⟨u, by rw [add_off' hsp]; exact u1, fun x hx => by rw [List.getElem?_eq_getElem (by omega)] at hx; cases hx; exact u2⟩
        have hl := run_loadCells (P := P) w ad i.size (fun j => (w.cell? (ad.add j)).getD undef) (fun j hj => by obtain ⟨u, u1, _⟩ := hf j hj; simp [u1])
        refine ⟨.agg ((List.range i.size).map fun j => (w.cell? (ad.add j)).getD undef).toArray, .agg (cs.take i.size), ?_, .agg _ _ ?_ ?_, h⟩
        · simp only [loadVar, Sem.run_bind, run_isAgg i2, Result.andThen_ok, hag, ha, if_true, run_sizeOf i1, i4, hl, Sem.run_pure]
        · simp; omega
        · intro j x hx
          rw [List.getElem?_take] at hx
          by_cases hj : j < i.size
          · rw [if_pos hj] at hx
            obtain ⟨u, u1, u2⟩ := hf j hj
            simp [hj, u1]
            exact u2 x hx
          · simp [hj] at hx
    | false =>
      simp only [ha] at h
      cases cs with
      | nil => exact h.elim
      | cons x r =>
        simp only at h
        obtain ⟨u, u1, u2⟩ := hc 0 x rfl
        refine ⟨u, x, ?_, u2, h⟩
        have : w.cell? ad = some u := by
          obtain ⟨b, o, s⟩ := ad; simp only at hsp; subst hsp; simpa [cellAt] using u1
        simp only [loadVar, Sem.run_bind, run_isAgg i2, Result.andThen_ok, hag, ha, Bool.false_eq_true, if_false, run_load, this]
theorem ldD_T {tab : Tab} {t : Nat} {cs : List D} {K : T → Prop} (h : ldD tab t cs K) : ldT tab t (cs.map T.d) K := by
  unfold ldD at h
  unfold ldT
  cases ht : tab.ty t with
  | none => simp [ht] at h
  | some i =>
    simp only [ht] at h ⊢
    cases ha : i.k.agg with
    | true =>
      simp only [ha] at h ⊢
      have : ∀ (cs : List D) (n : Nat), takeN (cs.map T.d) n = (takeN cs n).map (·.map T.d) := by
        intro cs
        induction cs with
        | nil => intro n; cases n <;> simp [takeN]
        | cons x r ih => intro n; cases n with
          | zero => simp [takeN]
          | succ n => simp only [List.map_cons, takeN, ih]; cases takeN r n <;> simp
      rw [this]
      cases hk : takeN cs i.size with
      | none => simp [hk] at h
      | some l => simpa [hk] using h
    | false =>
      simp only [ha] at h ⊢
      cases cs with
      | nil => exact h.elim
      | cons x r => exact h

theorem evLoad_sound {tab : Tab} (tk : TabOK P tab) (hp : HpS P X O w0.heap.size θ st.h w) {t : Nat} {v : Value} {x : T} {K : T → Prop} (hv : RepT w (Nn X θ st.h) θ v x) (h : evLoad tab t x st K) :
    ∃ u r, (Instr.loadAt t v).run P w = .ok u w ∧ RepT w (Nn X θ st.h) θ u r ∧ K r := by
  unfold evLoad at h
  split at h
  · rename_i x0 r0
    generalize hcs : x0 :: r0 = cs at *
    cases hv with
    | cref ad _ c hb hc hr =>
      obtain ⟨h1, h2, h3⟩ := hb (by rw [← hcs]; simp)
      have := ldT_sound (w := w) (N := Nn X θ st.h) (θ := θ) tk h1 (cs := cs.map T.d) (fun j x hx => by
        rw [List.getElem?_map] at hx
        cases hd : cs[j]? with
        | none => simp [hd] at hx
        | some d =>
          simp [hd] at hx
          subst hx
          exact ⟨c j, hc j d hd, .d (hr j d hd)⟩) (ldD_T h)
      simpa [Instr.loadAt, Instr.sureAddr] using this
  · rename_i id i o
    cases hv with
    | ref _ _ _ l hθ b hb =>
      cases hlk : look st.h id with
      | none => simp [hlk] at h
      | some ob =>
        obtain ⟨l', k1, k2⟩ := hp.ob id ob hlk
        rw [hθ] at k1; cases k1
        cases ob with
        | var ty cs =>
          simp only [hlk] at h
          cases hi : Nat.beq i 0 with
          | false => simp [hi] at h
          | true =>
            simp only [hi] at h
            obtain rfl := Nat.eq_of_beq_eq_true hi
            obtain ⟨z1, z2, b', vs, fr, m1, m2, m3, m4, m5⟩ := k2
            rw [hb] at m1; cases m1
            rw [dropN_eq] at h
            have := ldT_sound (w := w) (N := Nn X θ st.h) (θ := θ) tk (ad := ⟨b, l.o0 + 0 * l.sz + o, none⟩) rfl (cs := cs.drop o) (fun j x hx => by
              rw [List.getElem?_drop] at hx
              obtain ⟨u, u1, u2⟩ := m5 (o + j) x hx
              exact ⟨u, by simp [cellAt, World.cell?, m2, z2, u1], u2⟩) h
            simpa [Instr.loadAt, Instr.sureAddr] using this
        | row e es =>
          simp only [hlk] at h
          obtain ⟨hi, h⟩ := h
          have h : ldD tab t (dropN es[i] o) K := h es[i] (by simp [hi])
          obtain ⟨z1, z2, z3, z4⟩ := k2
          simp only [hb] at z4
          obtain ⟨cs, fr, m2, m3, m4, m5⟩ := z4
          rw [dropN_eq] at h
          have := ldT_sound (w := w) (N := Nn X θ st.h) (θ := θ) tk (ad := ⟨b, l.o0 + i * l.sz + o, none⟩) rfl (cs := (es[i].drop o).map T.d) (fun j x hx => by
            rw [List.getElem?_map, List.getElem?_drop] at hx
            cases hd : es[i][o + j]? with
            | none => simp [hd] at hx
            | some d =>
              simp [hd] at hx
              subst hx
              obtain ⟨u, u1, u2⟩ := m5 i (o + j) d (by simp [hi, hd])
              exact ⟨u, by simp [cellAt, World.cell?, m2]; rw [show l.o0 + i * l.sz + o + j = l.o0 + i * l.sz + (o + j) by omega]; exact u1, .d u2⟩) (ldD_T h)
          simpa [Instr.loadAt, Instr.sureAddr] using this
        | map es => simp [hlk] at h
        | iter s p => simp [hlk] at h
  · exact h.elim

/-- Only block b has turned, and it kept its size and type. -/
structure Wr (w : World) (b : Nat) (w' : World) : Prop where
  os : w'.os = w.os
  tape : w'.tape = w.tape
  output : w'.output = w.output
  size : w'.heap.size = w.heap.size
  other : ∀ c, c ≠ b → w'.heap[c]? = w.heap[c]?
  shp : Szp w w'

theorem Wr.kp {b B : Nat} (h : Wr w b w') (hb : O b ∨ B ≤ b) (hB : B = w0.heap.size) (hk : Kp O w0 w) : Kp O w0 w' :=
  hk.trans' (O' := fun c => c = b) ⟨h.os, h.tape, h.output, by rw [h.size]; exact Nat.le_refl _, fun c _ hc => h.other c hc, h.shp⟩ (fun c hc e => by
    subst e
    rcases hb with hb | hb
    · exact hb
    · omega)

theorem run_stores {b e : Nat} {cs : Array Value} {fr : Nat × Nat} : ∀ (vs : List Value) (o : Nat) (w : World), w.heap[b]? = some (.cells cs e fr) → nf fr cs.size → o + vs.length ≤ cs.size → (∀ v ∈ vs, v.oneCell' = true) →
    ∃ w', (storeCells ⟨b, o, none⟩ vs 0).run P w = .ok () w' ∧ Wr w b w' ∧ ∃ cs', w'.heap[b]? = some (.cells cs' e fr) ∧ cs'.size = cs.size ∧ ∀ k, cs'[k]? = if o ≤ k ∧ k < o + vs.length then vs[k - o]? else cs[k]? := by
  intro vs o w hb hnf hin h1
  have hrun := run_storeCells_cells (P := P) b o vs 0 w (fun j hj => by simp [World.cell?, hb]; omega) (fun j hj => by
    have := hnf (o + j) (by omega)
    obtain ⟨lo, hi⟩ := fr
    simp only [World.frozen?, hb, Nat.add_zero, Bool.and_eq_false_iff, decide_eq_false_iff_not]
    simp only at this
    omega) h1
  refine ⟨_, hrun, ?_⟩
  clear hrun
  simp only [Nat.add_zero]
  induction vs generalizing o w cs with
  | nil => exact ⟨⟨rfl, rfl, rfl, rfl, fun _ _ => rfl, Szp.refl w⟩, cs, hb, rfl, fun k => by rw [if_neg (fun hh => by simp at hh; omega)]⟩
  | cons v r ih =>
    simp only [World.setCells]
    have hb1 : (w.setCell ⟨b, o, none⟩ v).heap[b]? = some (.cells (cs.setIfInBounds o v) e fr) := by
      simp [World.setCell, Array.getElem?_modify, hb]
    obtain ⟨hw, cs', g1, g2, g3⟩ := ih (cs := cs.setIfInBounds o v) (o + 1) (w.setCell ⟨b, o, none⟩ v) hb1 (by simpa using hnf) (by simp at hin ⊢; omega) (fun x hx => h1 x (by simp [hx]))
    refine ⟨⟨hw.os, hw.tape, hw.output, by rw [hw.size]; simp, fun c hc => (hw.other c hc).trans (by simp [World.setCell, Array.getElem?_modify, Ne.symm hc]), ?_⟩, cs', g1, by rw [g2]; simp, fun k => ?_⟩
    · refine Szp.trans (w' := w.setCell ⟨b, o, none⟩ v) (fun c cs1 e1 fr1 h => ?_) hw.shp
      by_cases hc : c = b
      · subst hc
        rw [hb] at h; cases h
        exact ⟨_, _, hb1, by simp⟩
      · exact ⟨cs1, fr1, by simp only [World.setCell, Array.getElem?_modify]; rw [if_neg (Ne.symm hc)]; exact h, rfl⟩
    · rw [g3 k]
      by_cases h0 : k = o
      · subst h0
        rw [if_neg (by omega), if_pos (by simp)]
        simp at hin
        simp [Array.getElem?_setIfInBounds]
        omega
      · by_cases h2 : o + 1 ≤ k ∧ k < o + 1 + r.length
        · rw [if_pos h2, if_pos (by simp; omega)]
          obtain ⟨m, rfl⟩ : ∃ m, k = o + 1 + m := ⟨k - (o + 1), by omega⟩
          rw [show o + 1 + m - (o + 1) = m by omega, show o + 1 + m - o = m + 1 by omega]
          simp
        · rw [if_neg h2, if_neg (by simp; omega)]
          simp [Ne.symm h0]

theorem cells_len {v : Value} {x : T} {l : List T} (h : RepT w N θ v x) (hc : x.cells = some l) : v.cells.size = l.length ∧ ∀ (j : Nat) (y : T), l[j]? = some y → ∃ u, v.cells[j]? = some u ∧ RepT w N θ u y := by
  cases x with
  | agg xs =>
    cases h with
    | agg vs _ hl hx =>
      simp [T.cells] at hc; subst hc
      refine ⟨hl, fun j y hy => ⟨vs.getD j undef, ?_, hx j y hy⟩⟩
      have : j < vs.size := by rw [hl]; exact (List.getElem?_eq_some_iff.mp hy).1
      simp [Value.cells, this]
  | tup xs => simp [T.cells] at hc
  | dead => simp [T.cells] at hc
  | _ =>
    simp [T.cells] at hc
    subst hc
    have := oneCell_cells (h.one rfl)
    refine ⟨by rw [this]; rfl, fun j y hy => ⟨v, ?_, ?_⟩⟩
    · cases j with
      | zero => simp [this]
      | succ j => simp at hy
    · cases j with
      | zero => simp at hy; subst hy; exact h
      | succ j => simp at hy
end Go.VL
