/- tree.builder: one more, and a text that grows. -/
import Derived.Test.YtefgchjjnobhjaaDoorBtFind
set_option linter.unusedVariables false
set_option linter.unusedSimpArgs false
namespace Go.VL.BtB
open Go Go.Proofs Go.VL Go.RowKit Go.VL.BtA Go.VL.BtFind
set_option maxRecDepth 100000
theorem kidE_nil {es : List Ent} {q : Int} (h : ∀ (j : Nat) (e : Ent), es[j]? = some e → e.par ≠ q) : kidE es q = [] := by
  unfold kidE
  rw [List.filter_eq_nil_iff]
  intro k hk hp
  have hl := List.mem_range.1 hk
  obtain ⟨f, hf⟩ : ∃ f, es[k]? = some f := ⟨_, List.getElem?_eq_getElem hl⟩
  simp [parIs, hf] at hp
  exact h k f hf hp
section
variable {w W : World} {bb : Nat} {Q : List Rec} {s : List Nat} {vs : Value} {c : Int} {mute : Str}
theorem esQ_len (h : Q ≠ []) : (esQ Q).length + 1 = Q.length := by
  cases Q with
  | nil => exact absurd rfl h
  | cons a l => simp [esQ]
theorem esQ_more {k : Nat} {ra ra' n : Rec} (hk : Q[k]? = some ra) (he : ra'.e = ra.e) : esQ (Q.set k ra' ++ [n]) = esQ Q ++ [n.e] := by
  cases Q with
  | nil => cases hk
  | cons a l =>
    unfold esQ
    cases k with
    | zero => simp
    | succ k =>
      simp at hk
      have : (l.set k ra').map (·.e) = l.map (·.e) := by
        rw [List.map_set, he]
        apply List.ext_getElem?
        intro j
        rw [List.getElem?_set]
        by_cases e : k = j
        · subst e
          rw [if_pos rfl, if_pos (by simpa using (List.getElem?_eq_some_iff.1 hk).1)]
          simp [hk]
        · rw [if_neg e]
      simp [this]
theorem more_at {k j : Nat} {ra' n r : Rec} (hkl : k < Q.length) (h : (Q.set k ra' ++ [n])[j]? = some r) : (j = k ∧ r = ra') ∨ (j ≠ k ∧ j < Q.length ∧ Q[j]? = some r) ∨ (j = Q.length ∧ r = n) := by
  by_cases hj : j < Q.length
  · rw [List.getElem?_append_left (by simpa using hj), List.getElem?_set] at h
    by_cases e : k = j
    · subst e
      rw [if_pos rfl, if_pos hj] at h
      cases h
      exact .inl ⟨rfl, rfl⟩
    · rw [if_neg e] at h
      exact .inr (.inl ⟨fun e2 => e e2.symm, hj, h⟩)
  · rw [List.getElem?_append_right (by simpa using hj)] at h
    have : j - (Q.set k ra').length = 0 := by
      have := (List.getElem?_eq_some_iff.1 h).1
      simp at this
      simp; omega
    rw [this] at h
    simp at h
    exact .inr (.inr ⟨by simp at this; omega, h.symm⟩)
theorem ptrQ_more {k j : Nat} {ra ra' n : Rec} (hk : Q[k]? = some ra) (ho : ra'.o = ra.o) (hj : j < Q.length) : ptrQ (Q.set k ra' ++ [n]) j = ptrQ Q j := by
  unfold ptrQ
  rw [List.getElem?_append_left (by simpa using hj), List.getElem?_set]
  by_cases e : k = j
  · subst e
    rw [if_pos rfl, if_pos hj, hk]
    show ptrV ra'.o = ptrV ra.o
    rw [ho]
  · rw [if_neg e]
theorem ptrQ_new {k : Nat} {ra' n : Rec} : ptrQ (Q.set k ra' ++ [n]) Q.length = ptrV n.o := by
  unfold ptrQ
  rw [List.getElem?_append_right (by simp)]
  simp
theorem kidV_more {k j : Nat} {ra ra' n : Rec} (hk : Q[k]? = some ra) (he : ra'.e = ra.e) (ho : ra'.o = ra.o) : kidV (Q.set k ra' ++ [n]) j = kidV Q j ++ (if n.e.par = (j : Int) - 1 then [ptrV n.o] else []) := by
  have hl : Q ≠ [] := by rintro rfl; cases hk
  have hel := esQ_len hl
  unfold kidV
  rw [esQ_more hk he, kidE_snoc, List.map_append]
  congr 1
  · refine List.map_congr_left fun i hi => ?_
    have := (kidE_lt hi).1
    exact ptrQ_more hk ho (by omega)
  · split
    · simp only [List.map_cons, List.map_nil]
      rw [show (esQ Q).length + 1 = Q.length by omega, ptrQ_new]
    · rfl
/-- One more within the one at place k. -/
theorem _root_.Go.VL.BtA.Bt.part (h : Bt w bb Q s vs c mute W) {k : Nat} {ra n : Rec} {vp' : Value} {W2 : World} {o : Obj} (hk : Q[k]? = some ra) (hp : n.e.par = (k : Int) - 1) (hka : 1 ≤ k → ra.e.tx = false) (hne : (n.e.tx = true → n.e.name = [] ∧ n.e.attrs = []) ∧ (n.e.tx = false → n.e.text = [])) (hQ : Q.length ≤ 151)
    (hvn : n.vp = .slice none 0 0) (hno : W.heap[n.o]? = some (.cells #[npV n, .slice none 0 0, strV n.e.text, .bool (!n.e.tx)] 34 (0, 0))) (hnl : w.heap.size ≤ n.o) (hnf : ∀ (j : Nat) (r : Rec), Q[j]? = some r → r.o ≠ n.o)
    (hnn : n.e.tx = false → W.heap[n.nb]? = some (.cells #[strV n.e.name, n.va, strV [], .slice none 0 0] 47 (0, 0)) ∧ W.ownsRow w.heap.size 59 2 n.va n.e.attrs.length (acs n.e.attrs))
    (hr : W2.ownsRow w.heap.size 30 1 vp' ((kidV Q k).length + 1) (kidV Q k ++ [ptrV n.o])) (hg : (W.alloc o).grownBy W2 ra.vp.ownBlock) (hv : vp'.ownBlock = ra.vp.ownBlock ∨ ∃ b, vp'.ownBlock = some b ∧ W.heap.size < b) :
    Bt w bb (Q.set k { ra with vp := vp' } ++ [n]) s vs c mute (W2.setCell ⟨ra.o, 1, none⟩ vp') := by
  have hkl := (List.getElem?_eq_some_iff.1 hk).1
  have hq0 : Q ≠ [] := by rintro rfl; cases hk
  have hel := esQ_len hq0
  have hra := h.rk k ra hk
  -- the row's block
  have hrow : ∀ B, ra.vp.ownBlock = some B → ∃ cs, (W.alloc o).heap[B]? = some (.cells cs 30 (0, 0)) := fun B hB => own_typ (hra.row.alloc o) hB
  have ne1 : ∀ {b : Nat} {cs : Array Value} {t : TypeId} {fr : Nat × Nat}, W.heap[b]? = some (.cells cs t fr) → t ≠ 30 → W2.heap[b]? = some (.cells cs t fr) := fun {b cs t fr} hb ht => by
    refine keepO hg ((Below.heap_alloc W o b (lt_of hb)).trans hb) (fun e => ?_)
    obtain ⟨cs2, h2⟩ := hrow b e
    exact typ_ne ((Below.heap_alloc W o b (lt_of hb)).trans hb) h2 ht rfl
  have hro : W2.heap[ra.o]? = _ := ne1 hra.o (by decide)
  have hg2 := setCell_grown W2 ⟨ra.o, 1, none⟩ vp'
  have ne2 : ∀ {b : Nat} {cs : Array Value} {t : TypeId} {fr : Nat × Nat}, W.heap[b]? = some (.cells cs t fr) → t ≠ 30 → (t ≠ 34 ∨ b ≠ ra.o) → (W2.setCell ⟨ra.o, 1, none⟩ vp').heap[b]? = some (.cells cs t fr) := fun {b cs t fr} hb ht h3 => by
    refine keepO hg2 (ne1 hb ht) (fun e => ?_)
    cases e
    rcases h3 with h3 | h3
    · exact typ_ne (ne1 hb ht) hro h3 rfl
    · exact h3 rfl
  have row2 : ∀ {base : Nat} {e : TypeId} {size m : Nat} {v : Value} {xs : List Value}, W.ownsRow base e size v m xs → (v.ownBlock = none ∨ v.ownBlock ≠ ra.vp.ownBlock) → e ≠ 34 → (W2.setCell ⟨ra.o, 1, none⟩ vp').ownsRow base e size v m xs := fun {base e size m v xs} hx h2 h3 => by
    have hx2 := (hx.alloc o).kept hg h2
    exact hx2.kept hg2 (.inr (owns_ne hx2 hro (fun e2 => h3 e2.symm)))
  have rne : ∀ {base : Nat} {e : TypeId} {size m : Nat} {v : Value} {xs : List Value}, W.ownsRow base e size v m xs → e ≠ 30 → (v.ownBlock = none ∨ v.ownBlock ≠ ra.vp.ownBlock) := fun {base e size m v xs} hx he => by
    cases hv2 : ra.vp.ownBlock with
    | none => cases v.ownBlock <;> simp
    | some B =>
      obtain ⟨cs, hB⟩ := own_typ hra.row hv2
      exact .inr (owns_ne hx hB (fun e2 => he e2.symm))
  have hes := esQ_more (n := n) (ra' := { ra with vp := vp' }) hk rfl
  have hpar : ∀ (j : Nat) (e : Ent), (esQ Q)[j]? = some e → e.par < (esQ Q).length := fun j e he => by
    have := (h.wf.par j e he).2
    have := (List.getElem?_eq_some_iff.1 he).1
    omega
  refine ⟨?_, h.blo, ?_, fun j r hj => ?_, fun i j r r' hi hj hij => ?_, fun j r hj => ?_, ?_, ?_, ?_, by simp; omega, h.sl, ?_⟩
  · rw [ptrQ_more (ra' := { ra with vp := vp' }) hk rfl (by omega)]
    exact ne2 h.bld (by decide) (.inl (by decide))
  · have e : stkV (Q.set k { ra with vp := vp' } ++ [n]) s = stkV Q s := by
      unfold stkV
      refine List.map_congr_left fun x hx => ptrQ_more (ra' := { ra with vp := vp' }) hk rfl ?_
      rcases List.mem_cons.1 hx with rfl | hx
      · omega
      · obtain ⟨h1, e, he, _⟩ := h.ws x hx
        have := (List.getElem?_eq_some_iff.1 he).1
        omega
    rw [e]
    have hsp : vs.ownBlock = none ∨ vs.ownBlock ≠ ra.vp.ownBlock := by
      rcases h.seps k ra hk with h2 | h2
      · rw [h2]; cases vs.ownBlock <;> simp
      · exact .inr (fun e => h2 e.symm)
    exact row2 h.stk hsp (by decide)
  · rcases more_at hkl hj with ⟨rfl, rfl⟩ | ⟨hjk, hjl, hj⟩ | ⟨rfl, rfl⟩
    · refine ⟨?_, ?_, fun ht => ⟨ne2 (hra.nod ht).1 (by decide) (.inl (by decide)), row2 (hra.nod ht).2 (rne (hra.nod ht).2 (by decide)) (by decide)⟩, hra.lo⟩
      · show (W2.setCell ⟨ra.o, 1, none⟩ vp').heap[ra.o]? = _
        rw [setCell_at hro]; rfl
      · rw [kidV_more (ra' := { ra with vp := vp' }) hk rfl rfl, if_pos hp, List.length_append, List.length_singleton]
        exact hr.kept hg2 (.inr (owns_ne hr hro (by decide)))
    · have hrj := h.rk j r hj
      have hse := h.sep j k r ra hj hk hjk
      have hnk : n.e.par ≠ (j : Int) - 1 := by omega
      refine ⟨ne2 hrj.o (by decide) (.inr hse.1), ?_, fun ht => ⟨ne2 (hrj.nod ht).1 (by decide) (.inl (by decide)), row2 (hrj.nod ht).2 (rne (hrj.nod ht).2 (by decide)) (by decide)⟩, hrj.lo⟩
      rw [kidV_more (ra' := { ra with vp := vp' }) hk rfl rfl, if_neg hnk, List.append_nil]
      exact row2 hrj.row hse.2 (by decide)
    · refine ⟨?_, ?_, fun ht => ⟨ne2 (hnn ht).1 (by decide) (.inl (by decide)), row2 (hnn ht).2 (rne (hnn ht).2 (by decide)) (by decide)⟩, hnl⟩
      · rw [hvn]
        exact ne2 hno (by decide) (.inr (fun e => hnf k ra hk e.symm))
      · have e : kidV (Q.set k { ra with vp := vp' } ++ [r]) Q.length = [] := by
          rw [kidV_more (ra' := { ra with vp := vp' }) hk rfl rfl, if_neg (by omega), List.append_nil]
          unfold kidV
          rw [kidE_nil (fun j e he => by have := hpar j e he; omega)]; rfl
        rw [e, hvn]
        exact World.ownsRow_nil _ _ _ _
  · have hnew : ∀ (j : Nat) (r : Rec), Q[j]? = some r → j ≠ k → vp'.ownBlock = none ∨ vp'.ownBlock ≠ r.vp.ownBlock := fun j r hj hjk => by
      rcases hv with hv | ⟨b, hb, hlt⟩
      · rw [hv]
        rcases (h.sep k j ra r hk hj (fun e => hjk e.symm)).2 with h2 | h2
        · exact .inl h2
        · exact .inr h2
      · rw [hb]
        right
        intro e
        have := ((h.rk j r hj).row.lt b e.symm).2
        omega
    have sw : ∀ {a b : Option Nat}, (a = none ∨ a ≠ b) → (b = none ∨ b ≠ a) := fun {a b} hx => by
      rcases hx with rfl | hx
      · cases b <;> simp
      · exact .inr (fun e => hx e.symm)
    rcases more_at hkl hi with ⟨rfl, rfl⟩ | ⟨hik, hil, hiQ⟩ | ⟨rfl, rfl⟩ <;> rcases more_at hkl hj with ⟨rfl, rfl⟩ | ⟨hjk, hjl, hjQ⟩ | ⟨rfl, rfl⟩
    · exact absurd rfl hij
    · exact ⟨(h.sep _ _ ra _ hk hjQ hij).1, hnew j r' hjQ hjk⟩
    · exact ⟨hnf _ ra hk, by rw [hvn]; show vp'.ownBlock = none ∨ vp'.ownBlock ≠ none; cases vp'.ownBlock <;> simp⟩
    · exact ⟨(h.sep _ _ _ ra hiQ hk hij).1, sw (hnew i r hiQ hik)⟩
    · exact h.sep _ _ _ _ hiQ hjQ hij
    · exact ⟨hnf _ _ hiQ, by rw [hvn]; show r.vp.ownBlock = none ∨ r.vp.ownBlock ≠ none; cases r.vp.ownBlock <;> simp⟩
    · exact ⟨fun e => hnf _ ra hk e.symm, by rw [hvn]; exact .inl rfl⟩
    · exact ⟨fun e => hnf _ _ hjQ e.symm, by rw [hvn]; exact .inl rfl⟩
    · exact absurd rfl hij
  · rcases more_at hkl hj with ⟨rfl, rfl⟩ | ⟨hjk, hjl, hj⟩ | ⟨rfl, rfl⟩
    · rcases hv with hv | ⟨b, hb, hlt⟩
      · show vp'.ownBlock = none ∨ vp'.ownBlock ≠ _
        rw [hv]; exact h.seps _ _ hk
      · right
        show vp'.ownBlock ≠ _
        rw [hb]
        intro e
        have := (h.stk.lt b e.symm).2
        omega
    · exact h.seps _ _ hj
    · rw [hvn]; exact .inl rfl
  · obtain ⟨r0, h0, h1⟩ := h.root
    by_cases e : k = 0
    · subst e
      rw [hk] at h0
      cases h0
      exact ⟨{ ra with vp := vp' }, by rw [List.getElem?_append_left (by simpa using hkl), List.getElem?_set, if_pos rfl, if_pos hkl], h1⟩
    · exact ⟨r0, by rw [List.getElem?_append_left (by simp; omega), List.getElem?_set, if_neg e]; exact h0, h1⟩
  · rw [hes]
    refine h.wf.more ⟨by omega, by omega⟩ (fun hp0 => ?_) hne.1 hne.2
    have hk1 : 1 ≤ k := by omega
    refine ⟨ra.e, ?_, hka hk1⟩
    rw [show n.e.par.toNat = k - 1 by omega]
    exact esQ_of (by rw [show k - 1 + 1 = k by omega]; exact hk)
  · intro x hx
    obtain ⟨h1, e, he, ht⟩ := h.ws x hx
    exact ⟨h1, e, by rw [hes, List.getElem?_append_left (List.getElem?_eq_some_iff.1 he).1]; exact he, ht⟩
  · have hb2 : Below w.heap.size w W2 := (h.bel.alloc h.bel.size o).grown hg (by simp; have := h.bel.size; omega) (fun k e => (hra.row.lt k e).1)
    exact hb2.grown hg2 hb2.size (fun k e => by cases e; exact hra.lo)
theorem esQ_set {k : Nat} {r' : Rec} : esQ (Q.set (k + 1) r') = (esQ Q).set k r'.e := by
  cases Q with
  | nil => simp [esQ]
  | cons a l => simp [esQ, List.map_set]
theorem set_at {k j : Nat} {r' r : Rec} (hkl : k < Q.length) (h : (Q.set k r')[j]? = some r) : (j = k ∧ r = r') ∨ (j ≠ k ∧ Q[j]? = some r) := by
  rw [List.getElem?_set] at h
  by_cases e : k = j
  · subst e
    rw [if_pos rfl, if_pos hkl] at h
    cases h
    exact .inl ⟨rfl, rfl⟩
  · rw [if_neg e] at h
    exact .inr ⟨fun e2 => e e2.symm, h⟩
theorem ptrQ_set {k j : Nat} {r r' : Rec} (hk : Q[k]? = some r) (ho : r'.o = r.o) : ptrQ (Q.set k r') j = ptrQ Q j := by
  unfold ptrQ
  rw [List.getElem?_set]
  by_cases e : k = j
  · subst e
    rw [if_pos rfl, if_pos (List.getElem?_eq_some_iff.1 hk).1, hk]
    show ptrV r'.o = ptrV r.o
    rw [ho]
  · rw [if_neg e]
theorem kidV_set {k j : Nat} {r r' : Rec} (hk : Q[k + 1]? = some r) (ho : r'.o = r.o) (hp : r'.e.par = r.e.par) : kidV (Q.set (k + 1) r') j = kidV Q j := by
  unfold kidV
  rw [esQ_set, kidE_set _ _ _ _ _ (esQ_of hk) hp]
  exact List.map_congr_left fun i hi => ptrQ_set hk ho
/-- A text grows. -/
theorem _root_.Go.VL.BtA.Bt.text (h : Bt w bb Q s vs c mute W) {k : Nat} {r : Rec} (hk : Q[k + 1]? = some r) (ht : r.e.tx = true) (t : Str) :
    Bt w bb (Q.set (k + 1) { r with e := { r.e with text := t } }) s vs c mute (W.setCell ⟨r.o, 2, none⟩ (strV t)) := by
  have hkl := (List.getElem?_eq_some_iff.1 hk).1
  have hr := h.rk _ r hk
  have hg := setCell_grown W ⟨r.o, 2, none⟩ (strV t)
  have hP : ∀ j, ptrQ (Q.set (k + 1) { r with e := { r.e with text := t } }) j = ptrQ Q j := fun j => ptrQ_set hk rfl
  have hK : ∀ j, kidV (Q.set (k + 1) { r with e := { r.e with text := t } }) j = kidV Q j := fun j => kidV_set hk rfl rfl
  have ne2 : ∀ {b : Nat} {cs : Array Value} {t2 : TypeId} {fr : Nat × Nat}, W.heap[b]? = some (.cells cs t2 fr) → (t2 ≠ 34 ∨ b ≠ r.o) → (W.setCell ⟨r.o, 2, none⟩ (strV t)).heap[b]? = some (.cells cs t2 fr) := fun {b cs t2 fr} hb h3 => by
    refine keepO hg hb (fun e => ?_)
    cases e
    rcases h3 with h3 | h3
    · exact typ_ne hb hr.o h3 rfl
    · exact h3 rfl
  have row2 : ∀ {base : Nat} {e : TypeId} {size m : Nat} {v : Value} {xs : List Value}, W.ownsRow base e size v m xs → e ≠ 34 → (W.setCell ⟨r.o, 2, none⟩ (strV t)).ownsRow base e size v m xs := fun {base e size m v xs} hx h3 =>
    hx.kept hg (.inr (owns_ne hx hr.o (fun e2 => h3 e2.symm)))
  refine ⟨?_, h.blo, ?_, fun j q hj => ?_, fun i j q q' hi hj hij => ?_, fun j q hj => ?_, ?_, ?_, ?_, by simpa using h.len, h.sl, h.bel.grown hg h.bel.size (fun k e => by cases e; exact hr.lo)⟩
  · rw [hP]; exact ne2 h.bld (.inl (by decide))
  · have e : stkV (Q.set (k + 1) { r with e := { r.e with text := t } }) s = stkV Q s := List.map_congr_left fun x hx => hP x
    rw [e]; exact row2 h.stk (by decide)
  · rcases set_at hkl hj with ⟨rfl, rfl⟩ | ⟨hjk, hjQ⟩
    · refine ⟨?_, by rw [hK]; exact row2 hr.row (by decide), fun h2 => ?_, hr.lo⟩
      · show (W.setCell ⟨r.o, 2, none⟩ (strV t)).heap[r.o]? = _
        rw [setCell_at hr.o]; rfl
      · have h2 : r.e.tx = false := h2
        rw [ht] at h2; cases h2
    · have hq := h.rk j q hjQ
      exact ⟨ne2 hq.o (.inr (h.sep _ _ _ _ hjQ hk hjk).1), by rw [hK]; exact row2 hq.row (by decide), fun h2 => ⟨ne2 (hq.nod h2).1 (.inl (by decide)), row2 (hq.nod h2).2 (by decide)⟩, hq.lo⟩
  · rcases set_at hkl hi with ⟨rfl, rfl⟩ | ⟨hik, hiQ⟩ <;> rcases set_at hkl hj with ⟨rfl, rfl⟩ | ⟨hjk, hjQ⟩
    · exact absurd rfl hij
    · exact h.sep _ _ r _ hk hjQ hij
    · exact h.sep _ _ _ r hiQ hk hij
    · exact h.sep _ _ _ _ hiQ hjQ hij
  · rcases set_at hkl hj with ⟨rfl, rfl⟩ | ⟨hjk, hjQ⟩
    · exact h.seps _ r hk
    · exact h.seps _ _ hjQ
  · obtain ⟨r0, h0, h1⟩ := h.root
    exact ⟨r0, by rw [List.getElem?_set, if_neg (by omega)]; exact h0, h1⟩
  · rw [esQ_set]
    exact h.wf.set (esQ_of hk) ht t
  · intro x hx
    obtain ⟨h1, e, he, ht2⟩ := h.ws x hx
    refine ⟨h1, e, ?_, ht2⟩
    rw [esQ_set, List.getElem?_set, if_neg]
    · exact he
    · intro e2
      rw [← e2, esQ_of hk] at he
      cases he
      rw [ht] at ht2; cases ht2
end
end Go.VL.BtB
