/- Places, parts, cuts. -/
import Derived.Test.YtbokamdcjofkbaaDoorVH
set_option linter.unusedVariables false
set_option linter.unusedSimpArgs false
namespace Go.VL
open Go Go.RowKit

variable {P : Program} {X O : Nat → Prop} {w0 w w' : World} {θ θ' : Th} {st : St} {a : Act} {N : Nat → Prop}

theorem Tab.slice_of {tab : Tab} (tk : TabOK P tab) {t e : Nat} {i : TyI} (ht : tab.ty t = some i) (hk : i.k = .slice e) : P.underlying t = some (.slice e) := by
  obtain ⟨info, d, i1, i2, i3, _⟩ := tk.ty t i ht
  rw [hk] at i3
  cases d <;> simp [fitsK] at i3
  rw [i2, i3]
theorem Tab.str_of {tab : Tab} (tk : TabOK P tab) {t : Nat} {i : TyI} (ht : tab.ty t = some i) (hk : i.k = .str) : P.underlying t = some .string := by
  obtain ⟨info, d, i1, i2, i3, _⟩ := tk.ty t i ht
  rw [hk] at i3
  cases d <;> simp [fitsK] at i3
  exact i2
theorem Tab.int_of {tab : Tab} (tk : TabOK P tab) {t : Nat} {i : TyI} {k : IntKind} (ht : tab.ty t = some i) (hk : i.k = .int k) : P.underlying t = some (.int k) := by
  obtain ⟨info, d, i1, i2, i3, _⟩ := tk.ty t i ht
  rw [hk] at i3
  cases d <;> simp [fitsK] at i3
  rw [i2, kq_iff.mp i3]
theorem Tab.array_of {tab : Tab} (tk : TabOK P tab) {t n e : Nat} {i : TyI} (ht : tab.ty t = some i) (hk : i.k = .array n e) : P.underlying t = some (.array n e) := by
  obtain ⟨info, d, i1, i2, i3, _⟩ := tk.ty t i ht
  rw [hk] at i3
  cases d <;> simp [fitsK] at i3
  rw [i2, i3.1, i3.2]
theorem Tab.ptr_of {tab : Tab} (tk : TabOK P tab) {t e : Nat} {i : TyI} (ht : tab.ty t = some i) (hk : i.k = .ptr e) : P.underlying t = some (.pointer e) := by
  obtain ⟨info, d, i1, i2, i3, _⟩ := tk.ty t i ht
  rw [hk] at i3
  cases d <;> simp [fitsK] at i3
  rw [i2, i3]
theorem Tab.map_of {tab : Tab} (tk : TabOK P tab) {t k e : Nat} {i : TyI} (ht : tab.ty t = some i) (hk : i.k = .map k e) : P.underlying t = some (.map k e) := by
  obtain ⟨info, d, i1, i2, i3, _⟩ := tk.ty t i ht
  rw [hk] at i3
  cases d <;> simp [fitsK] at i3
  rw [i2, i3.1, i3.2]
theorem Tab.struct_of {tab : Tab} (tk : TabOK P tab) {t : Nat} {i : TyI} {fs : List (Nat × Nat)} (ht : tab.ty t = some i) (hk : i.k = .struct fs) :
    ∃ fields : Array Field, P.underlying t = some (.struct fields) ∧ ∀ (n : Nat) (o ft : Nat), nth fs n = some (o, ft) → ∃ g, fields[n]? = some g ∧ g.offset = o ∧ g.type = ft := by
  obtain ⟨info, d, i1, i2, i3, _⟩ := tk.ty t i ht
  rw [hk] at i3
  cases d with
  | struct fields =>
    simp only [fitsK, decide_eq_true_eq] at i3
    refine ⟨fields, i2, fun n o ft hn => ?_⟩
    rw [nth_eq, i3, List.getElem?_map] at hn
    cases hg : fields[n]? with
    | none => simp [hg] at hn
    | some g => simp [hg] at hn; exact ⟨g, rfl, hn.1, hn.2⟩
  | _ => simp [fitsK] at i3

theorem cellsOf_eq {tab : Tab} (tk : TabOK P tab) {t : Nat} {i : TyI} (ht : tab.ty t = some i) : P.cellsOf t = i.size := by
  obtain ⟨info, d, i1, i2, i3, i4, _⟩ := tk.ty t i ht
  simp [Program.cellsOf, i1, i4]

theorem evIndex_sound {tab : Tab} (tk : TabOK P tab) (hp : HpS P X O w0.heap.size θ st.h w) {t e : Nat} {ti : TyI} (ht : tab.ty t = some ti) (hk : ti.k = .slice e) {v vi : Value} {x ix : T} {K : T → Prop}
    (hv : RepT w (Nn X θ st.h) θ v x) (hvi : RepT w (Nn X θ st.h) θ vi ix) (h : evIndex tab e x ix st K) : ∃ u r, (Instr.indexAt t v vi).run P w = .ok u w ∧ RepT w (Nn X θ st.h) θ u r ∧ K r := by
  have hu := tab.slice_of tk ht hk
  unfold evIndex at h
  split at h
  case h_2 => exact h.elim
  rename_i k i y0 hy0
  obtain ⟨info0, d0, i10, _⟩ := tk.ty e y0 hy0
  obtain rfl := hvi.int_inv
  have hrun : ∀ {ad : Addr} {n cap : Nat} {info : TypeInfo}, P.info? e = some info → 0 ≤ i → i < n → (Instr.indexAt t (.slice (some ad) n cap) (.int k i)).run P w = .ok (.pointer (some (ad.add (i.toNat * info.size)))) w := by
    intro ad n cap info hi h0 h1
    have hc : 0 ≤ i ∧ i < (n : Int) := ⟨h0, h1⟩
    simp only [Instr.indexAt, asIntOf, pure_bind, Sem.run_bind, run_underlying' hu, Result.andThen_ok, if_pos hc, run_sizeOf hi, Sem.run_pure]
  split at h
  · rename_i es
    obtain ⟨⟨h0, h1⟩, h⟩ := h
    have hlt : i.toNat < es.length := by omega
    have h := h es[i.toNat] (by simp [hlt])
    cases hv with
    | d hv =>
      cases hv with
      | nil => simp at h1; omega
      | sl ad _ cap sz c hl hb hs hc hr =>
        have hne : es ≠ [] := by rintro rfl; simp at hlt
        obtain ⟨b1, b2, b3⟩ := hb hne
        cases hy : tab.ty e with
        | none => simp [hy] at h
        | some y =>
          simp only [hy] at h
          obtain ⟨hz, h⟩ := h
          obtain ⟨info, d, i1, i2, i3, i4, _⟩ := tk.ty e y hy
          have hsz : es[i.toNat].length = sz := hs _ (List.getElem_mem _)
          refine ⟨_, _, hrun i1 h0 (by omega), ?_, h⟩
          have e1 : info.size = sz := by omega
          rw [add_off' b1, e1]
          refine .cref _ _ (fun j => c i.toNat j) (fun _ => ⟨rfl, b2, b3⟩) (fun j x hx => hc i.toNat j x (by simp [hlt, hx])) (fun j x hx => hr i.toNat j x (by simp [hlt, hx]))
  · rename_i id
    cases hlk : look st.h id with
    | none => simp [hlk] at h
    | some ob =>
      cases ob with
      | row e' es =>
        simp only [hlk] at h
        cases hee : Nat.beq e' e with
        | false => simp [hee] at h
        | true =>
          simp only [hee] at h
          obtain rfl := Nat.eq_of_beq_eq_true hee
          obtain ⟨⟨h0, h1⟩, h⟩ := h
          obtain ⟨l, k1, k2, k3, k4, k5⟩ := hp.ob id _ hlk
          cases hv with
          | full _ l' hθ b cap hb hlc hz ad hab hsp ho =>
            rw [hθ] at k1; cases k1
            obtain ⟨info, i1⟩ : ∃ info, P.info? e' = some info := ⟨info0, i10⟩
            have hsz : l.sz = info.size := by rw [k2]; simp [Program.cellsOf, i1]
            have hcap : cap ≠ 0 := by omega
            refine ⟨_, _, hrun i1 h0 (by omega), ?_, h⟩
            rw [add_off' hsp, ho hcap, hab, ← hsz]
            exact .ref id i.toNat 0 l hθ b hb
          | full0 _ l' hθ hl =>
            rw [hθ] at k1; cases k1
            omega
      | var ty cs => simp [hlk] at h
      | map es => simp [hlk] at h
      | iter s p => simp [hlk] at h
  · rename_i id o n
    cases hlk : look st.h id with
    | none => simp [hlk] at h
    | some ob =>
      cases ob with
      | row e' es =>
        simp only [hlk] at h
        cases hee : Nat.beq e' e with
        | false => simp [hee] at h
        | true =>
          simp only [hee] at h
          obtain rfl := Nat.eq_of_beq_eq_true hee
          obtain ⟨⟨h0, h1, h2⟩, h⟩ := h
          obtain ⟨l, k1, k2, k3, k4, k5⟩ := hp.ob id _ hlk
          cases hv with
          | own _ _ _ l' hθ b hb ad cap hlc hab hsp hin ho hz =>
            rw [hθ] at k1; cases k1
            obtain ⟨info, i1⟩ : ∃ info, P.info? e' = some info := ⟨info0, i10⟩
            have hsz : l.sz = info.size := by rw [k2]; simp [Program.cellsOf, i1]
            have hcap : cap ≠ 0 := by omega
            refine ⟨_, _, hrun i1 h0 (by omega), ?_, h⟩
            rw [add_off' hsp, ho hcap, hab, ← hsz]
            have : l.o0 + o * l.sz + i.toNat * l.sz = l.o0 + (o + i.toNat) * l.sz + 0 := by rw [Nat.add_mul]; omega
            rw [this]
            exact .ref id (o + i.toNat) 0 l hθ b hb
          | own0 _ _ l' hθ => omega
      | var ty cs => simp [hlk] at h
      | map es => simp [hlk] at h
      | iter s p => simp [hlk] at h
  · exact h.elim

theorem evFieldAddr_sound {tab : Tab} (tk : TabOK P tab) {s f : Nat} {v : Value} {x : T} {K : T → Prop} (hv : RepT w N θ v x) (h : evFieldAddr tab s x f K) :
    ∃ u r, (Instr.fieldAt s v f).run P w = .ok u w ∧ RepT w N θ u r ∧ K r := by
  unfold evFieldAddr at h
  cases ht : tab.ty s with
  | none => simp [ht] at h
  | some i =>
    simp only [ht] at h
    cases hk : i.k <;> simp only [hk] at h <;> try exact h.elim
    rename_i fs
    obtain ⟨fields, f1, f2⟩ := tab.struct_of tk ht hk
    cases hf : nth fs f with
    | none => simp [hf] at h
    | some p =>
      obtain ⟨o, ft⟩ := p
      simp only [hf] at h
      obtain ⟨g, g1, g2, g3⟩ := f2 f o ft hf
      cases hj : tab.ty ft with
      | none => simp [hj] at h
      | some j =>
        simp only [hj] at h
        obtain ⟨info, d, i1, i2, i3, i4, _⟩ := tk.ty ft j hj
        cases hz : Nat.beq j.size 0 with
        | true => simp [hz] at h
        | false =>
          simp only [hz] at h
          have hz' : ¬ info.size = 0 := fun e => by rw [i4] at e; rw [e] at hz; simp at hz
          have hrun : ∀ ad : Addr, (Instr.fieldAt s (.pointer (some ad)) f).run P w = .ok (.pointer (some (ad.add o))) w := by
            intro ad
            rw [← g3] at i1
            simp only [Instr.fieldAt, Sem.run_bind, run_underlying' f1, Result.andThen_ok, g1, Instr.sureAddr, Sem.run_pure, fieldPlace, run_sizeOf i1, hz', if_false, g2]
          split at h
          · cases hv with
            | ref id i' o' l hθ b hb =>
              refine ⟨_, _, hrun _, ?_, h⟩
              rw [add_off, Nat.add_assoc]
              exact .ref _ _ _ l hθ b hb
          · rename_i cs
            cases hv with
            | cref ad _ c hb hc hr =>
              refine ⟨_, _, hrun _, ?_, h⟩
              rw [dropN_eq]
              by_cases hne : cs = []
              · subst hne
                simp only [List.drop_nil]
                exact .cref _ [] c (fun hh => absurd rfl hh) (fun j x hx => by simp at hx) (fun j x hx => by simp at hx)
              · obtain ⟨b1, b2, b3⟩ := hb hne
                rw [add_off' b1]
                refine .cref _ _ (fun j => c (o + j)) (fun _ => ⟨rfl, b2, b3⟩) (fun j x hx => ?_) (fun j x hx => ?_)
                · rw [List.getElem?_drop] at hx
                  simp only [Nat.add_assoc]
                  exact hc _ x hx
                · rw [List.getElem?_drop] at hx
                  exact hr _ x hx
          · exact h.elim

/-- A part of a struct's value. -/
theorem part_sound {tab : Tab} (tk : TabOK P tab) {t o : Nat} {vs : Array Value} {cs : List T} {K : T → Prop} (hl : vs.size = cs.length) (hx : ∀ (i : Nat) (x : T), cs[i]? = some x → RepT w N θ (vs.getD i undef) x)
    (h : ldT tab t (dropN cs o) K) : ∃ u r, (part t vs o).run P w = .ok u w ∧ RepT w N θ u r ∧ K r := by
  unfold ldT at h
  rw [dropN_eq] at h
  cases ht : tab.ty t with
  | none => simp [ht] at h
  | some i =>
    simp only [ht] at h
    obtain ⟨info, d, i1, i2, i3, i4, _⟩ := tk.ty t i ht
    have hag := fits_agg i3
    cases ha : i.k.agg with
    | true =>
      simp only [ha] at h
      cases hk : takeN (cs.drop o) i.size with
      | none => simp [hk] at h
      | some l =>
        simp only [hk] at h
        obtain ⟨rfl, hlen⟩ := takeN_eq _ _ _ hk
        refine ⟨.agg (vs.extract o (o + i.size)), _, ?_, .agg _ _ ?_ (fun j x hj => ?_), h⟩
        · simp only [part, Sem.run_bind, run_isAgg i2, Result.andThen_ok, hag, ha, if_true, run_sizeOf i1, i4, Sem.run_pure]
        · simp at hlen ⊢; omega
        · rw [List.getElem?_take, List.getElem?_drop] at hj
          by_cases hc : j < i.size
          · rw [if_pos hc] at hj
            have := hx _ x hj
            have hlt : o + j < vs.size := by rw [hl]; exact (List.getElem?_eq_some_iff.mp hj).1
            have e1 : (vs.extract o (o + i.size)).getD j undef = vs.getD (o + j) undef := by
              simp only [Array.getD_eq_getD_getElem?, Array.getElem?_extract]
              rw [if_pos (by omega)]
            rw [e1]
            exact this
          · simp [hc] at hj
    | false =>
      simp only [ha] at h
      cases hcs : cs.drop o with
      | nil => simp [hcs] at h
      | cons x r =>
        simp only [hcs] at h
        have hx0 : cs[o]? = some x := by
          have : (cs.drop o)[0]? = some x := by rw [hcs]; rfl
          rw [List.getElem?_drop] at this
          simpa using this
        have hlt : o < vs.size := by rw [hl]; exact (List.getElem?_eq_some_iff.mp hx0).1
        refine ⟨vs[o], x, ?_, ?_, h⟩
        · simp only [part, Sem.run_bind, run_isAgg i2, Result.andThen_ok, hag, ha, Bool.false_eq_true, if_false, Array.getElem?_eq_getElem hlt, Sem.run_pure]
        · have := hx o x hx0
          simpa [hlt] using this

theorem evField_sound {tab : Tab} (tk : TabOK P tab) {s f : Nat} {v : Value} {x : T} {K : T → Prop} (hv : RepT w N θ v x) (h : evField tab s x f K) :
    ∃ u r, (Instr.field s v f).run P w = .ok u w ∧ RepT w N θ u r ∧ K r := by
  unfold evField at h
  cases ht : tab.ty s with
  | none => simp [ht] at h
  | some i =>
    simp only [ht] at h
    cases hk : i.k <;> simp only [hk] at h <;> try exact h.elim
    rename_i fs
    obtain ⟨fields, f1, f2⟩ := tab.struct_of tk ht hk
    split at h
    · rename_i o ft cs hf
      obtain ⟨g, g1, g2, g3⟩ := f2 f o ft hf
      cases hv with
      | agg vs _ hl hx =>
        obtain ⟨u, r, h1, h2, h3⟩ := part_sound tk hl hx h
        refine ⟨u, r, ?_, h2, h3⟩
        simp only [Instr.field, Sem.run_bind, run_underlying' f1, Result.andThen_ok, g1, asAgg, Sem.run_pure, g2, g3]
        exact h1
    · exact h.elim
end Go.VL
