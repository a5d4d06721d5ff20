/- Representation is kept while the world grows. -/
import Derived.Test.YtdiflegjgikpeaaDoorVA
set_option linter.unusedVariables false
set_option linter.unusedSimpArgs false
namespace Go.VL
open Go Go.RowKit

/-- Every block that is there and may be shared reads as it did, and may still be shared. -/
def Ext (w : World) (N : Nat → Prop) (w' : World) (N' : Nat → Prop) : Prop :=
  w.heap.size ≤ w'.heap.size ∧ ∀ b, b < w.heap.size → ¬ N b → ¬ N' b ∧ w'.heap[b]? = w.heap[b]?

/-- Rows keep their sizes. -/
def Szp (w w' : World) : Prop := ∀ (b : Nat) (cs : Array Value) (e : TypeId) (fr : Nat × Nat), w.heap[b]? = some (Obj.cells cs e fr) → ∃ cs' fr', w'.heap[b]? = some (Obj.cells cs' e fr') ∧ cs'.size = cs.size

def Sub (θ θ' : Th) : Prop := ∀ id l, θ id = some l → θ' id = some l

theorem Ext.refl (w : World) (N : Nat → Prop) : Ext w N w N := ⟨Nat.le_refl _, fun _ _ h => ⟨h, rfl⟩⟩
theorem Ext.trans {w N w' N' w'' N''} (h : Ext w N w' N') (k : Ext w' N' w'' N'') : Ext w N w'' N'' :=
  ⟨Nat.le_trans h.1 k.1, fun b hb hn => by
    obtain ⟨h1, h2⟩ := h.2 b hb hn
    obtain ⟨k1, k2⟩ := k.2 b (Nat.lt_of_lt_of_le hb h.1) h1
    exact ⟨k1, k2.trans h2⟩⟩
theorem Szp.refl (w : World) : Szp w w := fun _ cs _ fr h => ⟨cs, fr, h, rfl⟩
theorem Szp.trans {w w' w''} (h : Szp w w') (k : Szp w' w'') : Szp w w'' := fun b cs e fr hb => by
  obtain ⟨cs1, fr1, h1, e1⟩ := h b cs e fr hb
  obtain ⟨cs2, fr2, h2, e2⟩ := k b cs1 e fr1 h1
  exact ⟨cs2, fr2, h2, e2.trans e1⟩
theorem Sub.refl (θ : Th) : Sub θ θ := fun _ _ h => h
theorem Sub.trans {a b c : Th} (h : Sub a b) (k : Sub b c) : Sub a c := fun id l hl => k id l (h id l hl)

theorem cellAt_eq {w w' : World} {b o : Nat} (h : w'.heap[b]? = w.heap[b]?) : cellAt w' b o = cellAt w b o := by
  unfold cellAt World.cell?; simp only [h]

theorem RepD.ext {w N w' N'} {v : Value} {x : D} (h : RepD w N v x) (he : Ext w N w' N') : RepD w' N' v x := by
  induction h with
  | bool b => exact .bool b
  | int k n => exact .int k n
  | str s => exact .str s
  | nil => exact .nil
  | sl ad es cap sz c hl hb hs hc hr ih =>
    refine .sl ad es cap sz c hl (fun hne => ?_) hs (fun i j x hx => ?_) ih
    · obtain ⟨h1, h2, h3⟩ := hb hne
      exact ⟨h1, (he.2 _ h3 h2).1, Nat.lt_of_lt_of_le h3 he.1⟩
    · have hne : es ≠ [] := by rintro rfl; simp at hx
      obtain ⟨h1, h2, h3⟩ := hb hne
      rw [cellAt_eq (he.2 _ h3 h2).2]
      exact hc i j x hx

theorem RepT.ext {w N θ w' N' θ'} {v : Value} {x : T} (h : RepT w N θ v x) (he : Ext w N w' N') (hs : Szp w w') (hθ : Sub θ θ') : RepT w' N' θ' v x := by
  induction h with
  | d h => exact .d (h.ext he)
  | agg vs xs hl _ ih => exact .agg vs xs hl ih
  | tup vs xs hl _ ih => exact .tup vs xs hl ih
  | full id l hl b cap hb hlc hz ad hab hsp ho =>
    obtain ⟨cs, e, fr, h1, h2⟩ := hz
    obtain ⟨cs', fr', h3, h4⟩ := hs b cs e fr h1
    exact .full id l (hθ _ _ hl) b cap hb hlc ⟨cs', e, fr', h3, by omega⟩ ad hab hsp ho
  | full0 id l hl h0 => exact .full0 id l (hθ _ _ hl) h0
  | own id off len l hl b hb ad cap hlc hab hsp hin ho hz =>
    obtain ⟨cs, e, fr, h1, h2⟩ := hz
    obtain ⟨cs', fr', h3, h4⟩ := hs b cs e fr h1
    exact .own id off len l (hθ _ _ hl) b hb ad cap hlc hab hsp hin ho ⟨cs', e, fr', h3, by omega⟩
  | own0 id off l hl => exact .own0 id off l (hθ _ _ hl)
  | nils => exact .nils
  | ref id i off l hl b hb => exact .ref id i off l (hθ _ _ hl) b hb
  | cref ad cs c hb hc hr =>
    refine .cref ad cs c (fun hne => ?_) (fun j x hx => ?_) (fun j x hx => (hr j x hx).ext he)
    · obtain ⟨h1, h2, h3⟩ := hb hne
      exact ⟨h1, (he.2 _ h3 h2).1, Nat.lt_of_lt_of_le h3 he.1⟩
    · have hne : cs ≠ [] := by rintro rfl; simp at hx
      obtain ⟨h1, h2, h3⟩ := hb hne
      rw [cellAt_eq (he.2 _ h3 h2).2]
      exact hc j x hx
  | fn f vs xs hl _ ih => exact .fn f vs xs hl ih
  | nilp => exact .nilp
  | nilf => exact .nilf
  | nili => exact .nili
  | ifc t _ ih => exact .ifc t ih
  | mp id l hl b hb => exact .mp id l (hθ _ _ hl) b hb
  | itr id l hl b hb => exact .itr id l (hθ _ _ hl) b hb
  | bs id v l hl b hb h => exact .bs id v l (hθ _ _ hl) b hb h
  | dead v => exact .dead v

/-- An object whose own block has not turned. -/
theorem ObS.ext {P w N θ w' N' θ'} {l : Lay} {ob : Ob} (h : ObS P w N θ l ob) (he : Ext w N w' N') (hs : Szp w w') (hθ : Sub θ θ')
    (hb : ∀ b, l.blk = some b → w'.heap[b]? = w.heap[b]?) : ObS P w' N' θ' l ob := by
  cases ob with
  | row e es =>
    obtain ⟨h1, h2, h3, h4⟩ := h
    refine ⟨h1, h2, h3, ?_⟩
    cases hk : l.blk with
    | none => simpa [hk] using h4
    | some b =>
      simp only [hk] at h4 ⊢
      obtain ⟨cs, fr, k1, k2, k3, k4⟩ := h4
      refine ⟨cs, fr, by rw [hb b hk, k1], k2, k3, fun i j x hx => ?_⟩
      obtain ⟨u, u1, u2⟩ := k4 i j x hx
      exact ⟨u, u1, u2.ext he⟩
  | var t ts =>
    obtain ⟨h1, h0, b, cs, fr, k0, k1, k2, k3, k4⟩ := h
    refine ⟨h1, h0, b, cs, fr, k0, by rw [hb b k0, k1], k2, k3, fun j x hx => ?_⟩
    obtain ⟨u, u1, u2⟩ := k4 j x hx
    exact ⟨u, u1, u2.ext he hs hθ⟩
  | map es =>
    obtain ⟨b, ents, clock, k0, k1, k2, k3⟩ := h
    refine ⟨b, ents, clock, k0, by rw [hb b k0, k1], k2, fun i k v hkv => ?_⟩
    obtain ⟨en, ks, vs, e1, e2, e3, e4, e5, e6, e7⟩ := k3 i k v hkv
    refine ⟨en, ks, vs, e1, e2, e3, e4, e5, fun j x hx => ?_, fun j x hx => ?_⟩
    · obtain ⟨u, u1, u2⟩ := e6 j x hx; exact ⟨u, u1, u2.ext he⟩
    · obtain ⟨u, u1, u2⟩ := e7 j x hx; exact ⟨u, u1, u2.ext he⟩
  | iter s pos =>
    obtain ⟨b, k0, k1⟩ := h
    exact ⟨b, k0, by rw [hb b k0, k1]⟩

theorem Kp.refl (O : Nat → Prop) (w : World) : Kp O w w := ⟨rfl, rfl, rfl, Nat.le_refl _, fun _ _ _ => rfl, fun _ cs _ fr h => ⟨cs, fr, h, rfl⟩⟩
theorem Kp.trans {O w w' w''} (h : Kp O w w') (k : Kp O w' w'') : Kp O w w'' :=
  ⟨k.os.trans h.os, k.tape.trans h.tape, k.output.trans h.output, Nat.le_trans h.size k.size,
   fun b hb ho => (k.block b (Nat.lt_of_lt_of_le hb h.size) ho).trans (h.block b hb ho), Szp.trans (w := w) (w' := w') h.shp k.shp⟩
/-- What another call keeps, its own blocks being ours or new. -/
theorem Kp.trans' {O O' w w' w''} (h : Kp O w w') (k : Kp O' w' w'') (ho : ∀ b, b < w.heap.size → O' b → O b) : Kp O w w'' :=
  ⟨k.os.trans h.os, k.tape.trans h.tape, k.output.trans h.output, Nat.le_trans h.size k.size,
   fun b hb hn => (k.block b (Nat.lt_of_lt_of_le hb h.size) (fun hq => hn (ho b hb hq))).trans (h.block b hb hn), Szp.trans (w := w) (w' := w') h.shp k.shp⟩

/-! ### lists of names -/
theorem beqf {a b : Nat} (h : ¬ a = b) : Nat.beq a b = false := by
  cases hh : Nat.beq a b
  · rfl
  · exact absurd (Nat.eq_of_beq_eq_true hh) h
theorem look_rem {h : Hp} {i j : Nat} : look (rem h i) j = if i = j then none else look h j := by
  induction h with
  | nil => simp [rem, look]
  | cons p r ih =>
    obtain ⟨k, x⟩ := p
    simp only [rem]
    by_cases hk : k = i
    · subst hk
      simp only [Nat.beq_refl, ih, look]
      by_cases hj : k = j
      · simp [hj]
      · have : Nat.beq k j = false := beqf hj
        simp [hj, this]
    · have h1 : Nat.beq k i = false := beqf hk
      simp only [h1, look, ih]
      by_cases hj : k = j
      · subst hj
        have : ¬ i = k := fun e => hk e.symm
        simp [this]
      · have : Nat.beq k j = false := beqf hj
        simp [this]
theorem look_upd {h : Hp} {i j : Nat} {o : Ob} : look (upd h i o) j = if i = j then (look h j).map (fun _ => o) else look h j := by
  induction h with
  | nil => simp [upd, look]
  | cons p r ih =>
    obtain ⟨k, x⟩ := p
    simp only [upd]
    by_cases hk : k = i
    · subst hk
      simp only [Nat.beq_refl, ih, look]
      by_cases hj : k = j
      · simp [hj]
      · have : Nat.beq k j = false := beqf hj
        simp [hj, this]
    · have h1 : Nat.beq k i = false := beqf hk
      simp only [h1, look, ih]
      by_cases hj : k = j
      · subst hj
        have : ¬ i = k := fun e => hk e.symm
        simp [this]
      · have : Nat.beq k j = false := beqf hj
        simp [this]
theorem look_cons {h : Hp} {i j : Nat} {o : Ob} : look ((i, o) :: h) j = if i = j then some o else look h j := by
  simp only [look]
  by_cases hj : i = j
  · simp [hj]
  · have : Nat.beq i j = false := beqf hj
    simp [hj, this]
theorem get_cons {e : Env} {i j : Nat} {x : T} : get ((i, x) :: e) j = if i = j then x else get e j := by
  simp only [get]
  by_cases hj : i = j
  · simp [hj]
  · have : Nat.beq i j = false := beqf hj
    simp [hj, this]
end Go.VL
