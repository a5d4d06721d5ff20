/- Cuts, bytes, conversions, lengths. -/
import Derived.Test.YtbokamdcjofkbaaDoorVI
set_option linter.unusedVariables false
set_option linter.unusedSimpArgs false
namespace Go.VL
open Go Go.RowKit

variable {P : Program} {X O : Nat → Prop} {w0 w w' : World} {θ θ' : Th} {st : St} {a : Act} {N : Nat → Prop}

theorem cst_sound (v : Value) : RepT w N θ v (cst v) := by
  unfold cst
  split
  · exact .bool _
  · exact .int _ _
  · rename_i s
    have : (⟨s.data.toList.toArray⟩ : ByteArray) = s := by simp
    have h := RepT.str (w := w) (N := N) (θ := θ) s.data.toList
    rwa [this] at h
  · exact .nils
  · exact .nilp
  · exact .nilf
  · exact .nili
  · exact .dead _
theorem Sat.val (hs : Sat P X O w0 θ st a w) (x : Operand) : RepT w (Nn X θ st.h) θ (a.eval x) (st.val x) := by
  cases x with
  | tmp t => exact hs.tm t
  | const v => exact cst_sound v
  | global g => exact .dead _
  | func f => exact .fn f #[] [] rfl (fun i x h => by simp at h)

def ORep (w : World) (N : Nat → Prop) (θ : Th) : Option Value → Option T → Prop
  | none, none => True
  | some v, some x => RepT w N θ v x
  | _, _ => False
theorem Sat.valO (hs : Sat P X O w0 θ st a w) (x : Option Operand) : ORep w (Nn X θ st.h) θ (x.map a.eval) (x.map st.val) := by
  cases x with
  | none => trivial
  | some x => exact hs.val x

theorem run_sliceBound {k : IntKind} {i : Int} {y : Nat} {c : BoundsCode} (h : 0 ≤ i ∧ i ≤ y) : (Instr.sliceBound (.int k i) y c).run P w = .ok i.toNat w := by
  simp only [Instr.sliceBound, asIntOf, pure_bind, if_pos h, Sem.run_pure]

theorem run_bounds {q : Bool} {n c : Nat} {vlo vhi : Option Value} {lo hi : Option T} {l : Int} (hlo : ORep w N θ vlo lo) (hhi : ORep w N θ vhi hi) (hl : sliceLo lo = some l) :
    (hi = none → 0 ≤ l ∧ l ≤ n → (Instr.sliceBounds q n c vlo vhi none).run P w = .ok (l.toNat, n, c) w) ∧
    (∀ k h, hi = some (.d (.int k h)) → 0 ≤ l ∧ l ≤ h ∧ h ≤ c → (Instr.sliceBounds q n c vlo vhi none).run P w = .ok (l.toNat, h.toNat, c) w) := by
  have hlow : (vlo = none ∧ l = 0) ∨ ∃ k, vlo = some (.int k l) := by
    cases lo with
    | none =>
      cases vlo with
      | none => simp [sliceLo] at hl; exact .inl ⟨rfl, hl.symm⟩
      | some v => exact hlo.elim
    | some x =>
      cases vlo with
      | none => exact hlo.elim
      | some v =>
        cases x with
        | d y =>
          cases y with
          | int k i =>
            simp [sliceLo] at hl
            subst hl
            obtain rfl := RepT.int_inv hlo
            exact .inr ⟨k, rfl⟩
          | _ => simp [sliceLo] at hl
        | _ => simp [sliceLo] at hl
  constructor
  · intro hn hh
    subst hn
    cases vhi with
    | some v => exact hhi.elim
    | none =>
      rcases hlow with ⟨rfl, rfl⟩ | ⟨k, rfl⟩
      · simp [Instr.sliceBounds]
      · simp [Instr.sliceBounds, run_sliceBound hh]
  · intro k h hn hh
    subst hn
    cases vhi with
    | none => exact hhi.elim
    | some v =>
      obtain rfl := RepT.int_inv hhi
      rcases hlow with ⟨rfl, rfl⟩ | ⟨k', rfl⟩
      · simp [Instr.sliceBounds, run_sliceBound (P := P) (w := w) (k := k) (i := h) (y := c) ⟨by omega, hh.2.2⟩]
      · simp [Instr.sliceBounds, run_sliceBound (P := P) (w := w) (k := k) (i := h) (y := c) ⟨by omega, hh.2.2⟩, run_sliceBound (P := P) (w := w) (k := k') (i := l) (y := h.toNat) ⟨hh.1, by omega⟩]

theorem extract_mk (s : List UInt8) (l h : Nat) : (⟨s.toArray⟩ : ByteArray).extract l h = ⟨((s.take h).drop l).toArray⟩ := by
  apply ByteArray.ext
  simp only [ByteArray.data_extract]
  simp [List.extract_eq_take_drop, List.drop_take]

/-- A cut of what is shared. -/
theorem cut_val {es : List (List D)} {l h cap n : Nat} {A : Option Addr} {sz : Nat} (hv : RepD w N (.slice A n cap) (.sl es)) (hz : ∀ c, es[0]? = some c → c.length = sz) (h1 : l ≤ h) (h2 : h ≤ es.length) :
    n = es.length ∧ es.length ≤ cap ∧ RepD w N (.slice (if cap = l then A else A.map (·.add (l * sz))) (h - l) (cap - l)) (.sl ((es.take h).drop l)) := by
  cases hv with
  | nil =>
    simp at h2
    obtain rfl : h = 0 := by omega
    obtain rfl : l = 0 := by omega
    exact ⟨rfl, Nat.le_refl _, by simpa using RepD.nil⟩
  | sl ad _ _ sz' c hl hb hs hc hr =>
    refine ⟨rfl, hl, ?_⟩
    have hlen : ((es.take h).drop l).length = h - l := by simp; omega
    rw [← hlen]
    have hget : ∀ (i j : Nat) (x : D), ((((es.take h).drop l)[i]?).bind (·[j]?) = some x) → i < h - l ∧ (es[l + i]?).bind (·[j]?) = some x := fun i j x hx => by
      rw [List.getElem?_drop, List.getElem?_take] at hx
      by_cases hi : l + i < h
      · rw [if_pos hi] at hx; exact ⟨by omega, hx⟩
      · rw [if_neg hi] at hx; simp at hx
    by_cases hcl : cap = l
    · have he : (es.take h).drop l = [] := List.length_eq_zero_iff.mp (by omega)
      simp only [hcl, if_true, he, List.length_nil, Nat.sub_self]
      exact .sl ad [] 0 0 (fun _ _ => undef) (by simp) (fun hh => absurd rfl hh) (fun e he => by simp at he) (fun i j x hx => by simp at hx) (fun i j x hx => by simp at hx)
    · simp only [hcl, if_false, Option.map_some]
      by_cases hne : es = []
      · subst hne
        simp only [List.take_nil, List.drop_nil, List.length_nil]
        exact .sl _ [] _ 0 (fun _ _ => undef) (by simp) (fun hh => absurd rfl hh) (fun e he => by simp at he) (fun i j x hx => by simp at hx) (fun i j x hx => by simp at hx)
      · obtain ⟨b1, b2, b3⟩ := hb hne
        have hszz : sz = sz' := by
          have : 0 < es.length := by cases es with | nil => exact absurd rfl hne | cons _ _ => simp
          have h0 := hz es[0] (by simp [this])
          rw [← h0]
          exact hs _ (List.getElem_mem _)
        subst hszz
        rw [add_off' b1]
        refine .sl _ _ _ sz (fun i j => c (l + i) j) (by omega) (fun _ => ⟨rfl, b2, b3⟩) (fun e he => hs e (List.mem_of_mem_take (List.mem_of_mem_drop he))) (fun i j x hx => ?_) (fun i j x hx => ?_)
        · obtain ⟨q1, q2⟩ := hget i j x hx
          have := hc (l + i) j x q2
          rw [← this, Nat.add_mul]
          congr 1
          simp only
          omega
        · exact hr (l + i) j x (hget i j x hx).2

/-- A cut of an own row. -/
theorem cut_own {id o n l h cap b : Nat} {L : Lay} {ad : Addr} (hθ : θ id = some L) (hb : L.blk = some b) (hab : ad.block = b) (hsp : ad.spot = none) (hin : o + n ≤ L.len) (hcap : n ≤ cap)
    (ho : cap ≠ 0 → ad.off = L.o0 + o * L.sz) (hz : ∃ cs e fr, w.heap[b]? = some (.cells cs e fr) ∧ L.o0 + (o + cap) * L.sz ≤ cs.size) (h1 : l ≤ h) (h2 : h ≤ n) :
    RepT w N θ (.slice (if cap = l then some ad else (some ad : Option Addr).map (·.add (l * L.sz))) (h - l) (cap - l)) (.own id (o + l) (h - l)) := by
  obtain ⟨cs, e, fr, z1, z2⟩ := hz
  by_cases hcl : cap = l
  · simp only [hcl, if_true, Nat.sub_self]
    have : h - l = 0 := by omega
    rw [this]
    refine .own id (o + l) 0 L hθ b hb ad 0 (by omega) hab hsp (by omega) (fun hh => absurd rfl hh) ⟨cs, e, fr, z1, ?_⟩
    rw [← hcl]
    simpa using z2
  · simp only [hcl, if_false, Option.map_some]
    rw [add_off' hsp]
    refine .own id (o + l) (h - l) L hθ b hb _ (cap - l) (by omega) hab rfl (by omega) (fun hh => ?_) ⟨cs, e, fr, z1, ?_⟩
    · simp only
      rw [ho (by omega), Nat.add_mul]
      omega
    · rw [show o + l + (cap - l) = o + cap by omega]
      exact z2

theorem run_slice {t e : Nat} {info : TypeInfo} {A : Option Addr} {n cap l h : Nat} {vlo vhi : Option Value} (hu : P.underlying t = some (.slice e)) (hi : P.info? e = some info)
    (hb : (Instr.sliceBounds true n cap vlo vhi none).run P w = .ok (l, h, cap) w) :
    (Instr.sliceAt t (.slice A n cap) vlo vhi none).run P w = .ok (.slice (if cap = l then A else A.map (·.add (l * info.size))) (h - l) (cap - l)) w := by
  simp only [Instr.sliceAt, Sem.run_bind, run_underlying' hu, Result.andThen_ok, Instr.slice, hb, run_sizeOf hi, Sem.run_pure]

theorem evSlice_sound {tab : Tab} (tk : TabOK P tab) (hp : HpS P X O w0.heap.size θ st.h w) {t : Nat} {v : Value} {vlo vhi vmx : Option Value} {x : T} {lo hi mx : Option T} {K : T → Prop}
    (hv : RepT w (Nn X θ st.h) θ v x) (hlo : ORep w (Nn X θ st.h) θ vlo lo) (hhi : ORep w (Nn X θ st.h) θ vhi hi) (hmx : ORep w (Nn X θ st.h) θ vmx mx) (h : evSlice tab t x lo hi mx st K) :
    ∃ u r, (Instr.sliceAt t v vlo vhi vmx).run P w = .ok u w ∧ RepT w (Nn X θ st.h) θ u r ∧ K r := by
  unfold evSlice at h
  split at h
  case h_2 => exact h.elim
  rename_i l hl
  cases vmx with
  | some v => exact hmx.elim
  | none =>
  cases ht : tab.ty t with
  | none => simp [ht] at h
  | some i =>
    simp only [ht] at h
    split at h
    · -- strings
      rename_i s hk
      have hu := tab.str_of tk ht hk
      obtain rfl := hv.str_inv
      have hsz : (⟨s.toArray⟩ : ByteArray).size = s.length := by simp [ByteArray.size]
      obtain ⟨b1, b2⟩ := run_bounds (P := P) (q := false) (n := s.length) (c := s.length) hlo hhi hl
      split at h
      · obtain ⟨hh, h⟩ := h
        refine ⟨.string ⟨(s.drop l.toNat).toArray⟩, _, ?_, .str _, h⟩
        simp only [Instr.sliceAt, Sem.run_bind, run_underlying' hu, Result.andThen_ok, Instr.slice, hsz, Option.isSome_none, Bool.false_eq_true, if_false, Sem.run_pure]
        rw [b1 rfl hh]
        simp only [Result.andThen_ok, extract_mk]
        simp
      · rename_i k h'
        obtain ⟨hh, h⟩ := h
        refine ⟨.string ⟨((s.take h'.toNat).drop l.toNat).toArray⟩, _, ?_, .str _, h⟩
        simp only [Instr.sliceAt, Sem.run_bind, run_underlying' hu, Result.andThen_ok, Instr.slice, hsz, Option.isSome_none, Bool.false_eq_true, if_false, Sem.run_pure]
        rw [b2 k h' rfl hh]
        simp only [Result.andThen_ok, extract_mk]
      · exact h.elim
    · -- shared
      rename_i e es hk
      have hu := tab.slice_of tk ht hk
      cases hy : tab.ty e with
      | none => simp [hy] at h
      | some y =>
        simp only [hy] at h
        obtain ⟨hz, h⟩ := h
        obtain ⟨info, d, i1, i2, i3, i4, _⟩ := tk.ty e y hy
        have hv' := hv.d_inv
        obtain ⟨A, n, cap, rfl⟩ : ∃ A n cap, v = .slice A n cap := by cases hv' <;> exact ⟨_, _, _, rfl⟩
        rw [← i4] at hz
        split at h
        · obtain ⟨hh, h⟩ := h
          obtain ⟨q1, q2, q3⟩ := cut_val (l := l.toNat) (h := es.length) hv' hz (by omega) (Nat.le_refl _)
          subst q1
          obtain ⟨b1, b2⟩ := run_bounds (P := P) (q := true) (n := es.length) (c := cap) hlo hhi hl
          rw [List.take_length] at q3
          exact ⟨_, _, run_slice hu i1 (b1 rfl hh), .d q3, h⟩
        · rename_i k h'
          obtain ⟨hh, h⟩ := h
          obtain ⟨q1, q2, q3⟩ := cut_val (l := l.toNat) (h := h'.toNat) hv' hz (by omega) (by omega)
          subst q1
          obtain ⟨b1, b2⟩ := run_bounds (P := P) (q := true) (n := es.length) (c := cap) hlo hhi hl
          exact ⟨_, _, run_slice hu i1 (b2 k h' rfl ⟨hh.1, hh.2.1, by omega⟩), .d q3, h⟩
        · exact h.elim
    · -- full
      rename_i e id hk
      have hu := tab.slice_of tk ht hk
      split at h
      case h_2 => exact h.elim
      rename_i e' es y hlk hy
      cases hee : Nat.beq e' e with
      | false => simp [hee] at h
      | true =>
        simp only [hee] at h
        obtain rfl := Nat.eq_of_beq_eq_true hee
        obtain ⟨info, d, i1, i2, i3, i4, _⟩ := tk.ty e' y hy
        obtain ⟨L, k1, k2, k3, k4, k5⟩ := hp.ob id _ hlk
        have hsz : info.size = L.sz := by rw [k2]; simp [Program.cellsOf, i1]
        cases hv with
        | full _ L' hθ b cap hb hlc hz ad hab hsp ho =>
          rw [hθ] at k1; cases k1
          obtain ⟨b1, b2⟩ := run_bounds (P := P) (q := true) (n := L.len) (c := cap) hlo hhi hl
          have hcut : ∀ {l h : Nat}, l ≤ h → h ≤ L.len → RepT w (Nn X θ st.h) θ _ (.own id (0 + l) (h - l)) := fun {l h} q1 q2 => cut_own (cap := cap) (n := L.len) (o := 0) hθ hb hab hsp (by omega) hlc (by simpa using ho) (by simpa using hz) q1 q2
          rw [← hsz] at hcut
          split at h
          · obtain ⟨hh, h⟩ := h
            refine ⟨_, _, run_slice hu i1 (b1 rfl (by omega)), ?_, h⟩
            have := hcut (l := l.toNat) (h := L.len) (by omega) (Nat.le_refl _)
            rw [Nat.zero_add] at this
            rw [← k3]
            exact this
          · rename_i k h'
            obtain ⟨hh, h⟩ := h
            refine ⟨_, _, run_slice hu i1 (b2 k h' rfl ⟨hh.1, hh.2.1, by omega⟩), ?_, h⟩
            have := hcut (l := l.toNat) (h := h'.toNat) (by omega) (by omega)
            rwa [Nat.zero_add] at this
          · exact h.elim
        | full0 _ L' hθ h0 =>
          rw [hθ] at k1; cases k1
          obtain ⟨b1, b2⟩ := run_bounds (P := P) (q := true) (n := 0) (c := 0) hlo hhi hl
          split at h
          · obtain ⟨hh, h⟩ := h
            refine ⟨_, _, run_slice hu i1 (b1 rfl (by omega)), ?_, h⟩
            rw [show l.toNat = 0 by omega, show es.length - 0 = 0 by omega]
            simpa using RepT.own0 id 0 L hθ
          · rename_i k h'
            obtain ⟨hh, h⟩ := h
            refine ⟨_, _, run_slice hu i1 (b2 k h' rfl ⟨hh.1, hh.2.1, by omega⟩), ?_, h⟩
            rw [show l.toNat = 0 by omega, show h'.toNat - 0 = 0 by omega]
            simpa using RepT.own0 id 0 L hθ
          · exact h.elim
    · -- own
      rename_i e id o n hk
      have hu := tab.slice_of tk ht hk
      split at h
      case h_2 => exact h.elim
      rename_i e' es y hlk hy
      cases hee : Nat.beq e' e with
      | false => simp [hee] at h
      | true =>
        simp only [hee] at h
        obtain rfl := Nat.eq_of_beq_eq_true hee
        obtain ⟨info, d, i1, i2, i3, i4, _⟩ := tk.ty e' y hy
        obtain ⟨L, k1, k2, k3, k4, k5⟩ := hp.ob id _ hlk
        have hsz : info.size = L.sz := by rw [k2]; simp [Program.cellsOf, i1]
        cases hv with
        | own _ _ _ L' hθ b hb ad cap hlc hab hsp hin ho hz =>
          rw [hθ] at k1; cases k1
          obtain ⟨b1, b2⟩ := run_bounds (P := P) (q := true) (n := n) (c := cap) hlo hhi hl
          have hcut : ∀ {l h : Nat}, l ≤ h → h ≤ n → RepT w (Nn X θ st.h) θ _ (.own id (o + l) (h - l)) := fun {l h} q1 q2 => cut_own (cap := cap) (n := n) (o := o) hθ hb hab hsp hin hlc ho hz q1 q2
          rw [← hsz] at hcut
          split at h
          · obtain ⟨hh, h⟩ := h
            exact ⟨_, _, run_slice hu i1 (b1 rfl (by omega)), hcut (l := l.toNat) (h := n) (by omega) (Nat.le_refl _), h⟩
          · rename_i k h'
            obtain ⟨hh, h⟩ := h
            exact ⟨_, _, run_slice hu i1 (b2 k h' rfl ⟨hh.1, hh.2.1, by omega⟩), hcut (l := l.toNat) (h := h'.toNat) (by omega) (by omega), h⟩
          · exact h.elim
        | own0 _ _ L' hθ =>
          rw [hθ] at k1; cases k1
          obtain ⟨b1, b2⟩ := run_bounds (P := P) (q := true) (n := 0) (c := 0) hlo hhi hl
          split at h
          · obtain ⟨hh, h⟩ := h
            refine ⟨_, _, run_slice hu i1 (b1 rfl (by omega)), ?_, h⟩
            rw [show l.toNat = 0 by omega]
            simpa using RepT.own0 id o L hθ
          · rename_i k h'
            obtain ⟨hh, h⟩ := h
            refine ⟨_, _, run_slice hu i1 (b2 k h' rfl ⟨hh.1, hh.2.1, by omega⟩), ?_, h⟩
            rw [show l.toNat = 0 by omega, show h'.toNat - 0 = 0 by omega]
            simpa using RepT.own0 id o L hθ
          · exact h.elim
    · -- nil
      rename_i e hk
      have hu := tab.slice_of tk ht hk
      cases hv
      cases hy : tab.ty e with
      | none => simp [hy] at h
      | some y =>
        simp only [hy] at h
        obtain ⟨info, d, i1, i2, i3, i4, _⟩ := tk.ty e y hy
        obtain ⟨b1, b2⟩ := run_bounds (P := P) (q := true) (n := 0) (c := 0) hlo hhi hl
        split at h
        · obtain ⟨rfl, h⟩ := h
          exact ⟨_, _, run_slice hu i1 (b1 rfl (by omega)), by simpa using RepT.nils, h⟩
        · rename_i k h'
          obtain ⟨⟨rfl, rfl⟩, h⟩ := h
          exact ⟨_, _, run_slice hu i1 (b2 k 0 rfl (by omega)), by simpa using RepT.nils, h⟩
        · exact h.elim
    · exact h.elim
end Go.VL
