/- Cuts, bytes, conversions, lengths. -/
import Derived.Laws.Append
import Derived.Laws.BytesString
import Derived.Test.YtefgchjjnobhjaaDoorVH
set_option linter.unusedVariables false
set_option linter.unusedSimpArgs false
namespace Go.VL
open Go Go.RowKit

variable {P : Program} {X O : Nat → Prop} {w0 w w' : World} {θ θ' : Th} {st : St} {a : Act} {N : Nat → Prop}

theorem cst_sound (v : Value) : RepT w N θ v (cst v) := by
  unfold cst
  split
  · exact .bool _
  · exact .int _ _
  · rename_i s
    have : (⟨s.data.toList.toArray⟩ : ByteArray) = s := by simp
    have h := RepT.str (w := w) (N := N) (θ := θ) s.data.toList
    rwa [this] at h
  · exact .nils
  · exact .nilp
  · exact .nilf
  · exact .nili
  · exact .dead _
theorem Sat.val (hs : Sat P X O w0 θ st a w) (x : Operand) : RepT w (Nn X θ st.h) θ (a.eval x) (st.val x) := by
  cases x with
  | tmp t => exact hs.tm t
  | const v => exact cst_sound v
  | global g => exact .dead _
  | func f => exact .fn f #[] [] rfl (fun i x h => by simp at h)

def ORep (w : World) (N : Nat → Prop) (θ : Th) : Option Value → Option T → Prop
  | none, none => True
  | some v, some x => RepT w N θ v x
  | _, _ => False
theorem Sat.valO (hs : Sat P X O w0 θ st a w) (x : Option Operand) : ORep w (Nn X θ st.h) θ (x.map a.eval) (x.map st.val) := by
  cases x with
  | none => trivial
  | some x => exact hs.val x

theorem run_sliceBound {k : IntKind} {i : Int} {y : Nat} {c : BoundsCode} (h : 0 ≤ i ∧ i ≤ y) : (Instr.sliceBound (.int k i) y c).run P w = .ok i.toNat w := by
  simp only [Instr.sliceBound, asIntOf, pure_bind, if_pos h, Sem.run_pure]

theorem run_bounds {q : Bool} {n c : Nat} {vlo vhi : Option Value} {lo hi : Option T} {l : Int} (hlo : ORep w N θ vlo lo) (hhi : ORep w N θ vhi hi) (hl : sliceLo lo = some l) :
    (hi = none → 0 ≤ l ∧ l ≤ n → (Instr.sliceBounds q n c vlo vhi none).run P w = .ok (l.toNat, n, c) w) ∧
    (∀ k h, hi = some (.d (.int k h)) → 0 ≤ l ∧ l ≤ h ∧ h ≤ c → (Instr.sliceBounds q n c vlo vhi none).run P w = .ok (l.toNat, h.toNat, c) w) := by
  have hlow : (vlo = none ∧ l = 0) ∨ ∃ k, vlo = some (.int k l) := by
    cases lo with
    | none =>
      cases vlo with
      | none => simp [sliceLo] at hl; exact .inl ⟨rfl, hl.symm⟩
      | some v => exact hlo.elim
    | some x =>
      cases vlo with
      | none => exact hlo.elim
      | some v =>
        cases x with
        | d y =>
          cases y with
          | int k i =>
            simp [sliceLo] at hl
            subst hl
            obtain rfl := RepT.int_inv hlo
            exact .inr ⟨k, rfl⟩
          | _ => simp [sliceLo] at hl
        | _ => simp [sliceLo] at hl
  constructor
  · intro hn hh
    subst hn
    cases vhi with
    | some v => exact hhi.elim
    | none =>
      rcases hlow with ⟨rfl, rfl⟩ | ⟨k, rfl⟩
      · simp [Instr.sliceBounds]
      · simp [Instr.sliceBounds, run_sliceBound hh]
  · intro k h hn hh
    subst hn
    cases vhi with
    | none => exact hhi.elim
    | some v =>
      obtain rfl := RepT.int_inv hhi
      rcases hlow with ⟨rfl, rfl⟩ | ⟨k', rfl⟩
      · simp [Instr.sliceBounds, run_sliceBound (P := P) (w := w) (k := k) (i := h) (y := c) ⟨by omega, hh.2.2⟩]
      · simp [Instr.sliceBounds, run_sliceBound (P := P) (w := w) (k := k) (i := h) (y := c) ⟨by omega, hh.2.2⟩, run_sliceBound (P := P) (w := w) (k := k') (i := l) (y := h.toNat) ⟨hh.1, by omega⟩]

theorem extract_mk (s : List UInt8) (l h : Nat) : (⟨s.toArray⟩ : ByteArray).extract l h = ⟨((s.take h).drop l).toArray⟩ := by
  apply ByteArray.ext
  simp only [ByteArray.data_extract]
  simp [List.extract_eq_take_drop, List.drop_take]

/-- A cut of what is shared. -/
theorem cut_val {es : List (List D)} {l h cap n : Nat} {A : Option Addr} {sz : Nat} (hv : RepD w N (.slice A n cap) (.sl es)) (hz : ∀ c, es[0]? = some c → c.length = sz) (h1 : l ≤ h) (h2 : h ≤ es.length) :
    n = es.length ∧ es.length ≤ cap ∧ RepD w N (.slice (if cap = l then A else A.map (·.add (l * sz))) (h - l) (cap - l)) (.sl ((es.take h).drop l)) := by
  cases hv with
  | nil =>
    simp at h2
    obtain rfl : h = 0 := by omega
    obtain rfl : l = 0 := by omega
    exact ⟨rfl, Nat.le_refl _, by simpa using RepD.nil⟩
  | sl ad _ _ sz' c hl hb hs hc hr =>
    refine ⟨rfl, hl, ?_⟩
    have hlen : ((es.take h).drop l).length = h - l := by simp; omega
    rw [← hlen]
    have hget : ∀ (i j : Nat) (x : D), ((((es.take h).drop l)[i]?).bind (·[j]?) = some x) → i < h - l ∧ (es[l + i]?).bind (·[j]?) = some x := fun i j x hx => by
      rw [List.getElem?_drop, List.getElem?_take] at hx
      by_cases hi : l + i < h
      · rw [if_pos hi] at hx; exact ⟨by omega, hx⟩
      · rw [if_neg hi] at hx; simp at hx
    by_cases hcl : cap = l
    · have he : (es.take h).drop l = [] := List.length_eq_zero_iff.mp (by omega)
      simp only [hcl, if_true, he, List.length_nil, Nat.sub_self]
      exact .sl ad [] 0 0 (fun _ _ => undef) (by simp) (fun hh => absurd rfl hh) (fun e he => by simp at he) (fun i j x hx => by simp at hx) (fun i j x hx => by simp at hx)
    · simp only [hcl, if_false, Option.map_some]
      by_cases hne : es = []
      · subst hne
        simp only [List.take_nil, List.drop_nil, List.length_nil]
        exact .sl _ [] _ 0 (fun _ _ => undef) (by simp) (fun hh => absurd rfl hh) (fun e he => by simp at he) (fun i j x hx => by simp at hx) (fun i j x hx => by simp at hx)
      · obtain ⟨b1, b2, b3⟩ := hb hne
        have hszz : sz = sz' := by
          have : 0 < es.length := by cases es with | nil => exact absurd rfl hne | cons _ _ => simp
          have h0 := hz es[0] (by simp [this])
          rw [← h0]
          exact hs _ (List.getElem_mem _)
        subst hszz
        rw [add_off' b1]
        refine .sl _ _ _ sz (fun i j => c (l + i) j) (by omega) (fun _ => ⟨rfl, b2, b3⟩) (fun e he => hs e (List.mem_of_mem_take (List.mem_of_mem_drop he))) (fun i j x hx => ?_) (fun i j x hx => ?_)
        · obtain ⟨q1, q2⟩ := hget i j x hx
          have := hc (l + i) j x q2
          rw [← this, Nat.add_mul]
          congr 1
          simp only
          omega
        · exact hr (l + i) j x (hget i j x hx).2

/-- A cut of an own row. -/
theorem cut_own {id o n l h cap b : Nat} {L : Lay} {ad : Addr} (hθ : θ id = some L) (hb : L.blk = some b) (hab : ad.block = b) (hsp : ad.spot = none) (hin : o + n ≤ L.len) (hcap : n ≤ cap)
    (ho : cap ≠ 0 → ad.off = L.o0 + o * L.sz) (hz : ∃ cs e fr, w.heap[b]? = some (.cells cs e fr) ∧ L.o0 + (o + cap) * L.sz ≤ cs.size) (h1 : l ≤ h) (h2 : h ≤ n) :
    RepT w N θ (.slice (if cap = l then some ad else (some ad : Option Addr).map (·.add (l * L.sz))) (h - l) (cap - l)) (.own id (o + l) (h - l)) := by
  obtain ⟨cs, e, fr, z1, z2⟩ := hz
  by_cases hcl : cap = l
  · simp only [hcl, if_true, Nat.sub_self]
    have : h - l = 0 := by omega
    rw [this]
    refine .own id (o + l) 0 L hθ b hb ad 0 (by omega) hab hsp (by omega) (fun hh => absurd rfl hh) ⟨cs, e, fr, z1, ?_⟩
    rw [← hcl]
    simpa using z2
  · simp only [hcl, if_false, Option.map_some]
    rw [add_off' hsp]
    refine .own id (o + l) (h - l) L hθ b hb _ (cap - l) (by omega) hab rfl (by omega) (fun hh => ?_) ⟨cs, e, fr, z1, ?_⟩
    · simp only
      rw [ho (by omega), Nat.add_mul]
      omega
    · rw [show o + l + (cap - l) = o + cap by omega]
      exact z2

theorem run_slice {t e : Nat} {info : TypeInfo} {A : Option Addr} {n cap l h : Nat} {vlo vhi : Option Value} (hu : P.underlying t = some (.slice e)) (hi : P.info? e = some info)
    (hb : (Instr.sliceBounds true n cap vlo vhi none).run P w = .ok (l, h, cap) w) :
    (Instr.sliceAt t (.slice A n cap) vlo vhi none).run P w = .ok (.slice (if cap = l then A else A.map (·.add (l * info.size))) (h - l) (cap - l)) w := by
  simp only [Instr.sliceAt, Sem.run_bind, run_underlying' hu, Result.andThen_ok, Instr.slice, hb, run_sizeOf hi, Sem.run_pure]

theorem evSlice_sound {tab : Tab} (tk : TabOK P tab) (hp : HpS P X O w0.heap.size θ st.h w) {t : Nat} {v : Value} {vlo vhi vmx : Option Value} {x : T} {lo hi mx : Option T} {K : T → Prop}
    (hv : RepT w (Nn X θ st.h) θ v x) (hlo : ORep w (Nn X θ st.h) θ vlo lo) (hhi : ORep w (Nn X θ st.h) θ vhi hi) (hmx : ORep w (Nn X θ st.h) θ vmx mx) (h : evSlice tab t x lo hi mx st K) :
    ∃ u r, (Instr.sliceAt t v vlo vhi vmx).run P w = .ok u w ∧ RepT w (Nn X θ st.h) θ u r ∧ K r := by
  unfold evSlice at h
  split at h
  case h_2 => exact h.elim
  rename_i l hl
  cases vmx with
  | some v => exact hmx.elim
  | none =>
  cases ht : tab.ty t with
  | none => simp [ht] at h
  | some i =>
    simp only [ht] at h
    split at h
    · -- strings
      rename_i s hk
      have hu := tab.str_of tk ht hk
      obtain rfl := hv.str_inv
      have hsz : (⟨s.toArray⟩ : ByteArray).size = s.length := by simp [ByteArray.size]
      obtain ⟨b1, b2⟩ := run_bounds (P := P) (q := false) (n := s.length) (c := s.length) hlo hhi hl
      split at h
      · obtain ⟨hh, h⟩ := h
        refine ⟨.string ⟨(s.drop l.toNat).toArray⟩, _, ?_, .str _, h⟩
        simp only [Instr.sliceAt, Sem.run_bind, run_underlying' hu, Result.andThen_ok, Instr.slice, hsz, Option.isSome_none, Bool.false_eq_true, if_false, Sem.run_pure]
        rw [b1 rfl hh]
        simp only [Result.andThen_ok, extract_mk]
        simp
      · rename_i k h'
        obtain ⟨hh, h⟩ := h
        refine ⟨.string ⟨((s.take h'.toNat).drop l.toNat).toArray⟩, _, ?_, .str _, h⟩
        simp only [Instr.sliceAt, Sem.run_bind, run_underlying' hu, Result.andThen_ok, Instr.slice, hsz, Option.isSome_none, Bool.false_eq_true, if_false, Sem.run_pure]
        rw [b2 k h' rfl hh]
        simp only [Result.andThen_ok, extract_mk]
      · exact h.elim
    · -- shared
      rename_i e es hk
      have hu := tab.slice_of tk ht hk
      cases hy : tab.ty e with
      | none => simp [hy] at h
      | some y =>
        simp only [hy] at h
        obtain ⟨hz, h⟩ := h
        obtain ⟨info, d, i1, i2, i3, i4, _⟩ := tk.ty e y hy
        have hv' := hv.d_inv
        obtain ⟨A, n, cap, rfl⟩ : ∃ A n cap, v = .slice A n cap := by cases hv' <;> exact ⟨_, _, _, rfl⟩
        rw [← i4] at hz
        split at h
        · obtain ⟨hh, h⟩ := h
          obtain ⟨q1, q2, q3⟩ := cut_val (l := l.toNat) (h := es.length) hv' hz (by omega) (Nat.le_refl _)
          subst q1
          obtain ⟨b1, b2⟩ := run_bounds (P := P) (q := true) (n := es.length) (c := cap) hlo hhi hl
          rw [List.take_length] at q3
          exact ⟨_, _, run_slice hu i1 (b1 rfl hh), .d q3, h⟩
        · rename_i k h'
          obtain ⟨hh, h⟩ := h
          obtain ⟨q1, q2, q3⟩ := cut_val (l := l.toNat) (h := h'.toNat) hv' hz (by omega) (by omega)
          subst q1
          obtain ⟨b1, b2⟩ := run_bounds (P := P) (q := true) (n := es.length) (c := cap) hlo hhi hl
          exact ⟨_, _, run_slice hu i1 (b2 k h' rfl ⟨hh.1, hh.2.1, by omega⟩), .d q3, h⟩
        · exact h.elim
    · -- full
      rename_i e id hk
      have hu := tab.slice_of tk ht hk
      split at h
      case h_2 => exact h.elim
      rename_i e' es y hlk hy
      cases hee : Nat.beq e' e with
      | false => simp [hee] at h
      | true =>
        simp only [hee] at h
        obtain rfl := Nat.eq_of_beq_eq_true hee
        obtain ⟨info, d, i1, i2, i3, i4, _⟩ := tk.ty e' y hy
        obtain ⟨L, k1, k2, k3, k4, k5⟩ := hp.ob id _ hlk
        have hsz : info.size = L.sz := by rw [k2]; simp [Program.cellsOf, i1]
        cases hv with
        | full _ L' hθ b cap hb hlc hz ad hab hsp ho =>
          rw [hθ] at k1; cases k1
          obtain ⟨b1, b2⟩ := run_bounds (P := P) (q := true) (n := L.len) (c := cap) hlo hhi hl
          have hcut : ∀ {l h : Nat}, l ≤ h → h ≤ L.len → RepT w (Nn X θ st.h) θ _ (.own id (0 + l) (h - l)) := fun {l h} q1 q2 => cut_own (cap := cap) (n := L.len) (o := 0) hθ hb hab hsp (by omega) hlc (by simpa using ho) (by simpa using hz) q1 q2
          rw [← hsz] at hcut
          split at h
          · obtain ⟨hh, h⟩ := h
            refine ⟨_, _, run_slice hu i1 (b1 rfl (by omega)), ?_, h⟩
            have := hcut (l := l.toNat) (h := L.len) (by omega) (Nat.le_refl _)
            rw [Nat.zero_add] at this
            rw [← k3]
            exact this
          · rename_i k h'
            obtain ⟨hh, h⟩ := h
            refine ⟨_, _, run_slice hu i1 (b2 k h' rfl ⟨hh.1, hh.2.1, by omega⟩), ?_, h⟩
            have := hcut (l := l.toNat) (h := h'.toNat) (by omega) (by omega)
            rwa [Nat.zero_add] at this
          · exact h.elim
        | full0 _ L' hθ h0 =>
          rw [hθ] at k1; cases k1
          obtain ⟨b1, b2⟩ := run_bounds (P := P) (q := true) (n := 0) (c := 0) hlo hhi hl
          split at h
          · obtain ⟨hh, h⟩ := h
            refine ⟨_, _, run_slice hu i1 (b1 rfl (by omega)), ?_, h⟩
            rw [show l.toNat = 0 by omega, show es.length - 0 = 0 by omega]
            simpa using RepT.own0 id 0 L hθ
          · rename_i k h'
            obtain ⟨hh, h⟩ := h
            refine ⟨_, _, run_slice hu i1 (b2 k h' rfl ⟨hh.1, hh.2.1, by omega⟩), ?_, h⟩
            rw [show l.toNat = 0 by omega, show h'.toNat - 0 = 0 by omega]
            simpa using RepT.own0 id 0 L hθ
          · exact h.elim
    · -- own
      rename_i e id o n hk
      have hu := tab.slice_of tk ht hk
      split at h
      case h_2 => exact h.elim
      rename_i e' es y hlk hy
      cases hee : Nat.beq e' e with
      | false => simp [hee] at h
      | true =>
        simp only [hee] at h
        obtain rfl := Nat.eq_of_beq_eq_true hee
        obtain ⟨info, d, i1, i2, i3, i4, _⟩ := tk.ty e' y hy
        obtain ⟨L, k1, k2, k3, k4, k5⟩ := hp.ob id _ hlk
        have hsz : info.size = L.sz := by rw [k2]; simp [Program.cellsOf, i1]
        cases hv with
        | own _ _ _ L' hθ b hb ad cap hlc hab hsp hin ho hz =>
          rw [hθ] at k1; cases k1
          obtain ⟨b1, b2⟩ := run_bounds (P := P) (q := true) (n := n) (c := cap) hlo hhi hl
          have hcut : ∀ {l h : Nat}, l ≤ h → h ≤ n → RepT w (Nn X θ st.h) θ _ (.own id (o + l) (h - l)) := fun {l h} q1 q2 => cut_own (cap := cap) (n := n) (o := o) hθ hb hab hsp hin hlc ho hz q1 q2
          rw [← hsz] at hcut
          split at h
          · obtain ⟨hh, h⟩ := h
            exact ⟨_, _, run_slice hu i1 (b1 rfl (by omega)), hcut (l := l.toNat) (h := n) (by omega) (Nat.le_refl _), h⟩
          · rename_i k h'
            obtain ⟨hh, h⟩ := h
            exact ⟨_, _, run_slice hu i1 (b2 k h' rfl ⟨hh.1, hh.2.1, by omega⟩), hcut (l := l.toNat) (h := h'.toNat) (by omega) (by omega), h⟩
          · exact h.elim
        | own0 _ _ L' hθ =>
          rw [hθ] at k1; cases k1
          obtain ⟨b1, b2⟩ := run_bounds (P := P) (q := true) (n := 0) (c := 0) hlo hhi hl
          split at h
          · obtain ⟨hh, h⟩ := h
            refine ⟨_, _, run_slice hu i1 (b1 rfl (by omega)), ?_, h⟩
            rw [show l.toNat = 0 by omega]
            simpa using RepT.own0 id o L hθ
          · rename_i k h'
            obtain ⟨hh, h⟩ := h
            refine ⟨_, _, run_slice hu i1 (b2 k h' rfl ⟨hh.1, hh.2.1, by omega⟩), ?_, h⟩
            rw [show l.toNat = 0 by omega, show h'.toNat - 0 = 0 by omega]
            simpa using RepT.own0 id o L hθ
          · exact h.elim
    · -- nil
      rename_i e hk
      have hu := tab.slice_of tk ht hk
      cases hv
      cases hy : tab.ty e with
      | none => simp [hy] at h
      | some y =>
        simp only [hy] at h
        obtain ⟨info, d, i1, i2, i3, i4, _⟩ := tk.ty e y hy
        obtain ⟨b1, b2⟩ := run_bounds (P := P) (q := true) (n := 0) (c := 0) hlo hhi hl
        split at h
        · obtain ⟨rfl, h⟩ := h
          exact ⟨_, _, run_slice hu i1 (b1 rfl (by omega)), by simpa using RepT.nils, h⟩
        · rename_i k h'
          obtain ⟨⟨rfl, rfl⟩, h⟩ := h
          exact ⟨_, _, run_slice hu i1 (b2 k 0 rfl (by omega)), by simpa using RepT.nils, h⟩
        · exact h.elim
    · exact h.elim
end Go.VL

/- New objects. -/
namespace Go.VL
open Go Go.RowKit

variable {P : Program} {X O : Nat → Prop} {w0 w w' : World} {θ θ' : Th} {st : St} {a : Act} {N : Nat → Prop}

theorem Sat.xlt (hs : Sat P X O w0 θ st a w) : ∀ b, X b → b < w.heap.size := fun b hb => Nat.lt_of_lt_of_le (hs.xb b hb) hs.kp.size

/-- A new object, in a new block or in none. -/
theorem Sat.new {ob : Ob} {l : Lay} {o : Obj} (hs : Sat P X O w0 θ st a w) (hb : l.blk = some w.heap.size ∨ l.blk = none)
    (hob : ObS P (w.alloc o) (Nn X (θ.set st.n l) ((st.n, ob) :: st.h)) (θ.set st.n l) l ob) :
    Sat P X O w0 (θ.set st.n l) ⟨st.t, (st.n, ob) :: st.h, st.n + 1, st.nt⟩ a (w.alloc o) := by
  have hn := hs.fresh st.n (Nat.le_refl _)
  refine hs.move (Ext.alloc hb) (Szp.alloc w o) (Th.set_sub hn) (hs.hp.alloc hn hs.xlt hs.kp.size hb hob) (fun id hid => ?_) (hs.kp.trans (Kp.alloc w o))
  have : id ≠ st.n := by omega
  simp only [Th.set, this, if_false]
  exact hs.fresh id (by omega)

theorem newK_post {dst : Option Nat} {ob : Ob} {f : Nat → T} {K : St → Prop} {v : Value} {l : Lay} {o : Obj} (h : newK dst ob f K st) (hs : Sat P X O w0 θ st a w) (hb : l.blk = some w.heap.size ∨ l.blk = none)
    (hob : ObS P (w.alloc o) (Nn X (θ.set st.n l) ((st.n, ob) :: st.h)) (θ.set st.n l) l ob)
    (hv : RepT (w.alloc o) (Nn X (θ.set st.n l) ((st.n, ob) :: st.h)) (θ.set st.n l) v (f st.n)) : Post P X O w0 θ K (a.put dst v) (w.alloc o) := by
  have hs1 := hs.new hb hob
  rw [newK_eq] at h
  exact (putK_post h hs1 hv).weaken (Th.set_sub (hs.fresh st.n (Nat.le_refl _)))

theorem Th.set_self (θ : Th) (n : Nat) (l : Lay) : (θ.set n l) n = some l := by simp [Th.set]

theorem nf0 (n : Nat) : nf (0, 0) n := fun o _ h => by simp at h

/-- A new variable. -/
theorem var_new {dst : Option Nat} {cs : List T} {K : St → Prop} {e : Nat} {v : Value} (hs : Sat P X O w0 θ st a w) (hl : v.cells.size = cs.length) (hc : ∀ (j : Nat) (x : T), cs[j]? = some x → ∃ u, v.cells[j]? = some u ∧ RepT w (Nn X θ st.h) θ u x)
    (h : newK dst (.var e cs) (fun n => .ref n 0 0) K st) : ∃ u w', (do pure (Value.pointer (some (← newVar e v))) : Sem Value).run P w = .ok u w' ∧ Post P X O w0 θ K (a.put dst u) w' := by
  refine ⟨.pointer (some ⟨w.heap.size, 0, none⟩), w.alloc (.cells v.cells e), by simp only [newVar, newRow, Sem.run_bind, run_newObj, Result.andThen_ok, Sem.run_pure]; rfl, ?_⟩
  have hn := hs.fresh st.n (Nat.le_refl _)
  refine newK_post (l := ⟨some w.heap.size, 0, 0, 0⟩) h hs (.inl rfl) ?_ ?_
  · refine ⟨rfl, rfl, _, v.cells, (0, 0), rfl, by rw [alloc_heap, if_pos rfl], nf0 _, hl, fun j x hx => ?_⟩
    obtain ⟨u, u1, u2⟩ := hc j x hx
    exact ⟨u, u1, u2.ext (Ext.alloc (.inl rfl)) (Szp.alloc w _) (Th.set_sub hn)⟩
  · have := RepT.ref (w := w.alloc (.cells v.cells e)) (N := Nn X (θ.set st.n ⟨some w.heap.size, 0, 0, 0⟩) ((st.n, .var e cs) :: st.h)) (θ := θ.set st.n ⟨some w.heap.size, 0, 0, 0⟩) st.n 0 0 ⟨some w.heap.size, 0, 0, 0⟩ (Th.set_self _ _ _) w.heap.size rfl
    simpa using this

theorem zq_rep {v : Value} {x : T} (h : zq v x = true) : RepT w N θ v x := by
  unfold zq at h
  split at h
  · exact .bool _
  · simp only [Bool.and_eq_true, decide_eq_true_eq] at h
    obtain ⟨h1, rfl⟩ := h
    rw [kq_iff.mp h1]
    exact .int _ _
  · rename_i s
    have hs : s.size = 0 := by simpa using h
    have : s = ⟨([] : List UInt8).toArray⟩ := by
      apply ByteArray.ext
      exact Array.eq_empty_of_size_eq_zero hs
    rw [this]
    exact .str []
  · exact .nils
  · exact .nilp
  · exact .nilf
  · exact .nili
  · exact .dead _
  · cases h
theorem zqL_rep : ∀ {vs : List Value} {xs : List T}, zqL vs xs = true → vs.length = xs.length ∧ ∀ (j : Nat) (x : T), xs[j]? = some x → ∃ u, vs[j]? = some u ∧ zq u x = true
  | [], [], _ => ⟨rfl, fun j x h => by simp at h⟩
  | [], _ :: _, h => by simp [zqL] at h
  | _ :: _, [], h => by simp [zqL] at h
  | v :: vs, x :: xs, h => by
    simp only [zqL, Bool.and_eq_true] at h
    obtain ⟨h1, h2⟩ := zqL_rep h.2
    refine ⟨by simp [h1], fun j y hy => ?_⟩
    cases j with
    | zero => simp at hy; subst hy; exact ⟨v, rfl, h.1⟩
    | succ j => simpa using h2 j y (by simpa using hy)

/-- A type's zero value. -/
theorem zero_of {tab : Tab} (tk : TabOK P tab) {t : Nat} {i : TyI} {z : List T} (ht : tab.ty t = some i) (hz : i.zero = some z) :
    ∃ info v, P.info? t = some info ∧ info.zero = some v ∧ v.cells.size = z.length ∧ v.cells.size = i.size ∧ info.size = i.size ∧ info.bytes = i.bytes ∧ (i.k.agg = true → ∃ cs, v = .agg cs) ∧ ∀ (j : Nat) (x : T), z[j]? = some x → ∃ u, v.cells[j]? = some u ∧ zq u x = true := by
  obtain ⟨info, d, i1, i2, i3, i4, i5, i6⟩ := tk.ty t i ht
  obtain ⟨v, v1, v2, v3, v4⟩ := i6 z hz
  obtain ⟨q1, q2⟩ := zqL_rep v3
  exact ⟨info, v, i1, v1, by simpa using q1, v2, i4, i5, v4, fun j x hx => by simpa using q2 j x hx⟩

/-- An empty row of no block. -/
theorem Sat.emptyRow (hs : Sat P X O w0 θ st a w) (e : Nat) : Sat P X O w0 (θ.set st.n ⟨none, 0, P.cellsOf e, 0⟩) ⟨st.t, (st.n, .row e []) :: st.h, st.n + 1, st.nt⟩ a w := by
  have hn := hs.fresh st.n (Nat.le_refl _)
  have hsub := Th.set_sub (l := ⟨none, 0, P.cellsOf e, 0⟩) hn
  have hN : ∀ b, Nn X (θ.set st.n ⟨none, 0, P.cellsOf e, 0⟩) ((st.n, .row e []) :: st.h) b → Nn X θ st.h b := fun b hb => by
    rcases Nn_cons hb with h | h
    · exact h
    · cases h
  have hE : Ext w (Nn X θ st.h) w (Nn X (θ.set st.n ⟨none, 0, P.cellsOf e, 0⟩) ((st.n, .row e []) :: st.h)) := Ext.shrink hN
  have hset : ∀ {id l'}, id ≠ st.n → (θ.set st.n ⟨none, 0, P.cellsOf e, 0⟩) id = some l' → θ id = some l' := fun {id l'} hi h2 => by simpa [Th.set, hi] using h2
  refine ⟨fun j => (hs.tm j).ext hE (Szp.refl w) hsub, ⟨fun id ob hl => ?_, fun id id' o1 o2 l1 l2 b h1 h2 h3 h4 h5 h6 => ?_, fun id ob l b h1 h2 h3 => ?_⟩, fun id hid => ?_, hs.dfr, hs.nts, hs.kp, hs.xb, hs.gl⟩
  · rw [look_cons] at hl
    by_cases he : st.n = id
    · subst he
      rw [if_pos rfl] at hl
      cases hl
      exact ⟨_, Th.set_self _ _ _, rfl, rfl, by simp, rfl⟩
    · rw [if_neg he] at hl
      obtain ⟨l, k1, k2⟩ := hs.hp.ob id ob hl
      exact ⟨l, hsub id l k1, k2.ext hE (Szp.refl w) hsub (fun _ _ => rfl)⟩
  · rw [look_cons] at h1 h2
    by_cases e1 : st.n = id
    · subst e1; rw [Th.set_self] at h3; cases h3; cases h5
    · by_cases e2 : st.n = id'
      · subst e2; rw [Th.set_self] at h4; cases h4; cases h6
      · rw [if_neg e1] at h1
        rw [if_neg e2] at h2
        exact hs.hp.inj id id' o1 o2 l1 l2 b h1 h2 (hset (fun e => e1 e.symm) h3) (hset (fun e => e2 e.symm) h4) h5 h6
  · rw [look_cons] at h1
    by_cases e1 : st.n = id
    · subst e1; rw [Th.set_self] at h2; cases h2; cases h3
    · rw [if_neg e1] at h1
      exact hs.hp.rng id ob l b h1 (hset (fun e => e1 e.symm) h2) h3
  · simp only at hid
    have : id ≠ st.n := by omega
    simp only [Th.set, this, if_false]
    exact hs.fresh id (by omega)

theorem newB_sound {u e : Nat} {dst : Option Nat} {K : St → Prop} {v : Value} (hs : Sat P X O w0 θ st a w) (hl : v.cells = #[.pointer none, .slice none 0 0]) (h : newB e u dst K st) :
    ∃ u w', (do pure (Value.pointer (some (← newVar e v))) : Sem Value).run P w = .ok u w' ∧ Post P X O w0 θ K (a.put dst u) w' := by
  refine ⟨.pointer (some ⟨w.heap.size, 0, none⟩), w.alloc (.cells v.cells e), by simp only [newVar, newRow, Sem.run_bind, run_newObj, Result.andThen_ok, Sem.run_pure]; rfl, ?_⟩
  obtain ⟨t, hp, n, nt⟩ := st
  have hs1 := hs.emptyRow u
  have hn := hs1.fresh (n + 1) (Nat.le_refl _)
  have hn0 := hs.fresh n (Nat.le_refl _)
  have h2 : newK dst (.var e [.bs (n + 1), .full n]) (fun m => .ref m 0 0) K ⟨t, (n, .row u []) :: hp, n + 1, nt⟩ := h
  refine Post.weaken (newK_post (l := ⟨some w.heap.size, 0, 0, 0⟩) h2 hs1 (.inl rfl) ?_ ?_) (Th.set_sub hn0)
  · refine ⟨rfl, rfl, _, v.cells, (0, 0), rfl, by rw [alloc_heap, if_pos rfl], nf0 _, by rw [hl]; rfl, fun j x hx => ?_⟩
    match j, hx with
    | 0, hx =>
      simp at hx; subst hx
      exact ⟨.pointer none, by rw [hl]; rfl, .bs _ _ ⟨some w.heap.size, 0, 0, 0⟩ (Th.set_self _ _ _) w.heap.size rfl (.inl rfl)⟩
    | 1, hx =>
      simp at hx; subst hx
      refine ⟨.slice none 0 0, by rw [hl]; rfl, .full0 n ⟨none, 0, P.cellsOf u, 0⟩ ?_ rfl⟩
      have : n ≠ n + 1 := by omega
      simp [Th.set, this]
    | j + 2, hx => simp at hx
  · have := RepT.ref (w := w.alloc (.cells v.cells e)) (N := Nn X ((θ.set n ⟨none, 0, P.cellsOf u, 0⟩).set (n + 1) ⟨some w.heap.size, 0, 0, 0⟩) ((n + 1, .var e [.bs (n + 1), .full n]) :: (n, .row u []) :: hp)) (θ := (θ.set n ⟨none, 0, P.cellsOf u, 0⟩).set (n + 1) ⟨some w.heap.size, 0, 0, 0⟩) (n + 1) 0 0 ⟨some w.heap.size, 0, 0, 0⟩ (Th.set_self _ _ _) w.heap.size rfl
    simpa using this

theorem evAlloc_sound {tab : Tab} (tk : TabOK P tab) (hs : Sat P X O w0 θ st a w) {e : Nat} {dst : Option Nat} {K : St → Prop} (h : evAlloc tab e dst st K) :
    ∃ u w', (Instr.alloc e true (.tuple #[])).run P w = .ok u w' ∧ Post P X O w0 θ K (a.put dst u) w' := by
  unfold evAlloc at h
  cases hbl : isBld tab e with
  | some q =>
    simp only [hbl] at h
    cases ht : tab.ty e with
    | none => simp [ht] at h
    | some i =>
      simp only [ht] at h
      split at h
      case h_2 => exact h.elim
      rename_i hz
      obtain ⟨info, v, i1, i2, i3, _, _, _, _, i4⟩ := zero_of tk ht hz
      have hcells : v.cells = #[.pointer none, .slice none 0 0] := by
        obtain ⟨u0, h0, z0⟩ := i4 0 .nilp rfl
        obtain ⟨u1, h1, z1⟩ := i4 1 .nils rfl
        have hsz : v.cells.size = 2 := by simpa using i3
        have e0 : u0 = .pointer none := by cases u0 <;> simp [zq] at z0; rename_i p; cases p <;> simp_all [zq]
        have e1 : u1 = .slice none 0 0 := by
          unfold zq at z1
          split at z1 <;> simp_all
        subst e0; subst e1
        apply Array.ext
        · simpa using hsz
        · intro k hk1 hk2
          rw [hsz] at hk1
          match k, hk1 with
          | 0, _ => exact (Array.getElem?_eq_some_iff.mp h0).2
          | 1, _ => exact (Array.getElem?_eq_some_iff.mp h1).2
      obtain ⟨u, w', r1, r2⟩ := newB_sound (v := v) hs hcells h
      refine ⟨u, w', ?_, r2⟩
      simp only [Instr.alloc, Sem.run_bind, run_zeroValue i1 i2, Result.andThen_ok]
      exact r1
  | none =>
  simp only [hbl] at h
  cases ht : tab.ty e with
  | none => simp [ht] at h
  | some i =>
    simp only [ht] at h
    cases hz : i.zero with
    | none => simp [hz] at h
    | some z =>
      simp only [hz] at h
      obtain ⟨info, v, i1, i2, i3, _, _, _, _, i4⟩ := zero_of tk ht hz
      obtain ⟨u, w', r1, r2⟩ := var_new (v := v) hs i3 (fun j x hx => by obtain ⟨u, u1, u2⟩ := i4 j x hx; exact ⟨u, u1, zq_rep u2⟩) h
      refine ⟨u, w', ?_, r2⟩
      simp only [Instr.alloc, Sem.run_bind, run_zeroValue i1 i2, Result.andThen_ok]
      exact r1

theorem evBox_sound (hs : Sat P X O w0 θ st a w) {e : Nat} {v : Value} {x : T} {dst : Option Nat} {K : St → Prop} (hv : RepT w (Nn X θ st.h) θ v x) (h : evBox e x dst st K) :
    ∃ u w', (Instr.box e v).run P w = .ok u w' ∧ Post P X O w0 θ K (a.put dst u) w' := by
  unfold evBox at h
  cases hc : x.cells with
  | none => simp [hc] at h
  | some cs =>
    simp only [hc] at h
    obtain ⟨c1, c2⟩ := cells_len hv hc
    exact var_new (v := v) hs c1 c2 h

theorem Sat.drew (hs : Sat P X O w0 θ st a w) (n : Nat) : Sat P X O w0 θ st a { w with drawn := n } := by
  have hE : ∀ N : Nat → Prop, Ext w N { w with drawn := n } N := fun N => ⟨Nat.le_refl _, fun b _ h => ⟨h, rfl⟩⟩
  have hZ : Szp w { w with drawn := n } := fun b cs e fr h => ⟨cs, fr, h, rfl⟩
  refine ⟨fun i => (hs.tm i).ext (hE _) hZ (Sub.refl θ), ⟨fun id ob h => ?_, hs.hp.inj, hs.hp.rng⟩, hs.fresh, hs.dfr, hs.nts, ⟨hs.kp.os, hs.kp.tape, hs.kp.output, hs.kp.size, hs.kp.block, hs.kp.shp⟩, hs.xb, hs.gl⟩
  obtain ⟨l, k1, k2⟩ := hs.hp.ob id ob h
  exact ⟨l, k1, k2.ext (hE _) hZ (Sub.refl θ) (fun _ _ => rfl)⟩

theorem evLen_sound {tab : Tab} (tk : TabOK P tab) (hp : HpS P X O w0.heap.size θ st.h w) {t ty : Nat} {ts : Array TypeId} {v : Value} {vs : Array Value} {x : T} {K : T → Prop} (hts : ts[0]? = some t) (hvs : vs[0]? = some v)
    (hv : RepT w (Nn X θ st.h) θ v x) (h : evLen tab t x st K) : ∃ u r, (Builtin.len_ ts ty vs).run P w = .ok u w ∧ RepT w (Nn X θ st.h) θ u r ∧ K r := by
  unfold evLen at h
  cases ht : tab.ty t with
  | none => simp [ht] at h
  | some i =>
    simp only [ht] at h
    split at h
    · rename_i n e hk
      have hu := tab.array_of tk ht hk
      exact ⟨_, _, by simp only [Builtin.len_, hts, hvs, Sem.run_bind, run_underlying' hu, Result.andThen_ok, Sem.run_pure, goInt], .int _ _, h⟩
    · rename_i A hk
      have hu := tab.ptr_of tk ht hk
      cases hj : tab.ty A with
      | none => simp [hj] at h
      | some j =>
        simp only [hj] at h
        cases hkj : j.k <;> simp only [hkj] at h <;> try exact h.elim
        have hu2 := tab.array_of tk hj hkj
        exact ⟨_, _, by simp only [Builtin.len_, hts, hvs, Sem.run_bind, run_underlying' hu, run_underlying' hu2, Result.andThen_ok, Sem.run_pure, goInt], .int _ _, h⟩
    · rename_i s hk
      have hu := tab.str_of tk ht hk
      obtain rfl := hv.str_inv
      have hsz : (⟨s.toArray⟩ : ByteArray).size = s.length := by simp [ByteArray.size]
      exact ⟨_, _, by simp only [Builtin.len_, hts, hvs, Sem.run_bind, run_underlying' hu, Result.andThen_ok, Sem.run_pure, goInt, hsz], .int _ _, h⟩
    · rename_i e es hk
      have hu := tab.slice_of tk ht hk
      cases hv with
      | d hv => cases hv <;> exact ⟨_, _, by simp only [Builtin.len_, hts, hvs, Sem.run_bind, run_underlying' hu, Result.andThen_ok, Sem.run_pure, goInt] <;> rfl, .int _ _, h⟩
    · rename_i e hk
      have hu := tab.slice_of tk ht hk
      cases hv
      exact ⟨_, _, by simp only [Builtin.len_, hts, hvs, Sem.run_bind, run_underlying' hu, Result.andThen_ok, Sem.run_pure, goInt]; rfl, .int _ _, h⟩
    · rename_i e id hk
      have hu := tab.slice_of tk ht hk
      cases hlk : look st.h id with
      | none => simp [hlk] at h
      | some ob =>
        cases ob <;> simp only [hlk] at h <;> try exact h.elim
        rename_i e' es
        obtain ⟨L, k1, k2, k3, k4, k5⟩ := hp.ob id _ hlk
        cases hv with
        | full _ L' hθ b cap hb hlc hz ad hab hsp ho =>
          rw [hθ] at k1; cases k1
          exact ⟨_, _, by simp only [Builtin.len_, hts, hvs, Sem.run_bind, run_underlying' hu, Result.andThen_ok, Sem.run_pure, goInt, k3], .int _ _, h⟩
        | full0 _ L' hθ h0 =>
          rw [hθ] at k1; cases k1
          rw [← k3, h0] at h
          exact ⟨_, _, by simp only [Builtin.len_, hts, hvs, Sem.run_bind, run_underlying' hu, Result.andThen_ok, Sem.run_pure, goInt], .int _ _, h⟩
    · rename_i e id o n hk
      have hu := tab.slice_of tk ht hk
      cases hv <;> exact ⟨_, _, by simp only [Builtin.len_, hts, hvs, Sem.run_bind, run_underlying' hu, Result.andThen_ok, Sem.run_pure, goInt], .int _ _, h⟩
    · rename_i k e id hk
      have hu := tab.map_of tk ht hk
      cases hlk : look st.h id with
      | none => simp [hlk] at h
      | some ob =>
        cases ob <;> simp only [hlk] at h <;> try exact h.elim
        rename_i es
        obtain ⟨L, k1, b, ents, clock, k2, k3, k4, k5⟩ := hp.ob id _ hlk
        cases hv with
        | mp _ L' hθ b' hb =>
          rw [hθ] at k1; cases k1
          rw [hb] at k2; cases k2
          refine ⟨_, _, ?_, .int _ _, h⟩
          have hg : (getObj b).run P w = .ok (.map ents clock) w := by simp [getObj, Sem.run, k3]
          simp only [Builtin.len_, hts, hvs, Sem.run_bind, run_underlying' hu, Result.andThen_ok, hg, Sem.run_pure, goInt, k4]
    · exact h.elim
end Go.VL
