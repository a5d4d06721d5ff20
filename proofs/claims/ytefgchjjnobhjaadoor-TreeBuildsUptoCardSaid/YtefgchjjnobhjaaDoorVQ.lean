/- Structs and slices written out; conversions; comparisons with nil. -/
import Derived.Test.YtefgchjjnobhjaaDoorVO
import Derived.Laws.Tables
set_option linter.unusedVariables false
set_option linter.unusedSimpArgs false
namespace Go.VL
open Go Go.RowKit

variable {P : Program} {X O : Nat → Prop} {w0 w w' : World} {θ θ' : Th} {st : St} {a : Act} {N : Nat → Prop}

def RepP (w : World) (N : Nat → Prop) (θ : Th) : List (Nat × Value) → List (Nat × T) → Prop
  | [], [] => True
  | (i, v) :: r, (j, x) :: s => i = j ∧ RepT w N θ v x ∧ RepP w N θ r s
  | _, _ => False

theorem layAll_sound {place place' : Nat → Option (Nat × Nat)} (hpl : ∀ i p, place i = some p → place' i = some p) : ∀ {vp : List (Nat × Value)} {tp : List (Nat × T)} {cs : Array Value} {z r : List T}, RepP w N θ vp tp →
    cs.size = z.length → (∀ (j : Nat) (x : T), z[j]? = some x → ∃ u, cs[j]? = some u ∧ RepT w N θ u x) → layAll place z tp = some r →
    ∃ cs' : Array Value, Instr.fill place' cs vp = some cs' ∧ cs'.size = r.length ∧ ∀ (j : Nat) (x : T), r[j]? = some x → ∃ u, cs'[j]? = some u ∧ RepT w N θ u x
  | [], [], cs, z, r, _, hl, hx, h => by simp [layAll] at h; subst h; exact ⟨cs, rfl, hl, hx⟩
  | [], _ :: _, _, _, _, hr, _, _, _ => hr.elim
  | _ :: _, [], _, _, _, hr, _, _, _ => hr.elim
  | (i, v) :: vp, (j, x) :: tp, cs, z, r, hr, hl, hx, h => by
    obtain ⟨rfl, hv, hr⟩ := hr
    simp only [layAll] at h
    cases hp : place i with
    | none => simp [hp] at h
    | some p =>
      obtain ⟨o, sz⟩ := p
      cases hc : x.cells with
      | none => simp [hp, hc] at h
      | some l =>
        simp only [hp, hc] at h
        split at h
        case h_2 => cases h
        rename_i z' hlen hlay hpos
        have hpos := Nat.blt_eq.mp hpos
        have hlen := Nat.eq_of_beq_eq_true hlen
        obtain ⟨c1, c2⟩ := cells_len hv hc
        obtain ⟨e1, e2, e3⟩ := lay_eq _ _ _ _ hlay
        have hin : o + sz ≤ cs.size := by
          have := e2 (by intro hne; subst hne; simp at hlen; omega)
          omega
        obtain ⟨cs1, f1, f2, f3⟩ := fill_step (v := v) (r := vp) (hpl i _ hp) (by omega) hin
        rw [f1]
        refine layAll_sound hpl hr (by omega) (fun k y hk => ?_) h
        rw [e3 k] at hk
        rw [f3 k]
        by_cases hq : o ≤ k ∧ k < o + l.length
        · rw [if_pos hq] at hk
          rw [if_pos (by omega)]
          exact c2 _ y hk
        · rw [if_neg hq] at hk
          rw [if_neg (by omega)]
          exact hx k y hk

theorem evBuild_sound {tab : Tab} (tk : TabOK P tab) {t : Nat} {vp : Array (Nat × Value)} {tp : List (Nat × T)} {K : T → Prop} (hr : RepP w N θ vp.toList tp) (h : evBuild tab t tp K) :
    ∃ u r, (Instr.build t vp).run P w = .ok u w ∧ RepT w N θ u r ∧ K r := by
  unfold evBuild at h
  cases ht : tab.ty t with
  | none => simp [ht] at h
  | some i =>
    simp only [ht] at h
    split at h
    case h_2 => exact h.elim
    rename_i z hz hag
    simp only [Bool.and_eq_true] at hag
    obtain ⟨info, zv, i1, i2, i3, i4, i5, i6, i7, i8⟩ := zero_of tk ht hz
    cases hl : layAll (placeOf tab i.k) z tp with
    | none => simp [hl] at h
    | some cs =>
      simp only [hl] at h
      cases hk : i.k <;> rw [hk] at hag hl <;> simp [TK.agg] at hag
      case array n e =>
        have hu := tab.array_of tk ht hk
        obtain ⟨y, hy⟩ := Option.isSome_iff_exists.mp hag
        obtain ⟨einfo, d, e1, e2, e3, e4, _⟩ := tk.ty e y hy
        obtain ⟨cs', f1, f2, f3⟩ := layAll_sound (place' := fun i => some (i * einfo.size, einfo.size)) (fun i p hp => by
          simp only [placeOf, szOf, hy] at hp
          rw [← hp, e4]) hr i3 (fun j x hx => by obtain ⟨u, u1, u2⟩ := i8 j x hx; exact ⟨u, u1, zq_rep u2⟩) hl
        refine ⟨.agg cs', .agg cs, run_build w t vp cs' ?_, .agg _ _ f2 (fun j x hx => ?_), h⟩
        · simp only [Program.built, i1, hu, i2, e1]; exact f1
        · obtain ⟨u, u1, u2⟩ := f3 j x hx; simpa [u1] using u2
      case struct fs =>
        obtain ⟨fields, hu, hf⟩ := tab.struct_of tk ht hk
        obtain ⟨xinfo, d, x1, x2, x3, _⟩ := tk.ty t i ht
        rw [hu] at x2; cases x2
        rw [hk] at x3
        simp only [fitsK, decide_eq_true_eq] at x3
        have hplaces : ∀ (l : List Field), (∀ f ∈ l, (tab.ty f.type).isSome) → ∃ pl, l.mapM (fun f => (P.info? f.type).map fun i => (f.offset, i.size)) = some pl ∧ ∀ (k : Nat) (f : Field), l[k]? = some f → ∃ y, tab.ty f.type = some y ∧ pl[k]? = some (f.offset, y.size) := by
          intro l
          induction l with
          | nil => intro _; exact ⟨[], by simp, fun k f hk => by simp at hk⟩
          | cons f l ih =>
            intro hall
            obtain ⟨pl, p1, p2⟩ := ih (fun g hg => hall g (by simp [hg]))
            obtain ⟨y, hy⟩ := Option.isSome_iff_exists.mp (hall f (by simp))
            obtain ⟨finfo, d, e1, e2, e3, e4, _⟩ := tk.ty f.type y hy
            refine ⟨(f.offset, y.size) :: pl, by simp [List.mapM_cons, e1, p1, e4], fun k g hg => ?_⟩
            cases k with
            | zero => simp at hg; subst hg; exact ⟨y, hy, rfl⟩
            | succ k => simpa using p2 k g (by simpa using hg)
        obtain ⟨pl, p1, p2⟩ := hplaces fields.toList (fun f hfm => by
          have : (f.offset, f.type) ∈ fs := by rw [x3]; exact List.mem_map.mpr ⟨f, hfm, rfl⟩
          simp only [Tab.allIn, List.all_eq_true] at hag
          exact hag _ this)
        obtain ⟨cs', f1, f2, f3⟩ := layAll_sound (place' := (pl.toArray[·]?)) (fun k p hp => by
          simp only [placeOf, nth_eq] at hp
          cases hq : fs[k]? with
          | none => simp [hq] at hp
          | some q =>
            obtain ⟨o, ft⟩ := q
            simp only [hq, szOf] at hp
            cases hy : tab.ty ft with
            | none => simp [hy] at hp
            | some y =>
              simp [hy] at hp
              rw [x3, List.getElem?_map] at hq
              cases hg : fields.toList[k]? with
              | none => simp [hg] at hq
              | some g =>
                simp [hg] at hq
                obtain ⟨y', y1, y2⟩ := p2 k g hg
                rw [hq.2, hy] at y1; cases y1
                simp [y2, ← hp, hq.1]) hr i3 (fun j x hx => by obtain ⟨u, u1, u2⟩ := i8 j x hx; exact ⟨u, u1, zq_rep u2⟩) hl
        refine ⟨.agg cs', .agg cs, run_build w t vp cs' ?_, .agg _ _ f2 (fun j x hx => ?_), h⟩
        · simp only [Program.built, i1, hu, i2, p1]; exact f1
        · obtain ⟨u, u1, u2⟩ := f3 j x hx; simpa [u1] using u2

theorem litEs_sound {h : Hp} {sz B e : Nat} (hp : HpS P X O B θ h w) (l : List Nat) : ∀ {vp : List (Nat × Value)} {tp : List (Nat × T)} {cs : Array Value} {es r : List (List D)}, RepP w (Nn X θ h) θ vp tp → (∀ i ∈ rwsP tp, i ∈ l) →
    FlatD w (Nn X θ (remL h l)) cs.toList es sz → litEs h sz es tp = some r → ∃ cs' : Array Value, Instr.fill (fun i => some (i * sz, sz)) cs vp = some cs' ∧ FlatD w (Nn X θ (remL h l)) cs'.toList r sz
  | [], [], cs, es, r, _, _, hf, hr => by simp [litEs] at hr; subst hr; exact ⟨cs, rfl, hf⟩
  | [], _ :: _, _, _, _, hr, _, _, _ => hr.elim
  | _ :: _, [], _, _, _, hr, _, _, _ => hr.elim
  | (i, v) :: vp, (j, x) :: tp, cs, es, r, hr, hm, hf, h' => by
    obtain ⟨rfl, hv, hr⟩ := hr
    simp only [litEs] at h'
    cases hd : x.asD h with
    | none => simp [hd] at h'
    | some d =>
      simp only [hd] at h'
      split at h'
      case h_2 => cases h'
      rename_i hlen hlt
      have hlen := Nat.eq_of_beq_eq_true hlen
      have hlt := Nat.blt_eq.mp hlt
      obtain ⟨c1, c2⟩ := asD_rep hp hv hd l (fun k hk => hm k (by simp [rwsP, hk]))
      have hsz : cs.size = es.length * sz := by simpa using hf.1
      have hin : i * sz + sz ≤ cs.size := by
        have := Nat.mul_le_mul_right sz (show i + 1 ≤ es.length by omega)
        rw [Nat.add_mul, Nat.one_mul] at this
        omega
      obtain ⟨cs1, f1, f2, f3⟩ := fill_step (v := v) (r := vp) (place := fun i => some (i * sz, sz)) (i := i) rfl (by omega) hin
      rw [f1]
      refine litEs_sound hp l (e := e) hr (fun k hk => hm k (by simp [rwsP, hk])) ⟨by simp [f2, hsz], fun c hc => ?_, fun p q y hy => ?_⟩ h'
      · rcases List.mem_or_eq_of_mem_set hc with hc | rfl
        · exact hf.2.1 c hc
        · exact hlen
      · rw [Array.getElem?_toList, f3]
        by_cases hpi : p = i
        · subst hpi
          rw [List.getElem?_set_self hlt] at hy
          simp only [Option.bind_some] at hy
          have hq : q < sz := by have := (List.getElem?_eq_some_iff.mp hy).1; omega
          rw [if_pos (by omega)]
          obtain ⟨u, u1, u2⟩ := c2 q y hy
          exact ⟨u, by rw [show p * sz + q - p * sz = q by omega]; exact u1, u2⟩
        · rw [List.getElem?_set_ne (Ne.symm hpi)] at hy
          obtain ⟨u, u1, u2⟩ := hf.2.2 p q y hy
          have hq := (FlatD.lt hf.2.1 hy).2
          refine ⟨u, ?_, u2⟩
          rw [if_neg]
          · rw [← Array.getElem?_toList]; exact u1
          · rcases Nat.lt_or_gt_of_ne hpi with hl | hl
            · have := Nat.mul_le_mul_right sz (show p + 1 ≤ i by omega)
              rw [Nat.add_mul, Nat.one_mul] at this
              omega
            · have := Nat.mul_le_mul_right sz (show i + 1 ≤ p by omega)
              rw [Nat.add_mul, Nat.one_mul] at this
              omega

theorem Sat.frz_N (hs : Sat P X O w0 θ st a w) (l : List Nat) {u : Value} {d : D} (hd : RepD w (Nn X θ (remL st.h l)) u d) : RepD w (Nn X θ (st.frz l).h) u d := by
  unfold St.frz
  cases l with
  | nil => simpa [remL] using hd
  | cons x r => exact hd.ext (Ext.shrink fun b hb => Nn_frzH.mp hb)

theorem evBuildSlice_sound {tab : Tab} (tk : TabOK P tab) (hs : Sat P X O w0 θ st a w) {t len : Nat} {vp : Array (Nat × Value)} {tp : List (Nat × T)} {dst : Option Nat} {K : St → Prop} (hr : RepP w (Nn X θ st.h) θ vp.toList tp)
    (h : evBuildSlice tab t len tp dst st K) : ∃ u w', (Instr.buildSlice t len vp).run P w = .ok u w' ∧ Post P X O w0 θ K (a.put dst u) w' := by
  unfold evBuildSlice at h
  cases ht : tab.ty t with
  | none => simp [ht] at h
  | some i =>
    simp only [ht] at h
    cases hk : i.k <;> simp only [hk] at h <;> try exact h.elim
    rename_i e
    have hu := tab.slice_of tk ht hk
    cases hy : tab.ty e with
    | none => simp [hy] at h
    | some y =>
      simp only [hy] at h
      split at h
      case h_2 => exact h.elim
      rename_i z hz hle hpos
      have hpos := Nat.blt_eq.mp hpos
      have hle := Nat.le_of_ble_eq_true hle
      cases hd : dcells st.h z with
      | none => simp [hd] at h
      | some zd =>
        simp only [hd] at h
        cases hl : litEs st.h y.size (List.replicate len zd) tp with
        | none => simp [hl] at h
        | some es =>
          simp only [hl, forceEs_eq] at h
          obtain ⟨info, zv, i1, i2, i3, i4, i5, i6, _, i7⟩ := zero_of tk hy hz
          obtain ⟨z1, z2⟩ := flat_zero (w := w) (N := Nn X θ (remL st.h (rwsP tp))) i7 hd
          have hf := flat_rep (w := w) (N := Nn X θ (remL st.h (rwsP tp))) (n := len) (by omega) z2
          have hszP : info.size = P.cellsOf e := by simp [Program.cellsOf, i1]
          have hss : y.size = info.size := i5.symm
          have hcells : ((Array.range (len * info.size)).map fun k => zv.cells[k % zv.cells.size]!) = ((List.range (len * zv.cells.size)).map fun k => zv.cells[k % zv.cells.size]!).toArray := by
            apply Array.ext'; simp [i4, i5]
          obtain ⟨cs', f1, f2⟩ := litEs_sound (e := e) hs.hp (rwsP tp) hr (fun _ hi => hi) (cs := ((List.range (len * zv.cells.size)).map fun k => zv.cells[k % zv.cells.size]!).toArray) (sz := y.size) (by rw [i4] at hf; simpa [i4] using hf) hl
          have hs1 := hs.frz (rwsP tp)
          have hlen : es.length = len := by
            have : ∀ {tp : List (Nat × T)} {es r : List (List D)}, litEs st.h y.size es tp = some r → r.length = es.length := by
              intro tp
              induction tp with
              | nil => intro es r h; simp [litEs] at h; rw [h]
              | cons p tp ih =>
                intro es r h
                obtain ⟨i, x⟩ := p
                simp only [litEs] at h
                cases hx : x.asD st.h with
                | none => simp [hx] at h
                | some d =>
                  simp only [hx] at h
                  split at h
                  · rw [ih h]; simp
                  · cases h
            rw [this hl]; simp
          have hrow := row_new (fr := (0, 0)) (e := e) (cap := len) (rest := []) hs1 (sz := y.size) (by omega) (vs := cs'.toList) (es := es) ⟨f2.1, f2.2.1, fun i j x hx => by
            obtain ⟨u, u1, u2⟩ := f2.2.2 i j x hx
            exact ⟨u, u1, hs.frz_N _ u2⟩⟩ (by rw [List.append_nil, f2.1, hlen]) (by omega) (nf0 _) h
          refine ⟨_, _, ?_, hrow⟩
          have h24 : ¬ (len * info.size > 2 ^ 24) := by
            have : (2 : Nat) ^ 24 = 16777216 := by decide
            rw [← hss]; omega
          simp only [Instr.buildSlice, Sem.run_bind, run_underlying' hu, Result.andThen_ok, run_sizeOf i1, h24, if_false, Sem.run_pure]
          rw [hss] at f1
          by_cases h00 : len * info.size = 0
          · have hl0 : len = 0 := by
              rcases Nat.eq_zero_or_pos len with h | h
              · exact h
              · have := Nat.mul_pos h (show 0 < info.size by omega); omega
            subst hl0
            simp only [Nat.zero_mul, List.range_zero, List.map_nil] at f1
            simp only [h00, if_true, pure_bind]
            have e0 : ∀ f : Nat → Value, Array.map f (Array.range 0) = ([] : List Value).toArray := fun f => by simp
            rw [e0, f1]
            simp only [newRow, Sem.run_bind, run_newObj, Result.andThen_ok, Sem.run_pure, hlen, List.append_nil, Array.toArray_toList]
            rfl
          · simp only [h00, if_false, Sem.run_bind, run_zeroValue i1 i2, Result.andThen_ok, Sem.run_pure]
            rw [hcells, f1]
            simp only [newRow, Sem.run_bind, run_newObj, Result.andThen_ok, Sem.run_pure, hlen, List.append_nil, Array.toArray_toList]
            rfl

theorem bytesOfD_spec : ∀ {es : List (List D)} {s : List UInt8}, bytesOfD es = some s → ∃ ns : List Int, es = ns.map (fun n => [D.int .u8 n]) ∧ s = ns.map fun n => UInt8.ofNat n.toNat
  | [], s, h => by simp [bytesOfD] at h; subst h; exact ⟨[], rfl, rfl⟩
  | [.int .u8 n] :: r, s, h => by
    simp only [bytesOfD] at h
    cases hr : bytesOfD r with
    | none => simp [hr] at h
    | some l =>
      simp [hr] at h
      subst h
      obtain ⟨ns, h1, h2⟩ := bytesOfD_spec hr
      exact ⟨n :: ns, by simp [h1], by simp [h2]⟩
theorem push_fold : ∀ (ns : List Int) (s : List UInt8), (ns.foldl (fun (r : ByteArray) n => r.push (UInt8.ofNat n.toNat)) ⟨s.toArray⟩) = ⟨(s ++ ns.map fun n => UInt8.ofNat n.toNat).toArray⟩
  | [], s => by simp
  | n :: ns, s => by
    simp only [List.foldl_cons]
    have : (⟨s.toArray⟩ : ByteArray).push (UInt8.ofNat n.toNat) = ⟨(s ++ [UInt8.ofNat n.toNat]).toArray⟩ := by
      apply ByteArray.ext; simp [ByteArray.push]
    rw [this, push_fold ns]
    simp

theorem evConv_sound {tab : Tab} (tk : TabOK P tab) (hp : HpS P X O w0.heap.size θ st.h w) {s t : Nat} {v : Value} {x : T} {K : T → Prop} (hv : RepT w (Nn X θ st.h) θ v x) (h : evConv tab s t x st K) :
    ∃ u r, (convert s t v).run P w = .ok u w ∧ RepT w (Nn X θ st.h) θ u r ∧ K r := by
  unfold evConv at h
  split at h
  case h_2 => exact h.elim
  rename_i i j hi hj
  split at h
  · rename_i k' k n k2 q1 q2
    have hu := tab.int_of tk hi q1
    have hu2 := tab.int_of tk hj q2
    obtain rfl := hv.int_inv
    obtain ⟨r, h1, h2⟩ := fit_sound (w := w) (N := Nn X θ st.h) (θ := θ) h
    refine ⟨_, r, ?_, h1, h2⟩
    simp only [convert, Sem.run_bind, run_underlying' hu, run_underlying' hu2, Result.andThen_ok, Conv.intToInt, Sem.run_pure]
  · rename_i y q1 q2
    have hu := tab.str_of tk hi q1
    have hu2 := tab.str_of tk hj q2
    obtain rfl := hv.str_inv
    refine ⟨_, _, ?_, .str y, h⟩
    simp only [convert, Sem.run_bind, run_underlying' hu, run_underlying' hu2, Result.andThen_ok, Sem.run_pure]
  · rename_i e q1 q2
    have hu := tab.slice_of tk hi q1
    have hu2 := tab.str_of tk hj q2
    split at h
    case h_2 => exact h.elim
    rename_i es he h8
    obtain ⟨str, hb, h⟩ := h
    obtain ⟨ns, rfl, rfl⟩ := bytesOfD_spec hb
    unfold Tab.isU8 at h8
    cases hy : tab.ty e with
    | none => simp [hy] at h8
    | some y =>
      simp only [hy] at h8
      split at h8
      case h_2 => cases h8
      rename_i hk8
      have hu8 := tab.int_of tk hy hk8
      have hlen : ∀ c ∈ ns.map (fun n => [D.int .u8 n]), c.length = 1 := fun c hc => by
        obtain ⟨n, _, rfl⟩ := List.mem_map.mp hc; rfl
      obtain ⟨A, cap, rfl, _, hc⟩ := slice_cells hp hv he hlen
      refine ⟨.string ⟨(ns.map fun n => UInt8.ofNat n.toNat).toArray⟩, _, ?_, .str _, h⟩
      rw [run_convert_bytes_string w s t e A _ cap hu hu8 hu2]
      by_cases hne : ns = []
      · subst hne
        cases A with
        | none => rfl
        | some ad =>
          rw [run_bytesToString w ad _ cap [] (by simp [loadCells, loadCellsFrom])]
          rfl
      · obtain ⟨ad, rfl, hsp, hcell⟩ := hc (by simpa using hne)
        rw [run_bytesToString w ad _ cap ns]
        · have := push_fold ns []
          simp only [List.nil_append] at this
          have e0 : (⟨([] : List UInt8).toArray⟩ : ByteArray) = ByteArray.empty := rfl
          rw [← e0, this]
        · have := run_loadCells_list (P := P) w ad (ns.map (Value.int .u8)) (fun j v hj => by
            rw [List.getElem?_map] at hj
            cases hn : ns[j]? with
            | none => simp [hn] at hj
            | some n =>
              simp [hn] at hj
              subst hj
              obtain ⟨u, u1, u2⟩ := hcell j 0 (.int .u8 n) (by simp [hn])
              cases u2
              simpa using u1)
          simpa using this
  · rename_i k' k n q1 q2
    have hu := tab.int_of tk hi q1
    have hu2 := tab.str_of tk hj q2
    obtain rfl := hv.int_inv
    refine ⟨.string (Utf8.encode n), _, ?_, .d (by simpa using RepD.str (Utf8.encode n).data.toList), h⟩
    simp only [convert, Sem.run_bind, run_underlying' hu, run_underlying' hu2, Result.andThen_ok, Conv.intToString, Sem.run_pure]
  · exact h.elim
end Go.VL
