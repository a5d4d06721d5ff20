/- Each operation keeps to what the generator says of it (1). -/
import Derived.Laws.Sem
import Derived.Laws.Strings
import Derived.Laws.StructEq
import Derived.Laws.Cells
import Derived.Laws.IdiomCopy
import Derived.Test.YtefgchjjnobhjaaDoorVD
set_option linter.unusedVariables false
set_option linter.unusedSimpArgs false
namespace Go.VL
open Go Go.RowKit

variable {P : Program} {X O : Nat → Prop} {w0 w w' : World} {θ θ' : Th} {st : St} {a : Act} {N : Nat → Prop}

def fitsK : TK → TypeDesc → Bool
  | .bool, .bool => true
  | .int k, .int k' => kq k k'
  | .str, .string => true
  | .slice e, .slice e' => Nat.beq e e'
  | .array n e, .array n' e' => Nat.beq n n' && Nat.beq e e'
  | .struct fs, .struct fields => decide (fs = fields.toList.map fun f => (f.offset, f.type))
  | .ptr e, .pointer e' => Nat.beq e e'
  | .map k e, .map k' e' => Nat.beq k k' && Nat.beq e e'
  | .func, .func _ _ _ => true
  | .iface, .interface _ => true
  | .other, .unsafePointer | .other, .chan _ _ | .other, .float _ | .other, .complex _ | .other, .tuple _ | .other, .invalid => true
  | _, _ => false

/-- A zero value's cell and how it is told. -/
def zq : Value → T → Bool
  | .bool false, .d (.bool false) => true
  | .int k n, .d (.int k' m) => kq k k' && decide (n = m)
  | .string s, .d (.str []) => decide (s.size = 0)
  | .slice none 0 0, .nils => true
  | .pointer none, .nilp => true
  | .nilFunc, .nilf => true
  | .nilIface, .nili => true
  | _, .dead => true
  | _, _ => false
def zqL : List Value → List T → Bool
  | [], [] => true
  | v :: vs, x :: xs => zq v x && zqL vs xs
  | _, _ => false

/-- A struct that is compared field by field. -/
structure EqOK (P : Program) (t : Nat) : Prop where
  fs : P.underlying t = some (.struct (P.fieldsOf t))
  held : P.stoodInHeld t = false
  guard : P.eqGuardType P.depth t = false
  each : ∀ f ∈ (P.fieldsOf t).toList, (f.name == "_") = false
structure TabOK (P : Program) (tab : Tab) : Prop where
  ty : ∀ t i, tab.ty t = some i → ∃ info d, P.info? t = some info ∧ P.underlying t = some d ∧ fitsK i.k d = true ∧ info.size = i.size ∧ info.bytes = i.bytes ∧
    (∀ z, i.zero = some z → ∃ v, info.zero = some v ∧ v.cells.size = i.size ∧ zqL v.cells.toList z = true ∧ (i.k.agg = true → ∃ cs, v = .agg cs))
  eqs : ∀ t, memN tab.eqs t = true → EqOK P t
  ent : ∀ f, memN tab.ent f = true → ∃ fn, P.funcs[f]? = some fn ∧ (fn.name == "runtime.NumGoroutine") = false ∧ fn.body.isNone = false

theorem kq_iff {k k' : IntKind} : kq k k' = true ↔ k = k' := by cases k <;> cases k' <;> simp [kq]

theorem run_underlying' {t : TypeId} {d : TypeDesc} (h : P.underlying t = some d) (w : World) : (underlying t).run P w = .ok d w := by
  simp [underlying, h]
theorem run_typeInfo' {t : TypeId} {d : TypeInfo} (h : P.info? t = some d) (w : World) : (typeInfo t).run P w = .ok d w := by
  simp [typeInfo, h]
theorem run_sizeOf {t : TypeId} {d : TypeInfo} (h : P.info? t = some d) (w : World) : (sizeOf t).run P w = .ok d.size w := by
  simp [sizeOf, run_typeInfo' h]
theorem run_zeroValue {t : TypeId} {d : TypeInfo} {v : Value} (h : P.info? t = some d) (hz : d.zero = some v) (w : World) : (zeroValue t).run P w = .ok v w := by
  simp [zeroValue, run_typeInfo' h, hz]
def dAgg : TypeDesc → Bool
  | .struct _ | .array _ _ => true
  | _ => false
theorem run_isAgg {t : TypeId} {d : TypeDesc} (h : P.underlying t = some d) (w : World) : (isAgg t).run P w = .ok (dAgg d) w := by
  simp only [isAgg, Sem.run_bind, run_underlying' h, Result.andThen_ok]
  cases d <;> rfl
theorem fits_agg {k : TK} {d : TypeDesc} (h : fitsK k d = true) : dAgg d = k.agg := by
  cases k <;> cases d <;> simp_all [fitsK, dAgg, TK.agg]

theorem RepT.d_inv {v : Value} {x : D} (h : RepT w N θ v (.d x)) : RepD w N v x := by cases h; assumption
theorem RepT.int_inv {v : Value} {k : IntKind} {n : Int} (h : RepT w N θ v (.d (.int k n))) : v = .int k n := by cases h with | d h => cases h; rfl
theorem RepT.bool_inv {v : Value} {b : Bool} (h : RepT w N θ v (.d (.bool b))) : v = .bool b := by cases h with | d h => cases h; rfl
theorem RepT.str_inv {v : Value} {s : List UInt8} (h : RepT w N θ v (.d (.str s))) : v = .string ⟨s.toArray⟩ := by cases h with | d h => cases h; rfl
theorem RepT.int (k : IntKind) (n : Int) : RepT w N θ (.int k n) (.d (.int k n)) := .d (.int k n)
theorem RepT.bool (b : Bool) : RepT w N θ (.bool b) (.d (.bool b)) := .d (.bool b)
theorem RepT.str (s : List UInt8) : RepT w N θ (.string ⟨s.toArray⟩) (.d (.str s)) := .d (.str s)

theorem InR_wrap {k : IntKind} {n : Int} (h : InR k n) : k.wrap n = n := by
  cases k <;> simp only [InR] at h <;> simp [IntKind.wrap, IntKind.bits, IntKind.signed] <;> omega

/-- A value that is a number's. -/
theorem fit_sound {k : IntKind} {n : Int} {K : T → Prop} (h : fit k n K) : ∃ r, RepT w N θ (.int k (k.wrap n)) r ∧ K r := by
  rcases h with ⟨h1, h2⟩ | h
  · exact ⟨_, by rw [InR_wrap h1]; exact .int k n, h2⟩
  · exact ⟨_, .int k _, h⟩

theorem evInt_sound {op : BinOp} {k : IntKind} {m n : Int} {K : T → Prop} {t : TypeId} (hne : op ≠ .shl) (hne2 : op ≠ .shr) (h : evInt op k m n K) :
    ∃ u r, (binOp op t (.int k m) (.int k n)).run P w = .ok u w ∧ RepT w N θ u r ∧ K r := by
  cases op <;> simp only [evInt] at h
  case add => obtain ⟨r, h1, h2⟩ := fit_sound (w := w) (N := N) (θ := θ) h; exact ⟨_, r, by simp [binOp, Op.intArith], h1, h2⟩
  case sub => obtain ⟨r, h1, h2⟩ := fit_sound (w := w) (N := N) (θ := θ) h; exact ⟨_, r, by simp [binOp, Op.intArith], h1, h2⟩
  case mul => obtain ⟨r, h1, h2⟩ := fit_sound (w := w) (N := N) (θ := θ) h; exact ⟨_, r, by simp [binOp, Op.intArith], h1, h2⟩
  case quo =>
    obtain ⟨h0, h⟩ := h
    obtain ⟨r, h1, h2⟩ := fit_sound (w := w) (N := N) (θ := θ) h; exact ⟨_, r, by simp [binOp, Op.intDiv, h0], h1, h2⟩
  case rem => obtain ⟨h0, h⟩ := h; exact ⟨.int k (m.tmod n), _, by simp [binOp, Op.intDiv, h0], .int k _, h⟩
  case and => exact ⟨.int k (bitsI .and k m n), _, by simp [binOp, Op.intBits, bitsI], .int k _, h⟩
  case or => exact ⟨.int k (bitsI .or k m n), _, by simp [binOp, Op.intBits, bitsI], .int k _, h⟩
  case xor => exact ⟨.int k (bitsI .xor k m n), _, by simp [binOp, Op.intBits, bitsI], .int k _, h⟩
  case andNot => exact ⟨.int k (bitsI .andNot k m n), _, by simp [binOp, Op.intBits, bitsI], .int k _, h⟩
  case eql => exact ⟨.bool (m == n), _, by simp [binOp, Op.intCmp], .bool _, h⟩
  case neq => exact ⟨.bool (m != n), _, by simp [binOp, Op.intCmp], .bool _, h⟩
  case lss => exact ⟨.bool (decide (m < n)), _, by simp [binOp, Op.intCmp], .bool _, h⟩
  case leq => exact ⟨.bool (decide (m ≤ n)), _, by simp [binOp, Op.intCmp], .bool _, h⟩
  case gtr => exact ⟨.bool (decide (m > n)), _, by simp [binOp, Op.intCmp], .bool _, h⟩
  case geq => exact ⟨.bool (decide (m ≥ n)), _, by simp [binOp, Op.intCmp], .bool _, h⟩
  all_goals exact h.elim

theorem toList_mk (s : List UInt8) : (⟨s.toArray⟩ : ByteArray).toList = s := by rw [ByteArray.toList_eq]

theorem evStr_sound {op : BinOp} {x y : List UInt8} {K : T → Prop} {t : TypeId} (h : evStr op x y K) :
    ∃ u r, (binOp op t (.string ⟨x.toArray⟩) (.string ⟨y.toArray⟩)).run P w = .ok u w ∧ RepT w N θ u r ∧ K r := by
  cases op <;> simp only [evStr] at h
  case add =>
    obtain ⟨h0, h⟩ := h
    refine ⟨.string ⟨(x ++ y).toArray⟩, _, ?_, .str _, h⟩
    have h1 : ¬ (((x.length + y.length : Nat) : Int) > IntKind.i64.max) := by simp [IntKind.max, IntKind.signed, IntKind.bits]; omega
    have e1 : (⟨x.toArray⟩ : ByteArray).size = x.length := by simp [ByteArray.size]
    have e2 : (⟨y.toArray⟩ : ByteArray).size = y.length := by simp [ByteArray.size]
    have e3 : ((⟨x.toArray⟩ : ByteArray) ++ (⟨y.toArray⟩ : ByteArray)) = ⟨(x ++ y).toArray⟩ := by
      apply ByteArray.ext; simp [ByteArray.data_append]
    simp only [binOp, Op.stringOp, e1, e2, e3]
    rw [if_neg h1]
    rfl
  all_goals exact ⟨_, _, by simp only [binOp, Op.stringOp, toList_mk]; rfl, .bool _, h⟩

theorem run_eqGuard_str {op : BinOp} {t : TypeId} {x y : Operand} {p q : ByteArray} : (eqGuard op t x y (.string p) (.string q)).run P w = .ok () w := by
  unfold eqGuard; split <;> rfl
theorem run_eqGuard_int {op : BinOp} {t : TypeId} {x y : Operand} {k k' : IntKind} {p q : Int} : (eqGuard op t x y (.int k p) (.int k' q)).run P w = .ok () w := by
  unfold eqGuard; split <;> rfl
theorem run_eqGuard_bool {op : BinOp} {t : TypeId} {x y : Operand} {p q : Bool} : (eqGuard op t x y (.bool p) (.bool q)).run P w = .ok () w := by
  unfold eqGuard; split <;> rfl

theorem run_equalIn_bool (d : Nat) {t : TypeId} {p q : Bool} (hu : P.underlying t = some .bool) : (Op.equalIn (d + 1) t (.bool p) (.bool q)).run P w = .ok (p == q) w := by
  simp only [Op.equalIn, Sem.run_bind, run_underlying' hu, Result.andThen_ok, Sem.run_pure]
theorem run_equal_bool {t : TypeId} {p q : Bool} (hu : P.underlying t = some .bool) : (Op.equal t (.bool p) (.bool q)).run P w = .ok (p == q) w := run_equalIn_bool 9999 hu
theorem part_one {t o : Nat} {vs : Array Value} {d : TypeDesc} (hu : P.underlying t = some d) (ha : dAgg d = false) (h : o < vs.size) : (part t vs o).run P w = .ok (vs.getD o undef) w := by
  simp only [part, Sem.run_bind, run_isAgg hu, Result.andThen_ok, ha, Bool.false_eq_true, if_false, Array.getElem?_eq_getElem h, Sem.run_pure]
  simp [h]
theorem eqLeaf_run {tab : Tab} (tk : TabOK P tab) {n : Nat} {t : TypeId} {j : TyI} {x y : T} {u v : Value} {b : Bool} (ht : tab.ty t = some j) (hx : RepT w N θ u x) (hy : RepT w N θ v y) (h : eqLeaf j.k x y = some b) :
    (Op.equalIn (n + 1) t u v).run P w = .ok b w ∧ ∃ d, P.underlying t = some d ∧ dAgg d = false := by
  obtain ⟨info, d, i1, i2, i3, _⟩ := tk.ty t j ht
  have hag := fits_agg i3
  unfold eqLeaf at h
  split at h
  · rename_i p q hk
    obtain rfl := hx.bool_inv
    obtain rfl := hy.bool_inv
    rw [hk] at i3 hag
    cases d <;> simp [fitsK] at i3
    cases h
    exact ⟨by simp only [Op.equalIn, Sem.run_bind, run_underlying' i2, Result.andThen_ok, Sem.run_pure], _, i2, hag⟩
  · rename_i q k p k' r hk
    obtain rfl := hx.int_inv
    obtain rfl := hy.int_inv
    rw [hk] at i3 hag
    split at h
    case h_2 => cases h
    rename_i e1 e2
    obtain rfl := kq_iff.mp e1
    obtain rfl := kq_iff.mp e2
    cases d <;> simp [fitsK] at i3
    cases h
    refine ⟨?_, _, i2, hag⟩
    simp only [Op.equalIn, Sem.run_bind, run_underlying' i2, Result.andThen_ok, if_true, Sem.run_pure]
  · rename_i p q hk
    obtain rfl := hx.str_inv
    obtain rfl := hy.str_inv
    rw [hk] at i3 hag
    cases d <;> simp [fitsK] at i3
    cases h
    refine ⟨?_, _, i2, hag⟩
    simp only [Op.equalIn, Sem.run_bind, run_underlying' i2, Result.andThen_ok, Sem.run_pure]
    rw [beq_toListBytes, toList_mk, toList_mk]
  · cases h
theorem eqFields_run {tab : Tab} (tk : TabOK P tab) {n : Nat} {vs us : Array Value} : ∀ (fl : List Field) (fs : List (Nat × Nat)) (i : Nat) (xs ys : List T) (b : Bool), fs = fl.map (fun f => (f.offset, f.type)) → (∀ f ∈ fl, (f.name == "_") = false) →
    (∀ (j : Nat) (x : T), xs[j]? = some x → RepT w N θ (vs.getD (i + j) undef) x ∧ i + j < vs.size) → (∀ (j : Nat) (x : T), ys[j]? = some x → RepT w N θ (us.getD (i + j) undef) x ∧ i + j < us.size) →
    eqCells tab i fs xs ys = some b → (Op.eqFields (n + 1) vs us fl).run P w = .ok b w
  | [], [], i, [], [], b, _, _, _, _, h => by simp [eqCells] at h; subst h; simp [Op.eqFields]
  | f :: fl, (o, ft) :: fs, i, x :: xs, y :: ys, b, hf, hn, hx, hy, h => by
    simp only [List.map_cons, List.cons.injEq, Prod.mk.injEq] at hf
    obtain ⟨⟨rfl, rfl⟩, hf⟩ := hf
    unfold eqCells at h
    split at h
    case h_2 => cases h
    rename_i j hj ht
    have ho := Nat.eq_of_beq_eq_true hj
    split at h
    case h_2 => cases h
    rename_i p q hp hq
    cases h
    have hx0 := hx 0 x rfl
    have hy0 := hy 0 y rfl
    simp only [Nat.add_zero] at hx0 hy0
    obtain ⟨e1, d, e2, e3⟩ := eqLeaf_run (n := n) tk ht hx0.1 hy0.1 hp
    have ih := eqFields_run tk (n := n) fl fs (i + 1) xs ys q hf (fun f hf => hn f (List.mem_cons_of_mem _ hf)) (fun j x hj => by have := hx (j + 1) x (by simpa using hj); rwa [show i + (j + 1) = i + 1 + j by omega] at this)
      (fun j x hj => by have := hy (j + 1) x (by simpa using hj); rwa [show i + (j + 1) = i + 1 + j by omega] at this) hq
    have hn' : f.name ≠ "_" := by have := hn f (List.mem_cons_self ..); simpa using this
    rw [Op.eqFields, if_pos hn']
    simp only [Sem.run_bind, ho, part_one (w := w) e2 e3 hx0.2, part_one (w := w) e2 e3 hy0.2, Result.andThen_ok, e1]
    cases p
    · simp
    · simpa using ih
  | [], [], i, x :: xs, ys, b, _, _, _, _, h => by simp [eqCells] at h
  | [], [], i, [], y :: ys, b, _, _, _, _, h => by simp [eqCells] at h
  | [], _ :: _, _, _, _, _, hf, _, _, _, _ => by simp at hf
  | _ :: _, [], _, _, _, _, hf, _, _, _, _ => by simp at hf
  | _ :: _, _ :: _, _, [], _, _, _, _, _, _, h => by simp [eqCells] at h
  | _ :: _, _ :: _, _, _ :: _, [], _, _, _, _, _, h => by simp [eqCells] at h
theorem run_eqGuard_agg {op : BinOp} {t : TypeId} {x y : Operand} {p q : Array Value} (h : P.eqGuardType P.depth t = false) : (eqGuard op t x y (.agg p) (.agg q)).run P w = .ok () w := by
  unfold eqGuard
  cases op <;> simp [Sem.run_bind, run_program, Result.andThen_ok, h]
theorem evBin_sound {tab : Tab} (tk : TabOK P tab) {op : BinOp} {t : TypeId} {ox oy : Operand} {vx vy : Value} {x y : T} {K : T → Prop} (hx : RepT w N θ vx x) (hy : RepT w N θ vy y) (h : evBin tab op t x y K) :
    ∃ u r, (do eqGuard op t ox oy vx vy; binOp op t vx vy : Sem Value).run P w = .ok u w ∧ RepT w N θ u r ∧ K r := by
  unfold evBin at h
  split at h
  · rename_i k m k' n
    obtain rfl := hx.int_inv
    obtain rfl := hy.int_inv
    simp only [Sem.run_bind, run_eqGuard_int, Result.andThen_ok]
    split at h
    · obtain ⟨h0, h⟩ := h
      obtain ⟨r, h1, h2⟩ := fit_sound (w := w) (N := N) (θ := θ) h
      refine ⟨_, r, ?_, h1, h2⟩
      have : ¬ n < 0 := by omega
      simp [binOp, Op.shift, this]
    · obtain ⟨h0, h⟩ := h
      refine ⟨_, _, ?_, .int k _, h⟩
      have : ¬ n < 0 := by omega
      simp [binOp, Op.shift, this]
    · rename_i h1 h2
      cases hk : kq k k' with
      | false => simp [hk] at h
      | true =>
        simp only [hk] at h
        obtain rfl := kq_iff.mp hk
        exact evInt_sound h1 h2 h
  · obtain rfl := hx.str_inv
    obtain rfl := hy.str_inv
    simp only [Sem.run_bind, run_eqGuard_str, Result.andThen_ok]
    exact evStr_sound h
  · obtain rfl := hx.bool_inv
    obtain rfl := hy.bool_inv
    simp only [Sem.run_bind, run_eqGuard_bool, Result.andThen_ok]
    rename_i p q
    cases hb : tab.isBool t with
    | false => simp [hb] at h
    | true =>
      simp only [hb] at h
      have hu : P.underlying t = some .bool := by
        unfold Tab.isBool at hb
        cases ht : tab.ty t with
        | none => simp [ht] at hb
        | some i =>
          obtain ⟨info, d, _, h2, h3, _⟩ := tk.ty t i ht
          rw [h2]
          cases hk : i.k <;> simp [ht, hk] at hb
          rw [hk] at h3
          cases d <;> simp_all [fitsK]
      have he : (Op.equal t (.bool p) (.bool q)).run P w = .ok (p == q) w := run_equal_bool hu
      split at h
      · exact ⟨.bool (p == q), _, by simp [binOp, he], .bool _, h⟩
      · exact ⟨.bool (!(p == q)), _, by simp [binOp, he], .bool _, h⟩
      · exact h.elim
  · rename_i xs ys
    cases hx with
    | agg vs _ hl hc =>
    cases hy with
    | agg us _ hl' hc' =>
    cases ht : tab.ty t with
    | none => simp [ht] at h
    | some i =>
      simp only [ht] at h
      split at h
      case h_2 => exact h.elim
      rename_i fs hk
      split at h
      case h_2 => exact h.elim
      rename_i b hm hb
      obtain ⟨q1, q2, q3, q4⟩ := tk.eqs t hm
      obtain ⟨info, d, i1, i2, i3, _⟩ := tk.ty t i ht
      rw [hk] at i3
      rw [q1] at i2
      cases i2
      have hfs : fs = (P.fieldsOf t).toList.map fun f => (f.offset, f.type) := by simpa [fitsK] using i3
      have hr : (Op.equal t (.agg vs) (.agg us)).run P w = .ok b w := by
        show (Op.equalIn (9999 + 1) t (.agg vs) (.agg us)).run P w = _
        rw [run_equalIn_struct w 9999 t vs us q1 q2]
        exact eqFields_run tk (n := 9998) _ fs 0 xs ys b hfs q4 (fun j x hj => ⟨by simpa using hc j x hj, by rw [hl]; simpa using (List.getElem?_eq_some_iff.mp hj).1⟩) (fun j x hj => ⟨by simpa using hc' j x hj, by rw [hl']; simpa using (List.getElem?_eq_some_iff.mp hj).1⟩) hb
      simp only [Sem.run_bind, run_eqGuard_agg q3, Result.andThen_ok]
      split at h
      · exact ⟨.bool b, _, by simp [binOp, hr], .bool _, h⟩
      · exact ⟨.bool (!b), _, by simp [binOp, hr], .bool _, h⟩
      · exact h.elim
  · exact h.elim

theorem evUn_sound {op : UnOp} {v : Value} {x : T} {K : T → Prop} (hx : RepT w N θ v x) (h : evUn op x K) : ∃ u r, (Op.unary op v).run P w = .ok u w ∧ RepT w N θ u r ∧ K r := by
  unfold evUn at h
  split at h
  · obtain rfl := hx.bool_inv
    rename_i b
    exact ⟨.bool (!b), _, by simp [Op.unary], .bool _, h⟩
  · obtain rfl := hx.int_inv
    obtain ⟨r, h1, h2⟩ := fit_sound (w := w) (N := N) (θ := θ) h
    exact ⟨_, r, by simp only [Op.unary, Op.intArith, Sem.run_pure], h1, h2⟩
  · exact h.elim
end Go.VL

/- Reading and writing cells. -/
namespace Go.VL
open Go Go.RowKit

variable {P : Program} {X O : Nat → Prop} {w0 w w' : World} {θ θ' : Th} {st : St} {a : Act} {N : Nat → Prop}

theorem nth_eq {α : Type} : ∀ (l : List α) (n : Nat), nth l n = l[n]?
  | [], n => by simp [nth]
  | x :: r, 0 => by simp [nth]
  | x :: r, n + 1 => by simp [nth, nth_eq r n]
theorem dropN_eq {α : Type} : ∀ (l : List α) (n : Nat), dropN l n = l.drop n
  | [], 0 => by simp [dropN]
  | [], n + 1 => by simp [dropN]
  | x :: r, 0 => by simp [dropN]
  | x :: r, n + 1 => by simp [dropN, dropN_eq r n]
theorem takeN_eq {α : Type} : ∀ (l : List α) (n : Nat) (r : List α), takeN l n = some r → r = l.take n ∧ n ≤ l.length
  | [], 0, r, h => by simp [takeN] at h; simp [h]
  | x :: l, 0, r, h => by simp [takeN] at h; simp [h]
  | [], n + 1, r, h => by simp [takeN] at h
  | x :: l, n + 1, r, h => by
    simp only [takeN] at h
    cases hk : takeN l n with
    | none => simp [hk] at h
    | some r' =>
      simp [hk] at h
      obtain ⟨h1, h2⟩ := takeN_eq l n r' hk
      subst h
      exact ⟨by simp [h1], by simpa using h2⟩
theorem lay_eq {α : Type} : ∀ (xs : List α) (n : Nat) (ys r : List α), lay xs n ys = some r → r.length = xs.length ∧ (ys ≠ [] → n + ys.length ≤ xs.length) ∧ ∀ k, r[k]? = if n ≤ k ∧ k < n + ys.length then ys[k - n]? else xs[k]?
  | [], n, [], r, h => by simp [lay] at h; subst h; refine ⟨rfl, by simp, fun k => ?_⟩; rw [if_neg (fun hh => by simp at hh; omega)]
  | [], n, y :: ys, r, h => by simp [lay] at h
  | x :: xs, n, [], r, h => by simp [lay] at h; subst h; refine ⟨rfl, by simp, fun k => ?_⟩; rw [if_neg (fun hh => by simp at hh; omega)]
  | x :: xs, n + 1, y :: ys, r, h => by
    simp only [lay] at h
    cases hk : lay xs n (y :: ys) with
    | none => simp [hk] at h
    | some r' =>
      simp [hk] at h
      subst h
      obtain ⟨h1, h2, h3⟩ := lay_eq xs n (y :: ys) r' hk
      refine ⟨by simp [h1], fun _ => by have := h2 (by simp); simp at this ⊢; omega, fun k => ?_⟩
      cases k with
      | zero => simp
      | succ k =>
        simp only [List.getElem?_cons_succ, h3 k]
        by_cases hc : n ≤ k ∧ k < n + (y :: ys).length
        · rw [if_pos hc, if_pos (by omega), show k + 1 - (n + 1) = k - n by omega]
        · rw [if_neg hc, if_neg (by omega)]
  | x :: xs, 0, y :: ys, r, h => by
    simp only [lay] at h
    cases hk : lay xs 0 ys with
    | none => simp [hk] at h
    | some r' =>
      simp [hk] at h
      subst h
      obtain ⟨h1, h2, h3⟩ := lay_eq xs 0 ys r' hk
      refine ⟨by simp [h1], fun _ => ?_, fun k => ?_⟩
      · by_cases hy : ys = []
        · subst hy; simp
        · have := h2 hy; simp at this ⊢; omega
      · cases k with
        | zero => simp
        | succ k =>
          simp only [List.getElem?_cons_succ, h3 k]
          by_cases hc : k < ys.length
          · rw [if_pos (by omega), if_pos (by simp; omega)]; simp
          · rw [if_neg (by omega), if_neg (by simp; omega)]

theorem add_off (b o j : Nat) : (⟨b, o, none⟩ : Addr).add j = ⟨b, o + j, none⟩ := by unfold Addr.add; split <;> simp_all
theorem add_off' {ad : Addr} (h : ad.spot = none) (j : Nat) : ad.add j = ⟨ad.block, ad.off + j, none⟩ := by
  obtain ⟨b, o, s⟩ := ad
  simp only at h
  subst h
  exact add_off b o j

theorem RepD.one {v : Value} {x : D} (h : RepD w N v x) : v.oneCell' = true := by cases h <;> rfl
theorem RepT.one {v : Value} {x : T} (h : RepT w N θ v x) (hl : leafy x = true) : v.oneCell' = true := by
  cases h <;> first | rfl | (simp [leafy] at hl; done) | (rename_i h; exact h.one) | (rename_i h; rcases h with rfl | rfl <;> rfl)
theorem oneCell_cells {v : Value} (h : v.oneCell' = true) : v.cells = #[v] := by cases v <;> first | rfl | simp [Value.oneCell'] at h

/-- A variable's value out of its cells. -/
theorem ldT_sound {tab : Tab} (tk : TabOK P tab) {t : Nat} {cs : List T} {K : T → Prop} {ad : Addr} (hsp : ad.spot = none) (hc : ∀ (j : Nat) (x : T), cs[j]? = some x → ∃ u, cellAt w ad.block (ad.off + j) = some u ∧ RepT w N θ u x)
    (h : ldT tab t cs K) : ∃ u r, (loadVar t ad).run P w = .ok u w ∧ RepT w N θ u r ∧ K r := by
  unfold ldT at h
  cases ht : tab.ty t with
  | none => simp [ht] at h
  | some i =>
    simp only [ht] at h
    obtain ⟨info, d, i1, i2, i3, i4, _⟩ := tk.ty t i ht
    have hag := fits_agg i3
    cases ha : i.k.agg with
    | true =>
      simp only [ha] at h
      cases hk : takeN cs i.size with
      | none => simp [hk] at h
      | some l =>
        simp only [hk] at h
        obtain ⟨rfl, hlen⟩ := takeN_eq _ _ _ hk
        have hf : ∀ j, j < i.size → ∃ u, w.cell? (ad.add j) = some u ∧ ∀ x, cs[j]? = some x → RepT w N θ u x := fun j hj => by
          obtain ⟨u, u1, u2⟩ := hc j cs[j] (by simp)
          exact ⟨u, by rw [add_off' hsp]; exact u1, fun x hx => by rw [List.getElem?_eq_getElem (by omega)] at hx; cases hx; exact u2⟩
        have hl := run_loadCells (P := P) w ad i.size (fun j => (w.cell? (ad.add j)).getD undef) (fun j hj => by obtain ⟨u, u1, _⟩ := hf j hj; simp [u1])
        refine ⟨.agg ((List.range i.size).map fun j => (w.cell? (ad.add j)).getD undef).toArray, .agg (cs.take i.size), ?_, .agg _ _ ?_ ?_, h⟩
        · simp only [loadVar, Sem.run_bind, run_isAgg i2, Result.andThen_ok, hag, ha, if_true, run_sizeOf i1, i4, hl, Sem.run_pure]
        · simp; omega
        · intro j x hx
          rw [List.getElem?_take] at hx
          by_cases hj : j < i.size
          · rw [if_pos hj] at hx
            obtain ⟨u, u1, u2⟩ := hf j hj
            simp [hj, u1]
            exact u2 x hx
          · simp [hj] at hx
    | false =>
      simp only [ha] at h
      cases cs with
      | nil => exact h.elim
      | cons x r =>
        simp only at h
        obtain ⟨u, u1, u2⟩ := hc 0 x rfl
        refine ⟨u, x, ?_, u2, h⟩
        have : w.cell? ad = some u := by
          obtain ⟨b, o, s⟩ := ad; simp only at hsp; subst hsp; simpa [cellAt] using u1
        simp only [loadVar, Sem.run_bind, run_isAgg i2, Result.andThen_ok, hag, ha, Bool.false_eq_true, if_false, run_load, this]
theorem ldD_T {tab : Tab} {t : Nat} {cs : List D} {K : T → Prop} (h : ldD tab t cs K) : ldT tab t (cs.map T.d) K := by
  unfold ldD at h
  unfold ldT
  cases ht : tab.ty t with
  | none => simp [ht] at h
  | some i =>
    simp only [ht] at h ⊢
    cases ha : i.k.agg with
    | true =>
      simp only [ha] at h ⊢
      have : ∀ (cs : List D) (n : Nat), takeN (cs.map T.d) n = (takeN cs n).map (·.map T.d) := by
        intro cs
        induction cs with
        | nil => intro n; cases n <;> simp [takeN]
        | cons x r ih => intro n; cases n with
          | zero => simp [takeN]
          | succ n => simp only [List.map_cons, takeN, ih]; cases takeN r n <;> simp
      rw [this]
      cases hk : takeN cs i.size with
      | none => simp [hk] at h
      | some l => simpa [hk] using h
    | false =>
      simp only [ha] at h ⊢
      cases cs with
      | nil => exact h.elim
      | cons x r => exact h

theorem evLoad_sound {tab : Tab} (tk : TabOK P tab) (hp : HpS P X O w0.heap.size θ st.h w) {t : Nat} {v : Value} {x : T} {K : T → Prop} (hv : RepT w (Nn X θ st.h) θ v x) (h : evLoad tab t x st K) :
    ∃ u r, (Instr.loadAt t v).run P w = .ok u w ∧ RepT w (Nn X θ st.h) θ u r ∧ K r := by
  unfold evLoad at h
  split at h
  · rename_i x0 r0
    generalize hcs : x0 :: r0 = cs at *
    cases hv with
    | cref ad _ c hb hc hr =>
      obtain ⟨h1, h2, h3⟩ := hb (by rw [← hcs]; simp)
      have := ldT_sound (w := w) (N := Nn X θ st.h) (θ := θ) tk h1 (cs := cs.map T.d) (fun j x hx => by
        rw [List.getElem?_map] at hx
        cases hd : cs[j]? with
        | none => simp [hd] at hx
        | some d =>
          simp [hd] at hx
          subst hx
          exact ⟨c j, hc j d hd, .d (hr j d hd)⟩) (ldD_T h)
      simpa [Instr.loadAt, Instr.sureAddr] using this
  · rename_i id i o
    cases hv with
    | ref _ _ _ l hθ b hb =>
      cases hlk : look st.h id with
      | none => simp [hlk] at h
      | some ob =>
        obtain ⟨l', k1, k2⟩ := hp.ob id ob hlk
        rw [hθ] at k1; cases k1
        cases ob with
        | var ty cs =>
          simp only [hlk] at h
          cases hi : Nat.beq i 0 with
          | false => simp [hi] at h
          | true =>
            simp only [hi] at h
            obtain rfl := Nat.eq_of_beq_eq_true hi
            obtain ⟨z1, z2, b', vs, fr, m1, m2, m3, m4, m5⟩ := k2
            rw [hb] at m1; cases m1
            rw [dropN_eq] at h
            have := ldT_sound (w := w) (N := Nn X θ st.h) (θ := θ) tk (ad := ⟨b, l.o0 + 0 * l.sz + o, none⟩) rfl (cs := cs.drop o) (fun j x hx => by
              rw [List.getElem?_drop] at hx
              obtain ⟨u, u1, u2⟩ := m5 (o + j) x hx
              exact ⟨u, by simp [cellAt, World.cell?, m2, z2, u1], u2⟩) h
            simpa [Instr.loadAt, Instr.sureAddr] using this
        | row e es =>
          simp only [hlk] at h
          obtain ⟨hi, h⟩ := h
          have h : ldD tab t (dropN es[i] o) K := h es[i] (by simp [hi])
          obtain ⟨z1, z2, z3, z4⟩ := k2
          simp only [hb] at z4
          obtain ⟨cs, fr, m2, m3, m4, m5⟩ := z4
          rw [dropN_eq] at h
          have := ldT_sound (w := w) (N := Nn X θ st.h) (θ := θ) tk (ad := ⟨b, l.o0 + i * l.sz + o, none⟩) rfl (cs := (es[i].drop o).map T.d) (fun j x hx => by
            rw [List.getElem?_map, List.getElem?_drop] at hx
            cases hd : es[i][o + j]? with
            | none => simp [hd] at hx
            | some d =>
              simp [hd] at hx
              subst hx
              obtain ⟨u, u1, u2⟩ := m5 i (o + j) d (by simp [hi, hd])
              exact ⟨u, by simp [cellAt, World.cell?, m2]; rw [show l.o0 + i * l.sz + o + j = l.o0 + i * l.sz + (o + j) by omega]; exact u1, .d u2⟩) (ldD_T h)
          simpa [Instr.loadAt, Instr.sureAddr] using this
        | map es => simp [hlk] at h
        | iter s p => simp [hlk] at h
  · exact h.elim

/-- Only block b has turned, and it kept its size and type. -/
structure Wr (w : World) (b : Nat) (w' : World) : Prop where
  os : w'.os = w.os
  tape : w'.tape = w.tape
  output : w'.output = w.output
  size : w'.heap.size = w.heap.size
  other : ∀ c, c ≠ b → w'.heap[c]? = w.heap[c]?
  shp : Szp w w'

theorem Wr.kp {b B : Nat} (h : Wr w b w') (hb : O b ∨ B ≤ b) (hB : B = w0.heap.size) (hk : Kp O w0 w) : Kp O w0 w' :=
  hk.trans' (O' := fun c => c = b) ⟨h.os, h.tape, h.output, by rw [h.size]; exact Nat.le_refl _, fun c _ hc => h.other c hc, h.shp⟩ (fun c hc e => by
    subst e
    rcases hb with hb | hb
    · exact hb
    · omega)

theorem run_stores {b e : Nat} {cs : Array Value} {fr : Nat × Nat} : ∀ (vs : List Value) (o : Nat) (w : World), w.heap[b]? = some (.cells cs e fr) → nf fr cs.size → o + vs.length ≤ cs.size → (∀ v ∈ vs, v.oneCell' = true) →
    ∃ w', (storeCells ⟨b, o, none⟩ vs 0).run P w = .ok () w' ∧ Wr w b w' ∧ ∃ cs', w'.heap[b]? = some (.cells cs' e fr) ∧ cs'.size = cs.size ∧ ∀ k, cs'[k]? = if o ≤ k ∧ k < o + vs.length then vs[k - o]? else cs[k]? := by
  intro vs o w hb hnf hin h1
  have hrun := run_storeCells_cells (P := P) b o vs 0 w (fun j hj => by simp [World.cell?, hb]; omega) (fun j hj => by
    have := hnf (o + j) (by omega)
    obtain ⟨lo, hi⟩ := fr
    simp only [World.frozen?, hb, Nat.add_zero, Bool.and_eq_false_iff, decide_eq_false_iff_not]
    simp only at this
    omega) h1
  refine ⟨_, hrun, ?_⟩
  clear hrun
  simp only [Nat.add_zero]
  induction vs generalizing o w cs with
  | nil => exact ⟨⟨rfl, rfl, rfl, rfl, fun _ _ => rfl, Szp.refl w⟩, cs, hb, rfl, fun k => by rw [if_neg (fun hh => by simp at hh; omega)]⟩
  | cons v r ih =>
    simp only [World.setCells]
    have hb1 : (w.setCell ⟨b, o, none⟩ v).heap[b]? = some (.cells (cs.setIfInBounds o v) e fr) := by
      simp [World.setCell, Array.getElem?_modify, hb]
    obtain ⟨hw, cs', g1, g2, g3⟩ := ih (cs := cs.setIfInBounds o v) (o + 1) (w.setCell ⟨b, o, none⟩ v) hb1 (by simpa using hnf) (by simp at hin ⊢; omega) (fun x hx => h1 x (by simp [hx]))
    refine ⟨⟨hw.os, hw.tape, hw.output, by rw [hw.size]; simp, fun c hc => (hw.other c hc).trans (by simp [World.setCell, Array.getElem?_modify, Ne.symm hc]), ?_⟩, cs', g1, by rw [g2]; simp, fun k => ?_⟩
    · refine Szp.trans (w' := w.setCell ⟨b, o, none⟩ v) (fun c cs1 e1 fr1 h => ?_) hw.shp
      by_cases hc : c = b
      · subst hc
        rw [hb] at h; cases h
        exact ⟨_, _, hb1, by simp⟩
      · exact ⟨cs1, fr1, by simp only [World.setCell, Array.getElem?_modify]; rw [if_neg (Ne.symm hc)]; exact h, rfl⟩
    · rw [g3 k]
      by_cases h0 : k = o
      · subst h0
        rw [if_neg (by omega), if_pos (by simp)]
        simp at hin
        simp [Array.getElem?_setIfInBounds]
        omega
      · by_cases h2 : o + 1 ≤ k ∧ k < o + 1 + r.length
        · rw [if_pos h2, if_pos (by simp; omega)]
          obtain ⟨m, rfl⟩ : ∃ m, k = o + 1 + m := ⟨k - (o + 1), by omega⟩
          rw [show o + 1 + m - (o + 1) = m by omega, show o + 1 + m - o = m + 1 by omega]
          simp
        · rw [if_neg h2, if_neg (by simp; omega)]
          simp [Ne.symm h0]

theorem cells_len {v : Value} {x : T} {l : List T} (h : RepT w N θ v x) (hc : x.cells = some l) : v.cells.size = l.length ∧ ∀ (j : Nat) (y : T), l[j]? = some y → ∃ u, v.cells[j]? = some u ∧ RepT w N θ u y := by
  cases x with
  | agg xs =>
    cases h with
    | agg vs _ hl hx =>
      simp [T.cells] at hc; subst hc
      refine ⟨hl, fun j y hy => ⟨vs.getD j undef, ?_, hx j y hy⟩⟩
      have : j < vs.size := by rw [hl]; exact (List.getElem?_eq_some_iff.mp hy).1
      simp [Value.cells, this]
  | tup xs => simp [T.cells] at hc
  | dead => simp [T.cells] at hc
  | _ =>
    simp [T.cells] at hc
    subst hc
    have := oneCell_cells (h.one rfl)
    refine ⟨by rw [this]; rfl, fun j y hy => ⟨v, ?_, ?_⟩⟩
    · cases j with
      | zero => simp [this]
      | succ j => simp at hy
    · cases j with
      | zero => simp at hy; subst hy; exact h
      | succ j => simp at hy
end Go.VL
