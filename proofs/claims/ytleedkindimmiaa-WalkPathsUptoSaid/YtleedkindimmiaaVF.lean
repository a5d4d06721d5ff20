/- Each operation keeps to what the generator says of it (1). -/
import Derived.Test.YtleedkindimmiaaVE
import Derived.Laws.Sem
import Derived.Laws.Strings
set_option linter.unusedVariables false
set_option linter.unusedSimpArgs false
namespace Go.VL
open Go Go.RowKit

variable {P : Program} {X O : Nat → Prop} {w0 w w' : World} {θ θ' : Th} {st : St} {a : Act} {N : Nat → Prop}

def fitsK : TK → TypeDesc → Bool
  | .bool, .bool => true
  | .int k, .int k' => kq k k'
  | .str, .string => true
  | .slice e, .slice e' => Nat.beq e e'
  | .array n e, .array n' e' => Nat.beq n n' && Nat.beq e e'
  | .struct fs, .struct fields => decide (fs = fields.toList.map fun f => (f.offset, f.type))
  | .ptr e, .pointer e' => Nat.beq e e'
  | .map k e, .map k' e' => Nat.beq k k' && Nat.beq e e'
  | .func, .func _ _ _ => true
  | .iface, .interface _ => true
  | .other, .unsafePointer | .other, .chan _ _ | .other, .float _ | .other, .complex _ | .other, .tuple _ | .other, .invalid => true
  | _, _ => false

/-- A zero value's cell and how it is told. -/
def zq : Value → T → Bool
  | .bool false, .d (.bool false) => true
  | .int k n, .d (.int k' m) => kq k k' && decide (n = m)
  | .string s, .d (.str []) => decide (s.size = 0)
  | .slice none 0 0, .nils => true
  | .pointer none, .nilp => true
  | .nilFunc, .nilf => true
  | .nilIface, .nili => true
  | _, .dead => true
  | _, _ => false
def zqL : List Value → List T → Bool
  | [], [] => true
  | v :: vs, x :: xs => zq v x && zqL vs xs
  | _, _ => false

structure TabOK (P : Program) (tab : Tab) : Prop where
  ty : ∀ t i, tab.ty t = some i → ∃ info d, P.info? t = some info ∧ P.underlying t = some d ∧ fitsK i.k d = true ∧ info.size = i.size ∧ info.bytes = i.bytes ∧
    (∀ z, i.zero = some z → ∃ v, info.zero = some v ∧ v.cells.size = i.size ∧ zqL v.cells.toList z = true ∧ (i.k.agg = true → ∃ cs, v = .agg cs))
  ent : ∀ f, memN tab.ent f = true → ∃ fn, P.funcs[f]? = some fn ∧ (fn.name == "runtime.NumGoroutine") = false ∧ fn.body.isNone = false

theorem kq_iff {k k' : IntKind} : kq k k' = true ↔ k = k' := by cases k <;> cases k' <;> simp [kq]

theorem run_underlying' {t : TypeId} {d : TypeDesc} (h : P.underlying t = some d) (w : World) : (underlying t).run P w = .ok d w := by
  simp [underlying, h]
theorem run_typeInfo' {t : TypeId} {d : TypeInfo} (h : P.info? t = some d) (w : World) : (typeInfo t).run P w = .ok d w := by
  simp [typeInfo, h]
theorem run_sizeOf {t : TypeId} {d : TypeInfo} (h : P.info? t = some d) (w : World) : (sizeOf t).run P w = .ok d.size w := by
  simp [sizeOf, run_typeInfo' h]
theorem run_zeroValue {t : TypeId} {d : TypeInfo} {v : Value} (h : P.info? t = some d) (hz : d.zero = some v) (w : World) : (zeroValue t).run P w = .ok v w := by
  simp [zeroValue, run_typeInfo' h, hz]
def dAgg : TypeDesc → Bool
  | .struct _ | .array _ _ => true
  | _ => false
theorem run_isAgg {t : TypeId} {d : TypeDesc} (h : P.underlying t = some d) (w : World) : (isAgg t).run P w = .ok (dAgg d) w := by
  simp only [isAgg, Sem.run_bind, run_underlying' h, Result.andThen_ok]
  cases d <;> rfl
theorem fits_agg {k : TK} {d : TypeDesc} (h : fitsK k d = true) : dAgg d = k.agg := by
  cases k <;> cases d <;> simp_all [fitsK, dAgg, TK.agg]

theorem RepT.d_inv {v : Value} {x : D} (h : RepT w N θ v (.d x)) : RepD w N v x := by cases h; assumption
theorem RepT.int_inv {v : Value} {k : IntKind} {n : Int} (h : RepT w N θ v (.d (.int k n))) : v = .int k n := by cases h with | d h => cases h; rfl
theorem RepT.bool_inv {v : Value} {b : Bool} (h : RepT w N θ v (.d (.bool b))) : v = .bool b := by cases h with | d h => cases h; rfl
theorem RepT.str_inv {v : Value} {s : List UInt8} (h : RepT w N θ v (.d (.str s))) : v = .string ⟨s.toArray⟩ := by cases h with | d h => cases h; rfl
theorem RepT.int (k : IntKind) (n : Int) : RepT w N θ (.int k n) (.d (.int k n)) := .d (.int k n)
theorem RepT.bool (b : Bool) : RepT w N θ (.bool b) (.d (.bool b)) := .d (.bool b)
theorem RepT.str (s : List UInt8) : RepT w N θ (.string ⟨s.toArray⟩) (.d (.str s)) := .d (.str s)

theorem InR_wrap {k : IntKind} {n : Int} (h : InR k n) : k.wrap n = n := by
  cases k <;> simp only [InR] at h <;> simp [IntKind.wrap, IntKind.bits, IntKind.signed] <;> omega

/-- A value that is a number's. -/
theorem fit_sound {k : IntKind} {n : Int} {K : T → Prop} (h : fit k n K) : ∃ r, RepT w N θ (.int k (k.wrap n)) r ∧ K r := by
  rcases h with ⟨h1, h2⟩ | h
  · exact ⟨_, by rw [InR_wrap h1]; exact .int k n, h2⟩
  · exact ⟨_, .int k _, h⟩

theorem evInt_sound {op : BinOp} {k : IntKind} {m n : Int} {K : T → Prop} {t : TypeId} (hne : op ≠ .shl) (hne2 : op ≠ .shr) (h : evInt op k m n K) :
    ∃ u r, (binOp op t (.int k m) (.int k n)).run P w = .ok u w ∧ RepT w N θ u r ∧ K r := by
  cases op <;> simp only [evInt] at h
  case add => obtain ⟨r, h1, h2⟩ := fit_sound (w := w) (N := N) (θ := θ) h; exact ⟨_, r, by simp [binOp, Op.intArith], h1, h2⟩
  case sub => obtain ⟨r, h1, h2⟩ := fit_sound (w := w) (N := N) (θ := θ) h; exact ⟨_, r, by simp [binOp, Op.intArith], h1, h2⟩
  case mul => obtain ⟨r, h1, h2⟩ := fit_sound (w := w) (N := N) (θ := θ) h; exact ⟨_, r, by simp [binOp, Op.intArith], h1, h2⟩
  case quo =>
    obtain ⟨h0, h⟩ := h
    obtain ⟨r, h1, h2⟩ := fit_sound (w := w) (N := N) (θ := θ) h; exact ⟨_, r, by simp [binOp, Op.intDiv, h0], h1, h2⟩
  case rem => obtain ⟨h0, h⟩ := h; exact ⟨.int k (m.tmod n), _, by simp [binOp, Op.intDiv, h0], .int k _, h⟩
  case and => exact ⟨.int k (bitsI .and k m n), _, by simp [binOp, Op.intBits, bitsI], .int k _, h⟩
  case or => exact ⟨.int k (bitsI .or k m n), _, by simp [binOp, Op.intBits, bitsI], .int k _, h⟩
  case xor => exact ⟨.int k (bitsI .xor k m n), _, by simp [binOp, Op.intBits, bitsI], .int k _, h⟩
  case andNot => exact ⟨.int k (bitsI .andNot k m n), _, by simp [binOp, Op.intBits, bitsI], .int k _, h⟩
  case eql => exact ⟨.bool (m == n), _, by simp [binOp, Op.intCmp], .bool _, h⟩
  case neq => exact ⟨.bool (m != n), _, by simp [binOp, Op.intCmp], .bool _, h⟩
  case lss => exact ⟨.bool (decide (m < n)), _, by simp [binOp, Op.intCmp], .bool _, h⟩
  case leq => exact ⟨.bool (decide (m ≤ n)), _, by simp [binOp, Op.intCmp], .bool _, h⟩
  case gtr => exact ⟨.bool (decide (m > n)), _, by simp [binOp, Op.intCmp], .bool _, h⟩
  case geq => exact ⟨.bool (decide (m ≥ n)), _, by simp [binOp, Op.intCmp], .bool _, h⟩
  all_goals exact h.elim

theorem toList_mk (s : List UInt8) : (⟨s.toArray⟩ : ByteArray).toList = s := by rw [ByteArray.toList_eq]

theorem evStr_sound {op : BinOp} {x y : List UInt8} {K : T → Prop} {t : TypeId} (h : evStr op x y K) :
    ∃ u r, (binOp op t (.string ⟨x.toArray⟩) (.string ⟨y.toArray⟩)).run P w = .ok u w ∧ RepT w N θ u r ∧ K r := by
  cases op <;> simp only [evStr] at h
  case add =>
    obtain ⟨h0, h⟩ := h
    refine ⟨.string ⟨(x ++ y).toArray⟩, _, ?_, .str _, h⟩
    have h1 : ¬ (((x.length + y.length : Nat) : Int) > IntKind.i64.max) := by simp [IntKind.max, IntKind.signed, IntKind.bits]; omega
    have e1 : (⟨x.toArray⟩ : ByteArray).size = x.length := by simp [ByteArray.size]
    have e2 : (⟨y.toArray⟩ : ByteArray).size = y.length := by simp [ByteArray.size]
    have e3 : ((⟨x.toArray⟩ : ByteArray) ++ (⟨y.toArray⟩ : ByteArray)) = ⟨(x ++ y).toArray⟩ := by
      apply ByteArray.ext; simp [ByteArray.data_append]
    simp only [binOp, Op.stringOp, e1, e2, e3]
    rw [if_neg h1]
    rfl
  all_goals exact ⟨_, _, by simp only [binOp, Op.stringOp, toList_mk]; rfl, .bool _, h⟩

theorem run_eqGuard_str {op : BinOp} {t : TypeId} {x y : Operand} {p q : ByteArray} : (eqGuard op t x y (.string p) (.string q)).run P w = .ok () w := by
  unfold eqGuard; split <;> rfl
theorem run_eqGuard_int {op : BinOp} {t : TypeId} {x y : Operand} {k k' : IntKind} {p q : Int} : (eqGuard op t x y (.int k p) (.int k' q)).run P w = .ok () w := by
  unfold eqGuard; split <;> rfl
theorem run_eqGuard_bool {op : BinOp} {t : TypeId} {x y : Operand} {p q : Bool} : (eqGuard op t x y (.bool p) (.bool q)).run P w = .ok () w := by
  unfold eqGuard; split <;> rfl

theorem run_equalIn_bool (d : Nat) {t : TypeId} {p q : Bool} (hu : P.underlying t = some .bool) : (Op.equalIn (d + 1) t (.bool p) (.bool q)).run P w = .ok (p == q) w := by
  simp only [Op.equalIn, Sem.run_bind, run_underlying' hu, Result.andThen_ok, Sem.run_pure]
theorem run_equal_bool {t : TypeId} {p q : Bool} (hu : P.underlying t = some .bool) : (Op.equal t (.bool p) (.bool q)).run P w = .ok (p == q) w := run_equalIn_bool 9999 hu
theorem evBin_sound {tab : Tab} (tk : TabOK P tab) {op : BinOp} {t : TypeId} {ox oy : Operand} {vx vy : Value} {x y : T} {K : T → Prop} (hx : RepT w N θ vx x) (hy : RepT w N θ vy y) (h : evBin tab op t x y K) :
    ∃ u r, (do eqGuard op t ox oy vx vy; binOp op t vx vy : Sem Value).run P w = .ok u w ∧ RepT w N θ u r ∧ K r := by
  unfold evBin at h
  split at h
  · rename_i k m k' n
    obtain rfl := hx.int_inv
    obtain rfl := hy.int_inv
    simp only [Sem.run_bind, run_eqGuard_int, Result.andThen_ok]
    split at h
    · obtain ⟨h0, h⟩ := h
      obtain ⟨r, h1, h2⟩ := fit_sound (w := w) (N := N) (θ := θ) h
      refine ⟨_, r, ?_, h1, h2⟩
      have : ¬ n < 0 := by omega
      simp [binOp, Op.shift, this]
    · obtain ⟨h0, h⟩ := h
      refine ⟨_, _, ?_, .int k _, h⟩
      have : ¬ n < 0 := by omega
      simp [binOp, Op.shift, this]
    · rename_i h1 h2
      cases hk : kq k k' with
      | false => simp [hk] at h
      | true =>
        simp only [hk] at h
        obtain rfl := kq_iff.mp hk
        exact evInt_sound h1 h2 h
  · obtain rfl := hx.str_inv
    obtain rfl := hy.str_inv
    simp only [Sem.run_bind, run_eqGuard_str, Result.andThen_ok]
    exact evStr_sound h
  · obtain rfl := hx.bool_inv
    obtain rfl := hy.bool_inv
    simp only [Sem.run_bind, run_eqGuard_bool, Result.andThen_ok]
    rename_i p q
    cases hb : tab.isBool t with
    | false => simp [hb] at h
    | true =>
      simp only [hb] at h
      have hu : P.underlying t = some .bool := by
        unfold Tab.isBool at hb
        cases ht : tab.ty t with
        | none => simp [ht] at hb
        | some i =>
          obtain ⟨info, d, _, h2, h3, _⟩ := tk.ty t i ht
          rw [h2]
          cases hk : i.k <;> simp [ht, hk] at hb
          rw [hk] at h3
          cases d <;> simp_all [fitsK]
      have he : (Op.equal t (.bool p) (.bool q)).run P w = .ok (p == q) w := run_equal_bool hu
      split at h
      · exact ⟨.bool (p == q), _, by simp [binOp, he], .bool _, h⟩
      · exact ⟨.bool (!(p == q)), _, by simp [binOp, he], .bool _, h⟩
      · exact h.elim
  · exact h.elim

theorem evUn_sound {op : UnOp} {v : Value} {x : T} {K : T → Prop} (hx : RepT w N θ v x) (h : evUn op x K) : ∃ u r, (Op.unary op v).run P w = .ok u w ∧ RepT w N θ u r ∧ K r := by
  unfold evUn at h
  split at h
  · obtain rfl := hx.bool_inv
    rename_i b
    exact ⟨.bool (!b), _, by simp [Op.unary], .bool _, h⟩
  · obtain rfl := hx.int_inv
    obtain ⟨r, h1, h2⟩ := fit_sound (w := w) (N := N) (θ := θ) h
    exact ⟨_, r, by simp only [Op.unary, Op.intArith, Sem.run_pure], h1, h2⟩
  · exact h.elim
end Go.VL
