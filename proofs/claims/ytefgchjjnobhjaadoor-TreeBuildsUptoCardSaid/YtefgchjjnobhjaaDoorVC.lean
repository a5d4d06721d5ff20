/- The generator of conditions: what is to be shown of a piece of code, with by-value data in its temporaries. -/
import Derived.Test.YtefgchjjnobhjaaDoorVA
set_option linter.unusedVariables false
set_option linter.unusedSimpArgs false
namespace Go.VL
open Go Go.RowKit

inductive TK where
  | bool | int (k : IntKind) | str | slice (e : Nat) | array (n e : Nat) | struct (fs : List (Nat × Nat)) | ptr (e : Nat) | map (k e : Nat) | func | iface | other

structure TyI where
  k : TK
  size : Nat
  bytes : Nat
  zero : Option (List T)

structure Tab where
  tys : List TyI
  ent : List Nat
  byref : Nat → Bool
  eqs : List Nat
  bld : Option (Nat × Nat)

def nth {α : Type} : List α → Nat → Option α
  | [], _ => none
  | x :: _, 0 => some x
  | _ :: r, n + 1 => nth r n
def dropN {α : Type} : List α → Nat → List α
  | l, 0 => l
  | [], _ + 1 => []
  | _ :: r, n + 1 => dropN r n
/-- The first n, if there are so many. -/
def takeN {α : Type} : List α → Nat → Option (List α)
  | _, 0 => some []
  | [], _ + 1 => none
  | x :: r, n + 1 => match takeN r n with | some l => some (x :: l) | none => none
/-- ys laid over xs from place n on, if it fits. -/
def lay {α : Type} : List α → Nat → List α → Option (List α)
  | xs, _, [] => some xs
  | [], _, _ :: _ => none
  | x :: xs, n + 1, ys => match lay xs n ys with | some l => some (x :: l) | none => none
  | _ :: xs, 0, y :: ys => match lay xs 0 ys with | some l => some (y :: l) | none => none

def Tab.ty (tab : Tab) (t : Nat) : Option TyI := nth tab.tys t
def TK.agg : TK → Bool
  | .array _ _ | .struct _ => true
  | _ => false
def Tab.isAgg (tab : Tab) (t : Nat) : Bool := match tab.ty t with | some i => i.k.agg | none => false

mutual
/-- A leaf function through what is built of leaves. -/
def T.tr (f : T → T) : T → T
  | .agg xs => .agg (trL f xs)
  | .tup xs => .tup (trL f xs)
  | .fn g xs => .fn g (trL f xs)
  | .ifc t x => .ifc t (x.tr f)
  | .d x => f (.d x)
  | .full id => f (.full id)
  | .own id o l => f (.own id o l)
  | .nils => f .nils
  | .ref id i o => f (.ref id i o)
  | .cref cs => f (.cref cs)
  | .nilp => f .nilp
  | .nilf => f .nilf
  | .nili => f .nili
  | .mp id => f (.mp id)
  | .itr id => f (.itr id)
  | .bs id => f (.bs id)
  | .dead => f .dead
def trL (f : T → T) : List T → List T
  | [] => []
  | x :: r => x.tr f :: trL f r
end

/-- What a slice's header becomes where it is told by value. -/
def valF (h : Hp) : T → T
  | .full id => match look h id with | some (.row _ es) => .d (.sl es) | _ => .dead
  | .own id o l => match look h id with | some (.row _ es) => .d (.sl ((es.drop o).take l)) | _ => .dead
  | .nils => .d (.sl [])
  | t => t

mutual
/-- The rows alone. -/
def T.rws : T → List Nat
  | .agg xs => rwsL xs
  | .tup xs => rwsL xs
  | .fn _ xs => rwsL xs
  | .ifc _ x => x.rws
  | .full id => [id]
  | .own id _ _ => [id]
  | _ => []
def rwsL : List T → List Nat
  | [] => []
  | x :: r => x.rws ++ rwsL r
end

def memN : List Nat → Nat → Bool
  | [], _ => false
  | x :: r, i => match Nat.beq x i with | true => true | false => memN r i
def addN (l : List Nat) (i : Nat) : List Nat := match memN l i with | true => l | false => l ++ [i]
def addL (l : List Nat) : List Nat → List Nat
  | [] => l
  | x :: r => addL (addN l x) r
/-- All objects that are come to from these. -/
def reach (h : Hp) : Nat → List Nat → List Nat
  | 0, l => l
  | n + 1, l => reach h n (l.foldl (fun a i => match look h i with | some o => addL a o.ids | none => a) l)
def posOf (l : List Nat) (i : Nat) : Nat := match l with
  | [] => 0
  | x :: r => match Nat.beq x i with | true => 0 | false => posOf r i + 1
def renF (ρ : Nat → Nat) : T → T
  | .full id => .full (ρ id)
  | .own id o l => .own (ρ id) o l
  | .ref id i o => .ref (ρ id) i o
  | .mp id => .mp (ρ id)
  | .itr id => .itr (ρ id)
  | .bs id => .bs (ρ id)
  | t => t
def Ob.rn (ρ : Nat → Nat) : Ob → Ob
  | .var t cs => .var t (trL (renF ρ) cs)
  | o => o
def rnH (ρ : Nat → Nat) : Hp → Hp
  | [] => []
  | (i, o) :: r => (ρ i, o.rn ρ) :: rnH ρ r
def remL (h : Hp) : List Nat → Hp
  | [] => h
  | i :: r => remL (rem h i) r
def subH (h : Hp) (pos : Nat → Nat) : List Nat → Hp
  | [] => []
  | i :: r => match look h i with | some o => (pos i, o.rn pos) :: subH h pos r | none => subH h pos r
def appH : Hp → Hp → Hp
  | [], k => k
  | x :: r, k => x :: appH r k
/-- Rows that are given up as the call's own: what leads to them is told by value. -/
def frzF (h : Hp) (l : List Nat) : T → T
  | .full id => match memN l id with | true => valF h (.full id) | false => .full id
  | .own id o k => match memN l id with | true => valF h (.own id o k) | false => .own id o k
  | .ref id i o => match memN l id with | true => .dead | false => .ref id i o
  | .mp id => match memN l id with | true => .dead | false => .mp id
  | .itr id => match memN l id with | true => .dead | false => .itr id
  | .bs id => match memN l id with | true => .dead | false => .bs id
  | t => t
def frzE (f : T → T) : Env → Env
  | [] => []
  | (i, x) :: r => (i, x.tr f) :: frzE f r
def frzH (f : T → T) : Hp → Hp
  | [] => []
  | (i, .var t cs) :: r => (i, .var t (trL f cs)) :: frzH f r
  | (i, o) :: r => (i, o) :: frzH f r
def St.frz (st : St) (l : List Nat) : St := match l with
  | [] => st
  | _ => (match st with | ⟨t, h, n, nt⟩ => ⟨frzE (frzF h l) t, frzH (frzF h l) (remL h l), n, nt⟩)

/-- A value's cells. -/
def T.cells : T → Option (List T)
  | .agg xs => some xs
  | .tup _ => none
  | .dead => none
  | t => some [t]
/-- What is neither built of parts nor dead lies in one cell. -/
def leafy : T → Bool
  | .agg _ | .tup _ | .dead => false
  | _ => true
def leafyL : List T → Bool
  | [] => true
  | x :: r => match leafy x with | true => leafyL r | false => false
/-- A value's cells as data. -/
def dcell (h : Hp) : T → Option D
  | .d x => some x
  | t => match valF h t with | .d x => some x | _ => none
def dcells (h : Hp) : List T → Option (List D)
  | [] => some []
  | x :: r => match dcell h x, dcells h r with | some d, some l => some (d :: l) | _, _ => none
def T.asD (h : Hp) (t : T) : Option (List D) := match t.cells with | some cs => dcells h cs | none => none
/-- Plain: no slice in it. -/
def plain : T → Bool
  | .d (.sl _) => false
  | .d _ => true
  | .nilp | .nilf | .nili | .nils => true
  | .tup xs => xs.all fun | .d (.sl _) => false | .d _ => true | .nili => true | _ => false
  | _ => false

def cst : Value → T
  | .bool b => .d (.bool b)
  | .int k n => .d (.int k n)
  | .string s => .d (.str s.data.toList)
  | .slice none 0 0 => .nils
  | .pointer none => .nilp
  | .nilFunc => .nilf
  | .nilIface => .nili
  | _ => .dead
def St.val (st : St) : Operand → T
  | .tmp t => get st.t t
  | .const v => cst v
  | .global _ => .dead
  | .func f => .fn f []
/-! Heads of conditions. -/
/-- Something that must hold. -/
def Need (p K : Prop) : Prop := p ∧ K
/-- A way that parts. -/
def Br (b : Bool) (A B : Prop) : Prop := (b = true → A) ∧ (b = false → B)
/-- What lies at a place. -/
def Each {α : Type} (es : List α) (i : Nat) (K : α → Prop) : Prop := ∀ c, es[i]? = some c → K c
/-- A test for nil of a slice that is told by value. -/
def NilB (es : List (List D)) (K : Bool → Prop) : Prop := ∀ b : Bool, (b = true → es = []) → K b

/-! Forcing: so that what is told stays told in full (each equals 'K x': V0). -/
def forceD : D → (D → Prop) → Prop
  | .bool b, K => K (.bool b)
  | .int k n, K => K (.int k n)
  | .str s, K => K (.str s)
  | .sl es, K => K (.sl es)
def forceDs : List D → (List D → Prop) → Prop
  | [], K => K []
  | x :: r, K => forceD x fun x => forceDs r fun r => K (x :: r)
def forceEs : List (List D) → (List (List D) → Prop) → Prop
  | [], K => K []
  | x :: r, K => forceDs x fun x => forceEs r fun r => K (x :: r)
mutual
def forceT : T → (T → Prop) → Prop
  | .d x, K => forceD x fun x => K (.d x)
  | .agg xs, K => forceTL xs fun xs => K (.agg xs)
  | .tup xs, K => forceTL xs fun xs => K (.tup xs)
  | .fn f xs, K => forceTL xs fun xs => K (.fn f xs)
  | .ifc t x, K => forceT x fun x => K (.ifc t x)
  | .full id, K => K (.full id)
  | .own id o l, K => K (.own id o l)
  | .nils, K => K .nils
  | .ref id i o, K => K (.ref id i o)
  | .cref cs, K => K (.cref cs)
  | .nilp, K => K .nilp
  | .nilf, K => K .nilf
  | .nili, K => K .nili
  | .mp id, K => K (.mp id)
  | .itr id, K => K (.itr id)
  | .bs id, K => K (.bs id)
  | .dead, K => K .dead
def forceTL : List T → (List T → Prop) → Prop
  | [], K => K []
  | x :: r, K => forceT x fun x => forceTL r fun r => K (x :: r)
end
def forceO : Ob → (Ob → Prop) → Prop
  | .row e es, K => K (.row e es)
  | .var t cs, K => forceTL cs fun cs => K (.var t cs)
  | .map es, K => K (.map es)
  | .iter s p, K => K (.iter s p)
def forceE : Env → (Env → Prop) → Prop
  | [], K => K []
  | (i, x) :: r, K => forceT x fun x => forceE r fun r => K ((i, x) :: r)
def forceH : Hp → (Hp → Prop) → Prop
  | [], K => K []
  | (i, x) :: r, K => forceO x fun x => forceH r fun r => K ((i, x) :: r)
def forceS : St → (St → Prop) → Prop
  | ⟨t, h, n, nt⟩, K => forceE t fun t => forceH h fun h => K ⟨t, h, n, nt⟩
def forceN : Nat → (Nat → Prop) → Prop
  | 0, K => K 0
  | n + 1, K => forceN n fun m => K (m + 1)
theorem forceN_eq : ∀ {n : Nat} {K : Nat → Prop}, forceN n K = K n
  | 0, _ => rfl
  | n + 1, K => forceN_eq (n := n)
def withSt (st : St) (f : Env → Hp → Nat → Nat → Prop) : Prop := match st with | ⟨t, h, n, nt⟩ => f t h n nt
theorem withSt_eq {st : St} {f : Env → Hp → Nat → Nat → Prop} : withSt st f = f st.t st.h st.n st.nt := rfl
def forceL : List Nat → (List Nat → Prop) → Prop
  | [], K => K []
  | x :: r, K => forceL r fun r => K (x :: r)
def addK (l : List Nat) (i : Nat) (K : List Nat → Prop) : Prop := match memN l i with | true => K l | false => forceL (l ++ [i]) K
def addLK : List Nat → List Nat → (List Nat → Prop) → Prop
  | l, [], K => K l
  | l, x :: r, K => addK l x fun l => addLK l r K
def rStep (h : Hp) : List Nat → List Nat → (List Nat → Prop) → Prop
  | [], a, K => K a
  | i :: r, a, K => match look h i with | some o => addLK a o.ids fun a => rStep h r a K | none => rStep h r a K
def reachK (h : Hp) : Nat → List Nat → (List Nat → Prop) → Prop
  | 0, l, K => K l
  | n + 1, l, K => rStep h l l fun l => reachK h n l K

theorem forceD_eq : ∀ {x : D} {K : D → Prop}, forceD x K = K x
  | .bool _, _ | .int _ _, _ | .str _, _ | .sl _, _ => rfl
theorem forceDs_eq : ∀ {x : List D} {K : List D → Prop}, forceDs x K = K x
  | [], _ => rfl
  | x :: r, K => (forceD_eq (x := x)).trans (forceDs_eq (x := r))
theorem forceEs_eq : ∀ {x : List (List D)} {K : List (List D) → Prop}, forceEs x K = K x
  | [], _ => rfl
  | x :: r, K => (forceDs_eq (x := x)).trans (forceEs_eq (x := r))
mutual
theorem forceT_eq : ∀ {x : T} {K : T → Prop}, forceT x K = K x
  | .d x, K => forceD_eq (x := x)
  | .agg xs, K => forceTL_eq (xs := xs)
  | .tup xs, K => forceTL_eq (xs := xs)
  | .fn f xs, K => forceTL_eq (xs := xs)
  | .ifc t x, K => forceT_eq (x := x)
  | .full _, _ | .own _ _ _, _ | .nils, _ | .ref _ _ _, _ | .cref _, _ | .nilp, _ | .nilf, _ | .nili, _ | .mp _, _ | .itr _, _ | .bs _, _ | .dead, _ => rfl
theorem forceTL_eq : ∀ {xs : List T} {K : List T → Prop}, forceTL xs K = K xs
  | [], _ => rfl
  | x :: r, K => (forceT_eq (x := x)).trans (forceTL_eq (xs := r))
end
theorem forceO_eq : ∀ {x : Ob} {K : Ob → Prop}, forceO x K = K x
  | .row _ _, _ | .map _, _ | .iter _ _, _ => rfl
  | .var t cs, K => forceTL_eq (xs := cs)
theorem forceE_eq : ∀ {x : Env} {K : Env → Prop}, forceE x K = K x
  | [], _ => rfl
  | (i, x) :: r, K => (forceT_eq (x := x)).trans (forceE_eq (x := r))
theorem forceH_eq : ∀ {x : Hp} {K : Hp → Prop}, forceH x K = K x
  | [], _ => rfl
  | (i, x) :: r, K => (forceO_eq (x := x)).trans (forceH_eq (x := r))
theorem forceS_eq : ∀ {x : St} {K : St → Prop}, forceS x K = K x
  | ⟨t, h, n, nt⟩, K => (forceE_eq (x := t)).trans (forceH_eq (x := h))
theorem forceL_eq : ∀ {x : List Nat} {K : List Nat → Prop}, forceL x K = K x
  | [], _ => rfl
  | x :: r, K => forceL_eq (x := r)
theorem addK_eq {l : List Nat} {i : Nat} {K : List Nat → Prop} : addK l i K = K (addN l i) := by
  unfold addK addN
  cases memN l i
  · exact forceL_eq
  · rfl
theorem addLK_eq : ∀ {r l : List Nat} {K : List Nat → Prop}, addLK l r K = K (addL l r)
  | [], _, _ => rfl
  | x :: r, l, K => by rw [addLK, addK_eq, addLK_eq (r := r)]; rfl
theorem rStep_eq {h : Hp} : ∀ {l a : List Nat} {K : List Nat → Prop}, rStep h l a K = K (l.foldl (fun a i => match look h i with | some o => addL a o.ids | none => a) a)
  | [], _, _ => rfl
  | i :: r, a, K => by
    rw [rStep, List.foldl_cons]
    cases look h i with
    | some o => simp only [addLK_eq]; exact rStep_eq (l := r)
    | none => exact rStep_eq (l := r)
theorem reachK_eq {h : Hp} : ∀ {n : Nat} {l : List Nat} {K : List Nat → Prop}, reachK h n l K = K (reach h n l)
  | 0, _, _ => rfl
  | n + 1, l, K => by rw [reachK, rStep_eq, reachK_eq (n := n)]; rfl

def putK (dst : Option Nat) (x : T) (K : St → Prop) (st : St) : Prop := match dst with
  | none => K st
  | some d => match Nat.blt d st.nt with | true => forceT x fun x => (match st with | ⟨t, h, n, nt⟩ => K ⟨(d, x) :: t, h, n, nt⟩) | false => False
/-- A new object, and what the temporary is then. -/
theorem putK_eq {dst : Option Nat} {x : T} {K : St → Prop} {st : St} : putK dst x K st = (match dst with
    | none => K st
    | some d => match Nat.blt d st.nt with | true => K ⟨(d, x) :: st.t, st.h, st.n, st.nt⟩ | false => False) := by
  unfold putK
  cases dst with
  | none => rfl
  | some d => simp only [forceT_eq]
def newK (dst : Option Nat) (o : Ob) (x : Nat → T) (K : St → Prop) (st : St) : Prop :=
  match st with | ⟨t, h, n, nt⟩ => forceS ⟨t, (n, o) :: h, n + 1, nt⟩ (putK dst (x n) K)

theorem newK_eq {dst : Option Nat} {o : Ob} {x : Nat → T} {K : St → Prop} {st : St} : newK dst o x K st = putK dst (x st.n) K ⟨st.t, (st.n, o) :: st.h, st.n + 1, st.nt⟩ := by
  obtain ⟨t, h, n, nt⟩ := st
  unfold newK
  exact forceS_eq (x := ⟨t, (n, o) :: h, n + 1, nt⟩) (K := putK dst (x n) K)

def InR : IntKind → Int → Prop
  | .i8, n => -128 ≤ n ∧ n ≤ 127
  | .i16, n => -32768 ≤ n ∧ n ≤ 32767
  | .i32, n => -2147483648 ≤ n ∧ n ≤ 2147483647
  | .i64, n => -9223372036854775808 ≤ n ∧ n ≤ 9223372036854775807
  | .u8, n => 0 ≤ n ∧ n ≤ 255
  | .u16, n => 0 ≤ n ∧ n ≤ 65535
  | .u32, n => 0 ≤ n ∧ n ≤ 4294967295
  | .u64, n => 0 ≤ n ∧ n ≤ 18446744073709551615
def kq : IntKind → IntKind → Bool
  | .i8, .i8 | .i16, .i16 | .i32, .i32 | .i64, .i64 | .u8, .u8 | .u16, .u16 | .u32, .u32 | .u64, .u64 => true
  | _, _ => false
/-- A sum: as it is, if it is in range; else cut to its kind. -/
def fit (k : IntKind) (n : Int) (K : T → Prop) : Prop := (InR k n ∧ K (.d (.int k n))) ∨ K (.d (.int k (k.wrap n)))
def bitsI (op : BinOp) (k : IntKind) (x y : Int) : Int :=
  k.wrap (match op with
    | .and => (BitVec.ofInt k.bits x &&& BitVec.ofInt k.bits y).toNat
    | .or => (BitVec.ofInt k.bits x ||| BitVec.ofInt k.bits y).toNat
    | .xor => (BitVec.ofInt k.bits x ^^^ BitVec.ofInt k.bits y).toNat
    | _ => (BitVec.ofInt k.bits x &&& ~~~(BitVec.ofInt k.bits y)).toNat : Nat)
def evInt (op : BinOp) (k : IntKind) (a b : Int) (K : T → Prop) : Prop := match op with
  | .add => fit k (a + b) K
  | .sub => fit k (a - b) K
  | .mul => fit k (a * b) K
  | .quo => Need (b ≠ 0) (fit k (a.tdiv b) K)
  | .rem => Need (b ≠ 0) (K (.d (.int k (a.tmod b))))
  | .and | .or | .xor | .andNot => K (.d (.int k (bitsI op k a b)))
  | .eql => K (.d (.bool (a == b)))
  | .neq => K (.d (.bool (a != b)))
  | .lss => K (.d (.bool (decide (a < b))))
  | .leq => K (.d (.bool (decide (a ≤ b))))
  | .gtr => K (.d (.bool (decide (a > b))))
  | .geq => K (.d (.bool (decide (a ≥ b))))
  | _ => False
def evStr (op : BinOp) (a b : List UInt8) (K : T → Prop) : Prop := match op with
  | .add => Need (a.length + b.length < 9223372036854775808) (K (.d (.str (a ++ b))))
  | .eql => K (.d (.bool (a == b)))
  | .neq => K (.d (.bool (!(a == b))))
  | .lss => K (.d (.bool (Op.bytesLess a b)))
  | .leq => K (.d (.bool (Op.bytesLess a b || a == b)))
  | .gtr => K (.d (.bool (!(Op.bytesLess a b || a == b))))
  | .geq => K (.d (.bool (!(Op.bytesLess a b))))
  | _ => False
/-- A comparison with nil, as far as it is sure. -/
def nilCmp (tab : Tab) (t : Nat) (x y : T) (c : Bool) : Option Bool := match tab.ty t with
  | some i => (match i.k, x, y with
    | .ptr _, .nilp, .nilp => some true
    | .ptr _, .nilp, .ref _ _ _ => some false
    | .ptr _, .nilp, .cref _ => some false
    | .ptr _, .ref _ _ _, .nilp => some false
    | .ptr _, .cref _, .nilp => some false
    | .iface, .nili, .nili => (match c with | true => some true | false => none)
    | .iface, .nili, .ifc _ _ => some false
    | .iface, .ifc _ _, .nili => some false
    | .func, .nilf, .nilf => some true
    | .func, .nilf, .fn _ _ => some false
    | .func, .fn _ _, .nilf => some false
    | _, _, _ => none)
  | none => none
def opc : Operand → Bool
  | .const _ => true
  | _ => false
def Tab.isBool (tab : Tab) (t : Nat) : Bool := match tab.ty t with | some i => (match i.k with | .bool => true | _ => false) | none => false
/-- Whether two cells of a type hold the same, of those that hold no slice. -/
def eqLeaf (k : TK) (x y : T) : Option Bool := match k, x, y with
  | .bool, .d (.bool a), .d (.bool b) => some (a == b)
  | .int q, .d (.int k a), .d (.int k' b) => (match kq q k, kq q k' with | true, true => some (a == b) | _, _ => none)
  | .str, .d (.str a), .d (.str b) => some (a == b)
  | _, _, _ => none
def eqCells (tab : Tab) : Nat → List (Nat × Nat) → List T → List T → Option Bool
  | _, [], [], [] => some true
  | i, (o, ft) :: fs, x :: xs, y :: ys => (match Nat.beq o i, tab.ty ft with
    | true, some j => (match eqLeaf j.k x y, eqCells tab (i + 1) fs xs ys with | some a, some b => some (a && b) | _, _ => none)
    | _, _ => none)
  | _, _, _, _ => none
def evBin (tab : Tab) (op : BinOp) (t : Nat) (x y : T) (K : T → Prop) : Prop := match x, y with
  | .d (.int k a), .d (.int k' b) => (match op with
    | .shl => Need (0 ≤ b) (fit k (a * 2 ^ (min b.toNat k.bits)) K)
    | .shr => Need (0 ≤ b) (K (.d (.int k (a.fdiv (2 ^ (min b.toNat k.bits))))))
    | _ => match kq k k' with | true => evInt op k a b K | false => False)
  | .d (.str a), .d (.str b) => evStr op a b K
  | .d (.bool a), .d (.bool b) => (match tab.isBool t with
    | true => (match op with
      | .eql => K (.d (.bool (a == b)))
      | .neq => K (.d (.bool (!(a == b))))
      | _ => False)
    | false => False)
  | .agg xs, .agg ys => (match tab.ty t with
    | some i => (match i.k with
      | .struct fs => (match memN tab.eqs t, eqCells tab 0 fs xs ys with
        | true, some b => (match op with
          | .eql => K (.d (.bool b))
          | .neq => K (.d (.bool (!b)))
          | _ => False)
        | _, _ => False)
      | _ => False)
    | none => False)
  | _, _ => False
def evUn (op : UnOp) (x : T) (K : T → Prop) : Prop := match op, x with
  | .not, .d (.bool b) => K (.d (.bool (!b)))
  | .neg, .d (.int k n) => fit k (0 - n) K
  | _, _ => False

/-- A place in a slice. -/
def evIndex (tab : Tab) (e : Nat) (x ix : T) (st : St) (K : T → Prop) : Prop := match ix, tab.ty e with
  | .d (.int _ i), some _ => (match x with
    | .d (.sl es) => Need (0 ≤ i ∧ i < es.length) (Each es i.toNat fun c => (match tab.ty e with | some y => Need (c.length = y.size) (K (.cref c)) | none => False))
    | .full id => (match look st.h id with | some (.row e' es) => (match Nat.beq e' e with | true => Need (0 ≤ i ∧ i < es.length) (K (.ref id i.toNat 0)) | false => False) | _ => False)
    | .own id o l => (match look st.h id with | some (.row e' es) => (match Nat.beq e' e with | true => Need (0 ≤ i ∧ i < l ∧ o + l ≤ es.length) (K (.ref id (o + i.toNat) 0)) | false => False) | _ => False)
    | _ => False)
  | _, _ => False
def ldD (tab : Tab) (t : Nat) (cs : List D) (K : T → Prop) : Prop := match tab.ty t with
  | some i => (match i.k.agg with
    | true => (match takeN cs i.size with | some l => K (.agg (l.map T.d)) | none => False)
    | false => (match cs with | x :: _ => K (.d x) | [] => False))
  | none => False
def ldT (tab : Tab) (t : Nat) (cs : List T) (K : T → Prop) : Prop := match tab.ty t with
  | some i => (match i.k.agg with
    | true => (match takeN cs i.size with | some l => K (.agg l) | none => False)
    | false => (match cs with | x :: _ => K x | [] => False))
  | none => False
def evLoad (tab : Tab) (t : Nat) (a : T) (st : St) (K : T → Prop) : Prop := match a with
  | .cref (x :: r) => ldD tab t (x :: r) K
  | .ref id i o => (match look st.h id with
    | some (.var _ cs) => (match Nat.beq i 0 with | true => ldT tab t (dropN cs o) K | false => False)
    | some (.row _ es) => Need (i < es.length) (Each es i fun c => ldD tab t (dropN c o) K)
    | _ => False)
  | _ => False
def evStore (tab : Tab) (t : Nat) (a x : T) (st : St) (K : St → Prop) : Prop := match a, tab.ty t with
  | .ref id i o, some y => (match Nat.blt 0 y.size with | false => False | true => match look st.h id with
    | some (.var ty cs) => (match Nat.beq i 0, x.cells with
      | true, some l => (match Nat.beq l.length y.size, lay cs o l, leafyL l with
        | true, some cs', true => withSt st fun t' h' n' nt' => forceS ⟨t', upd h' id (.var ty cs'), n', nt'⟩ K
        | _, _, _ => False)
      | _, _ => False)
    | some (.row e es) => (match x.asD st.h, memN x.rws id with
      | some l, false => (match Nat.beq l.length y.size with
        | true => Need (i < es.length) (Each es i fun c => match lay c o l with
          | some c' => (withSt (st.frz x.rws) fun t' h' n' nt' => forceS ⟨t', upd h' id (.row e (es.set i c')), n', nt'⟩ K)
          | none => False)
        | false => False)
      | _, _ => False)
    | _ => False)
  | _, _ => False
def offOf (fs : List (Nat × Nat)) (f : Nat) : Option (Nat × Nat) := nth fs f
def evFieldAddr (tab : Tab) (s : Nat) (a : T) (f : Nat) (K : T → Prop) : Prop := match tab.ty s with
  | some i => (match i.k with
    | .struct fs => (match nth fs f with
      | some (o, ft) => (match tab.ty ft with
        | some j => (match Nat.beq j.size 0 with
          | true => False
          | false => (match a with
            | .ref id i o' => K (.ref id i (o' + o))
            | .cref cs => K (.cref (dropN cs o))
            | _ => False))
        | none => False)
      | none => False)
    | _ => False)
  | none => False
def evField (tab : Tab) (s : Nat) (x : T) (f : Nat) (K : T → Prop) : Prop := match tab.ty s with
  | some i => (match i.k with
    | .struct fs => (match nth fs f, x with
      | some (o, ft), .agg cs => ldT tab ft (dropN cs o) K
      | _, _ => False)
    | _ => False)
  | none => False
def sliceLo : Option T → Option Int
  | none => some 0
  | some (.d (.int _ i)) => some i
  | _ => none
def evSlice (tab : Tab) (t : Nat) (x : T) (lo hi mx : Option T) (st : St) (K : T → Prop) : Prop := match mx, sliceLo lo with
  | none, some l => (match tab.ty t with
    | some i => (match i.k, x with
      | .str, .d (.str s) => (match hi with
        | none => Need (0 ≤ l ∧ l ≤ s.length) (K (.d (.str (s.drop l.toNat))))
        | some (.d (.int _ h)) => Need (0 ≤ l ∧ l ≤ h ∧ h ≤ s.length) (K (.d (.str ((s.take h.toNat).drop l.toNat))))
        | _ => False)
      | .slice e, .d (.sl es) => (match tab.ty e with
        | none => False
        | some y => Need (∀ c, es[0]? = some c → c.length = y.size) (match hi with
        | none => Need (0 ≤ l ∧ l ≤ es.length) (K (.d (.sl (es.drop l.toNat))))
        | some (.d (.int _ h)) => Need (0 ≤ l ∧ l ≤ h ∧ h ≤ es.length) (K (.d (.sl ((es.take h.toNat).drop l.toNat))))
        | _ => False))
      | .slice e, .full id => (match look st.h id, tab.ty e with
        | some (.row e' es), some _ => (match Nat.beq e' e with
          | false => False
          | true => match hi with
          | none => Need (0 ≤ l ∧ l ≤ es.length) (K (.own id l.toNat (es.length - l.toNat)))
          | some (.d (.int _ h)) => Need (0 ≤ l ∧ l ≤ h ∧ h ≤ es.length) (K (.own id l.toNat (h.toNat - l.toNat)))
          | _ => False)
        | _, _ => False)
      | .slice e, .own id o n => (match look st.h id, tab.ty e with
        | some (.row e' _), some _ => (match Nat.beq e' e with
          | false => False
          | true => match hi with
          | none => Need (0 ≤ l ∧ l ≤ n) (K (.own id (o + l.toNat) (n - l.toNat)))
          | some (.d (.int _ h)) => Need (0 ≤ l ∧ l ≤ h ∧ h ≤ n) (K (.own id (o + l.toNat) (h.toNat - l.toNat)))
          | _ => False)
        | _, _ => False)
      | .slice e, .nils => (match tab.ty e with
          | none => False
          | some _ => match hi with
          | none => Need (l = 0) (K .nils)
          | some (.d (.int _ h)) => Need (l = 0 ∧ h = 0) (K .nils)
          | _ => False)
      | _, _ => False)
    | none => False)
  | _, _ => False
/-- A byte of a string. -/
def evIx (tab : Tab) (t : Nat) (x ix : T) (K : T → Prop) : Prop := match tab.ty t, ix with
  | some i, .d (.int _ n) => (match i.k, x with
    | .str, .d (.str s) => Need (0 ≤ n ∧ n < s.length) (Each s n.toNat fun c => K (.d (.int .u8 c.toNat)))
    | .array len e, .agg cs => (match tab.ty e with
      | some y => Need (0 ≤ n ∧ n < len) (∃ l, takeN (dropN cs (n.toNat * y.size)) y.size = some l ∧ (match y.k.agg with | true => K (.agg l) | false => (match l with | [v] => K v | _ => False)))
      | none => False)
    | _, _ => False)
  | _, _ => False
def bytesOfD : List (List D) → Option (List UInt8)
  | [] => some []
  | [.int .u8 n] :: r => match bytesOfD r with | some l => some (UInt8.ofNat n.toNat :: l) | none => none
  | _ :: _ => none
def numsD (s : List UInt8) : List (List D) := s.map fun b => [D.int .u8 b.toNat]
/-- A slice's elements, whatever its header. -/
def elems (h : Hp) : T → Option (List (List D))
  | .d (.sl es) => some es
  | .nils => some []
  | .full id => match look h id with | some (.row _ es) => some es | _ => none
  | .own id o l => match look h id with | some (.row _ es) => some ((es.drop o).take l) | _ => none
  | _ => none
def Tab.isU8 (tab : Tab) (t : Nat) : Bool := match tab.ty t with | some i => (match i.k with | .int .u8 => Nat.beq i.size 1 | _ => false) | none => false
def evConv (tab : Tab) (src dst : Nat) (x : T) (st : St) (K : T → Prop) : Prop := match tab.ty src, tab.ty dst with
  | some i, some j => (match i.k, j.k, x with
    | .int _, .int k, .d (.int _ n) => fit k n K
    | .str, .str, .d (.str s) => K (.d (.str s))
    | .slice e, .str, x => (match elems st.h x, tab.isU8 e with
      | some es, true => ∃ s, bytesOfD es = some s ∧ K (.d (.str s))
      | _, _ => False)
    | .int _, .str, .d (.int _ n) => K (.d (.str (Utf8.encode n).data.toList))
    | _, _, _ => False)
  | _, _ => False

/-- A text told as bytes: their type, the text. -/
def toBytes (tab : Tab) (src dst : Nat) (x : T) : Option (Nat × List UInt8) := match x with
  | .d (.str s) => (match tab.ty src, tab.ty dst with
    | some i, some j => (match i.k, j.k with
      | .str, .slice e => (match tab.isU8 e with | true => some (e, s) | false => none)
      | _, _ => none)
    | _, _ => none)
  | _ => none

/-- The elements of a literal: each part's cells in its place. -/
def litEs (h : Hp) (sz : Nat) : List (List D) → List (Nat × T) → Option (List (List D))
  | es, [] => some es
  | es, (i, x) :: r => match x.asD h with
    | some l => (match Nat.beq l.length sz, Nat.blt i es.length with
      | true, true => litEs h sz (es.set i l) r
      | _, _ => none)
    | none => none
def rwsP : List (Nat × T) → List Nat
  | [] => []
  | (_, x) :: r => x.rws ++ rwsP r
def evBuildSlice (tab : Tab) (t len : Nat) (parts : List (Nat × T)) (dst : Option Nat) (st : St) (K : St → Prop) : Prop := match tab.ty t with
  | some i => (match i.k with
    | .slice e => (match tab.ty e with
      | some y => (match y.zero, Nat.ble (len * y.size) 16777216, Nat.blt 0 y.size with
        | some z, true, true => (match dcells st.h z with
          | some zd => (match litEs st.h y.size (List.replicate len zd) parts with
            | some es => forceEs es fun es => newK dst (.row e es) T.full K (st.frz (rwsP parts))
            | none => False)
          | none => False)
        | _, _, _ => False)
      | none => False)
    | _ => False)
  | none => False
def layAll (place : Nat → Option (Nat × Nat)) : List T → List (Nat × T) → Option (List T)
  | cs, [] => some cs
  | cs, (i, x) :: r => match place i, x.cells with
    | some (o, sz), some l => (match Nat.beq l.length sz, lay cs o l, Nat.blt 0 sz with
      | true, some cs', true => layAll place cs' r
      | _, _, _ => none)
    | _, _ => none
def szOf (tab : Tab) (t : Nat) : Option Nat := match tab.ty t with | some i => some i.size | none => none
def placeOf (tab : Tab) (k : TK) (i : Nat) : Option (Nat × Nat) := match k with
  | .struct fs => (match nth fs i with | some (o, ft) => (match szOf tab ft with | some z => some (o, z) | none => none) | none => none)
  | .array _ e => (match szOf tab e with | some z => some (i * z, z) | none => none)
  | _ => none
def Tab.allIn (tab : Tab) : TK → Bool
  | .struct fs => fs.all fun p => (tab.ty p.2).isSome
  | .array _ e => (tab.ty e).isSome
  | _ => false
def evBuild (tab : Tab) (t : Nat) (parts : List (Nat × T)) (K : T → Prop) : Prop := match tab.ty t with
  | some i => (match i.zero, i.k.agg && tab.allIn i.k with
    | some z, true => (match layAll (placeOf tab i.k) z parts with | some cs => K (.agg cs) | none => False)
    | _, _ => False)
  | none => False
/-- A builder is laid with its (empty) text as an object of its own. -/
def newB (B u : Nat) (dst : Option Nat) (K : St → Prop) : St → Prop
  | ⟨t, h, n, nt⟩ => newK dst (.var B [.bs (n + 1), .full n]) (fun m => .ref m 0 0) K ⟨t, (n, .row u []) :: h, n + 1, nt⟩
def isBld (tab : Tab) (e : Nat) : Option Nat := match tab.bld with
  | some (B, u) => (match Nat.beq B e with | true => some u | false => none)
  | none => none
def evAlloc (tab : Tab) (e : Nat) (dst : Option Nat) (st : St) (K : St → Prop) : Prop := match isBld tab e with
 | some u => (match tab.ty e with
    | some i => (match i.zero with
      | some [.nilp, .nils] => newB e u dst K st
      | _ => False)
    | none => False)
 | none => match tab.ty e with
  | some i => (match i.zero with | some z => newK dst (.var e z) (fun n => .ref n 0 0) K st | none => False)
  | none => False
def evBox (e : Nat) (x : T) (dst : Option Nat) (st : St) (K : St → Prop) : Prop := match x.cells with
  | some cs => newK dst (.var e cs) (fun n => .ref n 0 0) K st
  | none => False
def evMake (tab : Tab) (t : Nat) (l c : T) (dst : Option Nat) (st : St) (K : St → Prop) : Prop := match tab.ty t, l, c with
  | some i, .d (.int .i64 n), .d (.int .i64 m) => (match i.k with
    | .slice e => (match tab.ty e with
      | some y => (match y.zero, Nat.blt 0 y.size with
        | some z, true => (match dcells st.h z with
          | some zd => Need (0 ≤ n ∧ n ≤ m ∧ m * y.bytes ≤ 281474976710656 ∧ m ≤ 9223372036854775807) (newK dst (.row e (List.replicate n.toNat zd)) T.full K st)
          | none => False)
        | _, _ => False)
      | none => False)
    | _ => False)
  | _, _, _ => False
def evLen (tab : Tab) (t : Nat) (x : T) (st : St) (K : T → Prop) : Prop := match tab.ty t with
  | some i => (match i.k, x with
    | .array n _, _ => K (.d (.int .i64 n))
    | .ptr a, _ => (match tab.ty a with | some j => (match j.k with | .array n _ => K (.d (.int .i64 n)) | _ => False) | none => False)
    | .str, .d (.str s) => K (.d (.int .i64 s.length))
    | .slice _, .d (.sl es) => K (.d (.int .i64 es.length))
    | .slice _, .nils => K (.d (.int .i64 0))
    | .slice _, .full id => (match look st.h id with | some (.row _ es) => K (.d (.int .i64 es.length)) | _ => False)
    | .slice _, .own _ _ n => K (.d (.int .i64 n))
    | .map _ _, .mp id => (match look st.h id with | some (.map es) => K (.d (.int .i64 es.length)) | _ => False)
    | _, _ => False)
  | none => False
/-- The elements that stand ahead in an append, and the object that they are taken from. -/
def headEs (h : Hp) (e : Nat) : T → Option (List (List D) × Option Nat)
  | .nils => some ([], none)
  | .full id => match look h id with | some (.row e' es) => (match Nat.beq e' e with | true => some (es, some id) | false => none) | _ => none
  | .own id o l => match look h id with | some (.row e' es) => (match Nat.beq e' e with | true => some ((es.drop o).take l, some id) | false => none) | _ => none
  | _ => none
def tailEs (tab : Tab) (h : Hp) (e : Nat) : T → Option (List (List D))
  | .d (.str s) => match tab.ty e with | some y => (match y.k with | .int .u8 => some (numsD s) | _ => none) | none => none
  | t => elems h t
def remO (h : Hp) : Option Nat → Hp
  | none => h
  | some i => rem h i
def evAppend (tab : Tab) (ts : List Nat) (s x : T) (dst : Option Nat) (st : St) (K : St → Prop) : Prop := match ts with
  | t :: xt :: _ => (match tab.ty t, tab.ty xt with
    | some i, some xi => (match i.k, xi.k with
      | _, .int _ => False
      | .slice e, _ => (match tab.ty e with
        | some y => (match Nat.blt 0 y.size && y.zero.isSome, headEs st.h e s, tailEs tab st.h e x with
          | true, some (a, o), some b => Need ((a.length + b.length) * y.bytes ≤ 140737488355328 ∧ a.length + b.length ≤ 9223372036854775807) (Need (∀ c ∈ b, c.length = y.size)
              (withSt st fun t' h' n' nt' => newK dst (.row e (a ++ b)) T.full K ⟨t', remO h' o, n', nt'⟩))
          | _, _, _ => False)
        | none => False)
      | _, _ => False)
    | _, _ => False)
  | _ => False
def mxI : List T → Option (IntKind × Int)
  | [] => none
  | [.d (.int k n)] => some (k, n)
  | .d (.int k n) :: r => match mxI r with | some (_, m) => some (k, max n m) | none => none
  | _ => none
def mnI : List T → Option (IntKind × Int)
  | [] => none
  | [.d (.int k n)] => some (k, n)
  | .d (.int k n) :: r => match mnI r with | some (_, m) => some (k, min n m) | none => none
  | _ => none

/-- The arguments as they are handed on: rows by value, unless the callee takes them. -/
def argL (h : Hp) (m : Bool) (l : List T) : List T := match m with | true => l | false => trL (valF h) l
def resT (ρ : Nat → Nat) (t : T) : T := t.tr (renF ρ)
def idAt (l : List Nat) (n i : Nat) : Nat := match nth l i with | some j => j | none => n + i
def disjN : List Nat → List Nat → Bool
  | [], _ => true
  | x :: r, l => match memN l x with | true => false | false => disjN r l
def subN : List Nat → List Nat → Bool
  | [], _ => true
  | x :: r, l => match memN l x with | true => subN r l | false => false
def nodupN : List Nat → Bool
  | [] => true
  | x :: r => match memN r x with | true => false | false => nodupN r
/-- All are there, once, and what they lead to is among them. -/
def closN (h : Hp) (ids : List Nat) : List Nat → Bool
  | [] => true
  | i :: r => match look h i with
    | some o => (match subN o.ids ids with | true => closN h ids r | false => false)
    | none => false
def borOf (tab : Tab) (f : Nat) (args : List T) : List Nat := match tab.byref f with | true => [] | false => addL [] (rwsL args)
def evCall (P : Program) (tab : Tab) (f : Nat) (args : List T) (dst : Option Nat) (st : St) (K : St → Prop) : Prop := match st with
  | ⟨t, h, n, nt⟩ =>
  forceTL (argL h (tab.byref f) args) fun as =>
  addLK [] (idsL as) fun roots =>
  reachK h 4 roots fun ids =>
  forceL (borOf tab f args) fun bor =>
  match disjN bor ids, nodupN ids, closN h ids ids, subN (idsL as) ids, subN (match tab.byref f with | true => [] | false => rwsL args) bor with
  | true, true, true, true, true => CallWP P f (trL (renF (posOf ids)) as) (subH h (posOf ids) ids) fun r h' =>
      forceN (mxN (bndL r.ids) (bndH h')) fun b =>
      match plain r, ids, h' with
      | true, [], [] => forceS ⟨t, appH (rnH (idAt ids n) h') (remL h ids), n + b, nt⟩ (putK dst (resT (idAt ids n) r) K)
      | _, _, _ => match St.frz ⟨t, h, n, nt⟩ bor with
        | ⟨t2, h2, _, _⟩ => forceS ⟨t2, appH (rnH (idAt ids n) h') (remL h2 ids), n + b, nt⟩ (putK dst (resT (idAt ids n) r) K)
  | _, _, _, _, _ => False

def evBuiltin (tab : Tab) (b : Builtin) (ts : List Nat) (args : List T) (dst : Option Nat) (st : St) (K : St → Prop) : Prop := match b, ts, args with
  | .len, t :: _, x :: _ => evLen tab t x st fun r => putK dst r K st
  | .append, ts, s :: x :: _ => evAppend tab ts s x dst st K
  | .max, _, l => (match mxI l with | some (k, n) => putK dst (.d (.int k n)) K st | none => False)
  | .min, _, l => (match mnI l with | some (k, n) => putK dst (.d (.int k n)) K st | none => False)
  | _, _, _ => False

def evMapEq (k : List D) (kk : List D) : Prop := k = kk

def evNext (it : T) (dst : Option Nat) (st : St) (K : St → Prop) : Prop := match it with
  | .itr id => (match look st.h id with
    | some (.iter s pos) =>
      Br (decide (pos < s.length)) (withSt st fun t' h' n' nt' => forceS ⟨t', upd h' id (.iter s (pos + (Utf8.decode ⟨s.toArray⟩ pos).2)), n', nt'⟩ (putK dst (.tup [.d (.bool true), .d (.int .i64 pos), .d (.int .i32 (Utf8.decode ⟨s.toArray⟩ pos).1)]) K))
        (putK dst (.tup [.d (.bool false)]) K st)
    | _ => False)
  | _ => False

def fnOf : T → Option (Nat × List T)
  | .fn f caps => some (f, caps)
  | _ => none

/-- A slice compared with nil: its elements. -/
def slNil (tab : Tab) (t : Nat) (h : Hp) (x y : T) : Option (List (List D)) := match tab.ty t with
  | some i => (match i.k, y with
    | .slice _, .nils => elems h x
    | _, _ => none)
  | none => none
/-- Two interfaces that hold integers of one type: the type, and whether they are alike. -/
def ifcI (tab : Tab) (t : Nat) (x y : T) : Option (Nat × Bool) := match x, y with
  | .ifc tx (.d (.int k a)), .ifc ty (.d (.int k' b)) => (match tab.ty t, tab.ty tx with
    | some i, some j => (match i.k, j.k, Nat.beq tx ty, kq k k' with
      | .iface, .int _, true, true => some (tx, decide (a = b))
      | _, _, _, _ => none)
    | _, _ => none)
  | _, _ => none
def evOp (P : Program) (tab : Tab) (o : Oper) (K : St → Prop) (st : St) : Prop := match o.op with
  | .move x | .assign x => putK o.dst (st.val x) K st
  | .pick c a b => (match st.val c with | .d (.bool t) => Br t (putK o.dst (st.val a) K st) (putK o.dst (st.val b) K st) | _ => False)
  | .alloc e => evAlloc tab e o.dst st K
  | .box e x => evBox e (st.val x) o.dst st K
  | .build t ps => evBuild tab t (ps.toList.map fun p => (p.1, st.val p.2)) fun r => putK o.dst r K st
  | .buildSlice t n ps => evBuildSlice tab t n (ps.toList.map fun p => (p.1, st.val p.2)) o.dst st K
  | .load t a => evLoad tab t (st.val a) st fun r => putK o.dst r K st
  | .store t a x => (match o.dst with | none => evStore tab t (st.val a) (st.val x) st K | some _ => False)
  | .nilCheck x => (match st.val x with
    | .ref id i k => putK o.dst (.ref id i k) K st
    | .cref cs => putK o.dst (.cref cs) K st
    | .fn f cs => putK o.dst (.fn f cs) K st
    | _ => False)
  | .binOp op t x y _ => (match nilCmp tab t (st.val x) (st.val y) (opc x || opc y) with
    | some b => (match op with | .eql => putK o.dst (.d (.bool b)) K st | .neq => putK o.dst (.d (.bool (!b))) K st | _ => False)
    | none => (match slNil tab t st.h (st.val x) (st.val y) with
      | some es => NilB es fun b => (match op with | .eql => putK o.dst (.d (.bool b)) K st | .neq => putK o.dst (.d (.bool (!b))) K st | _ => False)
      | none => (match ifcI tab t (st.val x) (st.val y) with
        | some (tx, b) => Need ((P.info? tx).map (·.comparable) = some true) (match op with | .eql => putK o.dst (.d (.bool b)) K st | .neq => putK o.dst (.d (.bool (!b))) K st | _ => False)
        | none => evBin tab op t (st.val x) (st.val y) fun r => putK o.dst r K st)))
  | .unOp op _ x => evUn op (st.val x) fun r => putK o.dst r K st
  | .convert s d x => (match toBytes tab s d (st.val x) with
    | some (e, u) => newK o.dst (.row e (numsD u)) T.full K st
    | none => evConv tab s d (st.val x) st fun r => putK o.dst r K st)
  | .makeInterface t x => (match tab.ty t with
    | some i => (match i.k with
      | .iface | .other => False
      | _ => putK o.dst (.ifc t (st.val x)) K st)
    | none => False)
  | .makeFunc (.func f) fi ca => (match fi.toList with | [] => putK o.dst (.fn f (ca.toList.map st.val)) K st | _ => False)
  | .makeSlice t l c => evMake tab t (st.val l) (st.val c) o.dst st K
  | .slice t x lo hi mx => evSlice tab t (st.val x) (lo.map st.val) (hi.map st.val) (mx.map st.val) st fun r => putK o.dst r K st
  | .fieldAddr s x f => evFieldAddr tab s (st.val x) f fun r => putK o.dst r K st
  | .field s x f => evField tab s (st.val x) f fun r => putK o.dst r K st
  | .indexAddr t x i => (match tab.ty t with
    | some ti => (match ti.k with
      | .slice e => evIndex tab e (st.val x) (st.val i) st fun r => putK o.dst r K st
      | _ => False)
    | none => False)
  | .index t x i => evIx tab t (st.val x) (st.val i) fun r => putK o.dst r K st
  | .range t x => (match tab.ty t, st.val x with
    | some ti, .d (.str s) => (match ti.k with | .str => newK o.dst (.iter s 0) T.itr K st | _ => False)
    | _, _ => False)
  | .next it true => evNext (st.val it) o.dst st K
  | .extract x i => (match st.val x with | .tup l => (match nth l i with | some r => putK o.dst r K st | none => False) | _ => False)
  | .call c => (match c.callee with
    | .builtin b => evBuiltin tab b c.argTypes.toList (c.args.toList.map st.val) o.dst st K
    | .value f => (match fnOf (st.val f) with
      | some (g, caps) => (match memN tab.ent g with
        | true => evCall P tab g (c.args.toList.map st.val ++ caps) o.dst st K
        | false => False)
      | none => False)
    | .invoke _ _ => False)
  | _ => False

def grd (ops : List Oper) (st : St) (o : Oper) (yes no : Prop) : Prop := match o.guard with
  | none => yes
  | some (j, w) => (match nth ops j with
    | some oj => (match oj.dst with
      | some d => (match Nat.blt d st.nt, get st.t d with | true, .d (.bool b) => (match w with | true => Br b yes no | false => Br b no yes) | true, .tup [] => no | _, _ => False)
      | none => False)
    | none => False)
def evOps (P : Program) (tab : Tab) (ops : List Oper) (K : St → Prop) : List Oper → St → Prop
  | [], st => K st
  | o :: r, st => grd ops st o (evOp P tab o (evOps P tab ops K r) st) (putK o.dst (.tup []) (evOps P tab ops K r) st)

def Ex.andThen (K : St → Prop) (Q : Ex → St → Prop) : Ex → St → Prop
  | .normal, st => K st
  | e, st => Q e st
def Ex.inBlk (id : Nat) (Q : Ex → St → Prop) : Ex → St → Prop
  | .exit j, st => match Nat.beq j id with | true => Q .normal st | false => Q (.exit j) st
  | e, st => Q e st

/-- What is to be shown of code; loops, and regions that draw their order, are left as they stand. -/
def ev (P : Program) (tab : Tab) (B : Nat) : Code → (Ex → St → Prop) → St → Prop
  | .skip, Q, st => Q .normal st
  | .region _ ops false, Q, st => evOps P tab ops.toList (Q .normal) ops.toList st
  | .region id ops true, Q, st => WP P B (.region id ops true) Q st
  | .seq a b, Q, st => ev P tab B a (Ex.andThen (ev P tab B b Q) Q) st
  | .cond c a b, Q, st => (match st.val c with | .d (.bool t) => Br t (ev P tab B a Q st) (ev P tab B b Q st) | _ => False)
  | .block id c, Q, st => ev P tab B c (Ex.inBlk id Q) st
  | .loop c, Q, st => WP P B (.loop c) Q st
  | .exit id, Q, st => Q (.exit id) st
  | .ret, Q, st => Q .ret st
  | .label _, Q, st => Q .normal st
  | .scope c, Q, st => ev P tab B c Q st
  | _, _, _ => False
end Go.VL
