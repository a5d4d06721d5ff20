/- By-value data, own objects, and what it means that a world holds them. -/
import Derived.Calls
import Derived.Orders
import Derived.Below
import Derived.Lib.LaidTab
import Derived.Lib.Space
set_option linter.unusedVariables false
set_option linter.unusedSimpArgs false
namespace Go.VL
open Go Go.RowKit

/-- Pure data by value: a slice is the list of its elements, each the list of its cells. -/
inductive D where
  | bool (b : Bool)
  | int (k : IntKind) (n : Int)
  | str (s : List UInt8)
  | sl (es : List (List D))
  deriving Inhabited

/-- What a temporary may hold. -/
inductive T where
  | d (x : D)
  | agg (xs : List T)
  | tup (xs : List T)
  | full (id : Nat)
  | own (id off len : Nat)
  | nils
  | ref (id i off : Nat)
  | cref (cs : List D)
  | fn (f : Nat) (caps : List T)
  | nilp
  | nilf
  | nili
  | ifc (t : Nat) (x : T)
  | mp (id : Nat)
  | itr (id : Nat)
  | bs (id : Nat)
  | dead
  deriving Inhabited

/-- Objects of the call's own. -/
inductive Ob where
  | row (e : TypeId) (es : List (List D))
  | var (t : TypeId) (cs : List T)
  | map (es : List (List D × List D))
  | iter (s : List UInt8) (pos : Nat)
  deriving Inhabited

/-- Where an object lies: its block (none: a slice that is nil), cells per element, elements of a row. -/
structure Lay where
  blk : Option Nat
  o0 : Nat
  sz : Nat
  len : Nat

abbrev Th := Nat → Option Lay
abbrev Env := List (Nat × T)
abbrev Hp := List (Nat × Ob)

def get : Env → Nat → T
  | [], _ => .dead
  | (k, x) :: r, i => match Nat.beq k i with | true => x | false => get r i
def look : Hp → Nat → Option Ob
  | [], _ => none
  | (k, x) :: r, i => match Nat.beq k i with | true => some x | false => look r i
def rem : Hp → Nat → Hp
  | [], _ => []
  | (k, x) :: r, i => match Nat.beq k i with | true => rem r i | false => (k, x) :: rem r i
def upd : Hp → Nat → Ob → Hp
  | [], _, _ => []
  | (k, x) :: r, i, o => match Nat.beq k i with | true => (k, o) :: upd r i o | false => (k, x) :: upd r i o

structure St where
  t : Env
  h : Hp
  n : Nat
  nt : Nat

def cellAt (w : World) (b o : Nat) : Option Value := w.cell? ⟨b, o, none⟩

inductive RepD (w : World) (N : Nat → Prop) : Value → D → Prop where
  | bool (b : Bool) : RepD w N (.bool b) (.bool b)
  | int (k : IntKind) (n : Int) : RepD w N (.int k n) (.int k n)
  | str (s : List UInt8) : RepD w N (.string ⟨s.toArray⟩) (.str s)
  | nil : RepD w N (.slice none 0 0) (.sl [])
  | sl (ad : Addr) (es : List (List D)) (cap sz : Nat) (c : Nat → Nat → Value) (hl : es.length ≤ cap)
      (hb : es ≠ [] → ad.spot = none ∧ ¬ N ad.block ∧ ad.block < w.heap.size)
      (hs : ∀ e ∈ es, e.length = sz)
      (hc : ∀ (i j : Nat) (x : D), (es[i]?).bind (·[j]?) = some x → cellAt w ad.block (ad.off + i * sz + j) = some (c i j))
      (hr : ∀ (i j : Nat) (x : D), (es[i]?).bind (·[j]?) = some x → RepD w N (c i j) x) :
      RepD w N (.slice (some ad) es.length cap) (.sl es)

inductive RepT (w : World) (N : Nat → Prop) (θ : Th) : Value → T → Prop where
  | d {v : Value} {x : D} (h : RepD w N v x) : RepT w N θ v (.d x)
  | agg (vs : Array Value) (xs : List T) (hl : vs.size = xs.length) (h : ∀ (i : Nat) (x : T), xs[i]? = some x → RepT w N θ (vs.getD i undef) x) : RepT w N θ (.agg vs) (.agg xs)
  | tup (vs : Array Value) (xs : List T) (hl : vs.size = xs.length) (h : ∀ (i : Nat) (x : T), xs[i]? = some x → RepT w N θ (vs.getD i undef) x) : RepT w N θ (.tuple vs) (.tup xs)
  | full (id : Nat) (l : Lay) (hθ : θ id = some l) (b cap : Nat) (hb : l.blk = some b) (hlc : l.len ≤ cap) (hz : ∃ cs e fr, w.heap[b]? = some (.cells cs e fr) ∧ l.o0 + cap * l.sz ≤ cs.size)
      (ad : Addr) (hab : ad.block = b) (hsp : ad.spot = none) (ho : cap ≠ 0 → ad.off = l.o0) : RepT w N θ (.slice (some ad) l.len cap) (.full id)
  | full0 (id : Nat) (l : Lay) (hθ : θ id = some l) (hl : l.len = 0) : RepT w N θ (.slice none 0 0) (.full id)
  | own (id off len : Nat) (l : Lay) (hθ : θ id = some l) (b : Nat) (hb : l.blk = some b) (ad : Addr) (cap : Nat) (hlc : len ≤ cap) (hab : ad.block = b) (hsp : ad.spot = none) (hin : off + len ≤ l.len)
      (ho : cap ≠ 0 → ad.off = l.o0 + off * l.sz) (hz : ∃ cs e fr, w.heap[b]? = some (.cells cs e fr) ∧ l.o0 + (off + cap) * l.sz ≤ cs.size) : RepT w N θ (.slice (some ad) len cap) (.own id off len)
  | own0 (id off : Nat) (l : Lay) (hθ : θ id = some l) : RepT w N θ (.slice none 0 0) (.own id off 0)
  | nils : RepT w N θ (.slice none 0 0) .nils
  | ref (id i off : Nat) (l : Lay) (hθ : θ id = some l) (b : Nat) (hb : l.blk = some b) : RepT w N θ (.pointer (some ⟨b, l.o0 + i * l.sz + off, none⟩)) (.ref id i off)
  | cref (ad : Addr) (cs : List D) (c : Nat → Value) (hb : cs ≠ [] → ad.spot = none ∧ ¬ N ad.block ∧ ad.block < w.heap.size)
      (hc : ∀ (j : Nat) (x : D), cs[j]? = some x → cellAt w ad.block (ad.off + j) = some (c j)) (hr : ∀ (j : Nat) (x : D), cs[j]? = some x → RepD w N (c j) x) : RepT w N θ (.pointer (some ad)) (.cref cs)
  | fn (f : Nat) (vs : Array Value) (xs : List T) (hl : vs.size = xs.length) (h : ∀ (i : Nat) (x : T), xs[i]? = some x → RepT w N θ (vs.getD i undef) x) : RepT w N θ (.func (.func f) #[] vs) (.fn f xs)
  | nilp : RepT w N θ (.pointer none) .nilp
  | nilf : RepT w N θ .nilFunc .nilf
  | nili : RepT w N θ .nilIface .nili
  | ifc (t : Nat) {v : Value} {x : T} (h : RepT w N θ v x) : RepT w N θ (.iface t v) (.ifc t x)
  | mp (id : Nat) (l : Lay) (hθ : θ id = some l) (b : Nat) (hb : l.blk = some b) : RepT w N θ (.map (some b)) (.mp id)
  | itr (id : Nat) (l : Lay) (hθ : θ id = some l) (b : Nat) (hb : l.blk = some b) : RepT w N θ (.pointer (some ⟨b, 0, none⟩)) (.itr id)
  | bs (id : Nat) (v : Value) (l : Lay) (hθ : θ id = some l) (b : Nat) (hb : l.blk = some b) (h : v = .pointer none ∨ v = .pointer (some ⟨b, l.o0, none⟩)) : RepT w N θ v (.bs id)
  | dead (v : Value) : RepT w N θ v .dead

/-- No cell of n is shared with a string. -/
def nf (fr : Nat × Nat) (n : Nat) : Prop := ∀ o, o < n → ¬ (fr.1 ≤ o ∧ o < fr.2)

/-- A map's key or value as the model holds it: one cell, or a struct of cells. -/
def packed : List Value → Value
  | [v] => v
  | vs => .agg vs.toArray

def ObS (P : Program) (w : World) (N : Nat → Prop) (θ : Th) (l : Lay) : Ob → Prop
  | .row e es => l.sz = P.cellsOf e ∧ l.len = es.length ∧ (∀ x ∈ es, x.length = l.sz) ∧
      match l.blk with
      | none => es = []
      | some b => ∃ cs fr, w.heap[b]? = some (.cells cs e fr) ∧ nf fr cs.size ∧ l.o0 + es.length * l.sz ≤ cs.size ∧
          ∀ (i j : Nat) (x : D), (es[i]?).bind (·[j]?) = some x → ∃ u, cs[l.o0 + i * l.sz + j]? = some u ∧ RepD w N u x
  | .var t ts => l.sz = 0 ∧ l.o0 = 0 ∧ ∃ b cs fr, l.blk = some b ∧ w.heap[b]? = some (.cells cs t fr) ∧ nf fr cs.size ∧ cs.size = ts.length ∧
      ∀ (j : Nat) (x : T), ts[j]? = some x → ∃ u, cs[j]? = some u ∧ RepT w N θ u x
  | .map es => ∃ b ents clock, l.blk = some b ∧ w.heap[b]? = some (.map ents clock) ∧ ents.size = es.length ∧
      ∀ (i : Nat) (k v : List D), es[i]? = some (k, v) → ∃ (en : MapEntry) (ks vs : List Value), ents[i]? = some en ∧ en.key = packed ks ∧ en.val = packed vs ∧ ks.length = k.length ∧ vs.length = v.length ∧
        (∀ (j : Nat) (x : D), k[j]? = some x → ∃ u, ks[j]? = some u ∧ RepD w N u x) ∧ (∀ (j : Nat) (x : D), v[j]? = some x → ∃ u, vs[j]? = some u ∧ RepD w N u x)
  | .iter s pos => ∃ b, l.blk = some b ∧ w.heap[b]? = some (.stringIter ⟨s.toArray⟩ pos)

/-- The blocks that must not be shared: a caller's own, and those of the objects at hand. -/
def Nn (X : Nat → Prop) (θ : Th) (h : Hp) (b : Nat) : Prop := X b ∨ ∃ id ob l, look h id = some ob ∧ θ id = some l ∧ l.blk = some b

/-- What has not turned since w0: all but the blocks of O. -/
structure Kp (O : Nat → Prop) (w0 w : World) : Prop where
  os : w.os = w0.os
  tape : w.tape = w0.tape
  output : w.output = w0.output
  size : w0.heap.size ≤ w.heap.size
  block : ∀ b, b < w0.heap.size → ¬ O b → w.heap[b]? = w0.heap[b]?
  shp : ∀ (b : Nat) (cs : Array Value) (e : TypeId) (fr : Nat × Nat), w0.heap[b]? = some (Obj.cells cs e fr) → ∃ cs' fr', w.heap[b]? = some (Obj.cells cs' e fr') ∧ cs'.size = cs.size

/-- The package's tables that a program may hold, with what they hold. -/
def Gl : List (String × Array Value) :=
  [("strings.asciiSpace", (Lib.asciiSpaceTab.map fun z => Value.int .u8 z).toArray),
   ("bobbinet/tree.blocks", #[.string ⟨#[112]⟩, .string ⟨#[100, 105, 118]⟩, .string ⟨#[117, 108]⟩, .string ⟨#[111, 108]⟩, .string ⟨#[108, 105]⟩, .string ⟨#[104, 49]⟩, .string ⟨#[104, 50]⟩, .string ⟨#[116, 97, 98, 108, 101]⟩, .string ⟨#[98, 108, 111, 99, 107, 113, 117, 111, 116, 101]⟩]),
   ("bobbinet/tree.voids", #[.string ⟨#[98, 114]⟩, .string ⟨#[104, 114]⟩, .string ⟨#[105, 109, 103]⟩, .string ⟨#[105, 110, 112, 117, 116]⟩])]

/-- Each of them that the program has lies as it was laid, and is nobody's own. -/
def GlobOK (P : Program) (X O : Nat → Prop) (w : World) : Prop :=
  ∀ (x : String × Array Value) (g : Nat), x ∈ Gl → P.globalNamed x.1 = some g → ¬ X g ∧ ¬ O g ∧ ∃ e fr, w.heap[g]? = some (.cells x.2 e fr)

theorem GlobOK.call {P : Program} {X O X' O' : Nat → Prop} {w0 w : World} (h : GlobOK P X O w0) (k : Kp O w0 w) (hX : ∀ b, b < w0.heap.size → X' b → X b ∨ O b) (hO : ∀ b, b < w0.heap.size → O' b → O b) : GlobOK P X' O' w := by
  intro x g hx hg
  obtain ⟨h1, h2, e, fr, h3⟩ := h x g hx hg
  have hlt : g < w0.heap.size := by
    rcases Nat.lt_or_ge g w0.heap.size with h4 | h4
    · exact h4
    · rw [Array.getElem?_eq_none h4] at h3; cases h3
  exact ⟨fun hq => (hX g hlt hq).elim h1 h2, fun hq => h2 (hO g hlt hq), e, fr, by rw [k.block g hlt h2]; exact h3⟩

structure HpS (P : Program) (X O : Nat → Prop) (B : Nat) (θ : Th) (h : Hp) (w : World) : Prop where
  ob : ∀ id ob, look h id = some ob → ∃ l, θ id = some l ∧ ObS P w (Nn X θ h) θ l ob
  inj : ∀ id id' ob ob' l l' b, look h id = some ob → look h id' = some ob' → θ id = some l → θ id' = some l' → l.blk = some b → l'.blk = some b → id = id'
  rng : ∀ id ob l b, look h id = some ob → θ id = some l → l.blk = some b → b < w.heap.size ∧ ¬ X b ∧ (O b ∨ B ≤ b)

structure Sat (P : Program) (X O : Nat → Prop) (w0 : World) (θ : Th) (st : St) (a : Act) (w : World) : Prop where
  tm : ∀ i, RepT w (Nn X θ st.h) θ (a.tmps.getD i undef) (get st.t i)
  hp : HpS P X O w0.heap.size θ st.h w
  fresh : ∀ id, st.n ≤ id → θ id = none
  dfr : a.defers = []
  nts : a.tmps.size = st.nt
  kp : Kp O w0 w
  xb : ∀ b, X b → b < w0.heap.size
  gl : GlobOK P X O w0

mutual
def T.ids : T → List Nat
  | .agg xs => idsL xs
  | .tup xs => idsL xs
  | .fn _ xs => idsL xs
  | .ifc _ x => x.ids
  | .full id => [id]
  | .own id _ _ => [id]
  | .ref id _ _ => [id]
  | .mp id => [id]
  | .itr id => [id]
  | .bs id => [id]
  | _ => []
def idsL : List T → List Nat
  | [] => []
  | x :: r => x.ids ++ idsL r
end
def Ob.ids : Ob → List Nat
  | .var _ cs => idsL cs
  | _ => []
def mxN (a b : Nat) : Nat := match Nat.ble a b with | true => b | false => a
def bndL : List Nat → Nat
  | [] => 0
  | x :: r => mxN (x + 1) (bndL r)
def bndH : Hp → Nat
  | [] => 0
  | (i, o) :: r => mxN (i + 1) (mxN (bndL o.ids) (bndH r))

/-- What a call comes to, in every world that holds its arguments and the objects handed to it. -/
def CallWP (P : Program) (f : FuncId) (args : List T) (h : Hp) (Q : T → Hp → Prop) : Prop :=
  ∀ (X O : Nat → Prop) (w : World) (θ : Th) (vs : Array Value), vs.size = args.length → (∀ (i : Nat) (x : T), args[i]? = some x → RepT w (Nn X θ h) θ (vs.getD i undef) x) →
    HpS P X O w.heap.size θ h w → (∀ b, X b → b < w.heap.size) → (∀ id, bndH h ≤ id → θ id = none) → GlobOK P X O w →
    Calls P f vs w fun e w' => ∃ v r h' θ', e = .returned v ∧ Q r h' ∧ (∀ id l, θ id = some l → θ' id = some l) ∧ RepT w' (Nn X θ' h') θ' v r ∧
      HpS P X O w.heap.size θ' h' w' ∧ Kp O w w'

/-- How a piece of code ends, of the ways that are told. -/
inductive Ex where
  | normal
  | exit (id : Nat)
  | ret

def Ex.to : Ex → Exit
  | .normal => .normal
  | .exit id => .exit id
  | .ret => .ret

def WP (P : Program) (B : Nat) (c : Code) (Q : Ex → St → Prop) (st : St) : Prop :=
  ∀ (X O : Nat → Prop) (w0 : World) (θ : Th) (a : Act) (w : World), Sat P X O w0 θ st a w →
    c.wp P (fun e a' w' => ∃ e' st' θ', e = Ex.to e' ∧ Q e' st' ∧ (∀ id l, id < B → θ id = some l → θ' id = some l) ∧ Sat P X O w0 θ' st' a' w') a w
end Go.VL
