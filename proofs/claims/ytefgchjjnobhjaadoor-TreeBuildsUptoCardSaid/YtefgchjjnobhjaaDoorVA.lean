/- By-value data, own objects, and what it means that a world holds them. -/
import Derived.Calls
import Derived.Orders
import Derived.Below
import Derived.Lib.LaidTab
import Derived.Lib.Space
set_option linter.unusedVariables false
set_option linter.unusedSimpArgs false
namespace Go.VL
open Go Go.RowKit

/-- Pure data by value: a slice is the list of its elements, each the list of its cells. -/
inductive D where
  | bool (b : Bool)
  | int (k : IntKind) (n : Int)
  | str (s : List UInt8)
  | sl (es : List (List D))
  deriving Inhabited

/-- What a temporary may hold. -/
inductive T where
  | d (x : D)
  | agg (xs : List T)
  | tup (xs : List T)
  | full (id : Nat)
  | own (id off len : Nat)
  | nils
  | ref (id i off : Nat)
  | cref (cs : List D)
  | fn (f : Nat) (caps : List T)
  | nilp
  | nilf
  | nili
  | ifc (t : Nat) (x : T)
  | mp (id : Nat)
  | itr (id : Nat)
  | bs (id : Nat)
  | dead
  deriving Inhabited

/-- Objects of the call's own. -/
inductive Ob where
  | row (e : TypeId) (es : List (List D))
  | var (t : TypeId) (cs : List T)
  | map (es : List (List D × List D))
  | iter (s : List UInt8) (pos : Nat)
  deriving Inhabited

/-- Where an object lies: its block (none: a slice that is nil), cells per element, elements of a row. -/
structure Lay where
  blk : Option Nat
  o0 : Nat
  sz : Nat
  len : Nat

abbrev Th := Nat → Option Lay
abbrev Env := List (Nat × T)
abbrev Hp := List (Nat × Ob)

def get : Env → Nat → T
  | [], _ => .dead
  | (k, x) :: r, i => match Nat.beq k i with | true => x | false => get r i
def look : Hp → Nat → Option Ob
  | [], _ => none
  | (k, x) :: r, i => match Nat.beq k i with | true => some x | false => look r i
def rem : Hp → Nat → Hp
  | [], _ => []
  | (k, x) :: r, i => match Nat.beq k i with | true => rem r i | false => (k, x) :: rem r i
def upd : Hp → Nat → Ob → Hp
  | [], _, _ => []
  | (k, x) :: r, i, o => match Nat.beq k i with | true => (k, o) :: upd r i o | false => (k, x) :: upd r i o

structure St where
  t : Env
  h : Hp
  n : Nat
  nt : Nat

def cellAt (w : World) (b o : Nat) : Option Value := w.cell? ⟨b, o, none⟩

inductive RepD (w : World) (N : Nat → Prop) : Value → D → Prop where
  | bool (b : Bool) : RepD w N (.bool b) (.bool b)
  | int (k : IntKind) (n : Int) : RepD w N (.int k n) (.int k n)
  | str (s : List UInt8) : RepD w N (.string ⟨s.toArray⟩) (.str s)
  | nil : RepD w N (.slice none 0 0) (.sl [])
  | sl (ad : Addr) (es : List (List D)) (cap sz : Nat) (c : Nat → Nat → Value) (hl : es.length ≤ cap)
      (hb : es ≠ [] → ad.spot = none ∧ ¬ N ad.block ∧ ad.block < w.heap.size)
      (hs : ∀ e ∈ es, e.length = sz)
      (hc : ∀ (i j : Nat) (x : D), (es[i]?).bind (·[j]?) = some x → cellAt w ad.block (ad.off + i * sz + j) = some (c i j))
      (hr : ∀ (i j : Nat) (x : D), (es[i]?).bind (·[j]?) = some x → RepD w N (c i j) x) :
      RepD w N (.slice (some ad) es.length cap) (.sl es)

inductive RepT (w : World) (N : Nat → Prop) (θ : Th) : Value → T → Prop where
  | d {v : Value} {x : D} (h : RepD w N v x) : RepT w N θ v (.d x)
  | agg (vs : Array Value) (xs : List T) (hl : vs.size = xs.length) (h : ∀ (i : Nat) (x : T), xs[i]? = some x → RepT w N θ (vs.getD i undef) x) : RepT w N θ (.agg vs) (.agg xs)
  | tup (vs : Array Value) (xs : List T) (hl : vs.size = xs.length) (h : ∀ (i : Nat) (x : T), xs[i]? = some x → RepT w N θ (vs.getD i undef) x) : RepT w N θ (.tuple vs) (.tup xs)
  | full (id : Nat) (l : Lay) (hθ : θ id = some l) (b cap : Nat) (hb : l.blk = some b) (hlc : l.len ≤ cap) (hz : ∃ cs e fr, w.heap[b]? = some (.cells cs e fr) ∧ l.o0 + cap * l.sz ≤ cs.size)
      (ad : Addr) (hab : ad.block = b) (hsp : ad.spot = none) (ho : cap ≠ 0 → ad.off = l.o0) : RepT w N θ (.slice (some ad) l.len cap) (.full id)
  | full0 (id : Nat) (l : Lay) (hθ : θ id = some l) (hl : l.len = 0) : RepT w N θ (.slice none 0 0) (.full id)
  | own (id off len : Nat) (l : Lay) (hθ : θ id = some l) (b : Nat) (hb : l.blk = some b) (ad : Addr) (cap : Nat) (hlc : len ≤ cap) (hab : ad.block = b) (hsp : ad.spot = none) (hin : off + len ≤ l.len)
      (ho : cap ≠ 0 → ad.off = l.o0 + off * l.sz) (hz : ∃ cs e fr, w.heap[b]? = some (.cells cs e fr) ∧ l.o0 + (off + cap) * l.sz ≤ cs.size) : RepT w N θ (.slice (some ad) len cap) (.own id off len)
  | own0 (id off : Nat) (l : Lay) (hθ : θ id = some l) : RepT w N θ (.slice none 0 0) (.own id off 0)
  | nils : RepT w N θ (.slice none 0 0) .nils
  | ref (id i off : Nat) (l : Lay) (hθ : θ id = some l) (b : Nat) (hb : l.blk = some b) : RepT w N θ (.pointer (some ⟨b, l.o0 + i * l.sz + off, none⟩)) (.ref id i off)
  | cref (ad : Addr) (cs : List D) (c : Nat → Value) (hb : cs ≠ [] → ad.spot = none ∧ ¬ N ad.block ∧ ad.block < w.heap.size)
      (hc : ∀ (j : Nat) (x : D), cs[j]? = some x → cellAt w ad.block (ad.off + j) = some (c j)) (hr : ∀ (j : Nat) (x : D), cs[j]? = some x → RepD w N (c j) x) : RepT w N θ (.pointer (some ad)) (.cref cs)
  | fn (f : Nat) (vs : Array Value) (xs : List T) (hl : vs.size = xs.length) (h : ∀ (i : Nat) (x : T), xs[i]? = some x → RepT w N θ (vs.getD i undef) x) : RepT w N θ (.func (.func f) #[] vs) (.fn f xs)
  | nilp : RepT w N θ (.pointer none) .nilp
  | nilf : RepT w N θ .nilFunc .nilf
  | nili : RepT w N θ .nilIface .nili
  | ifc (t : Nat) {v : Value} {x : T} (h : RepT w N θ v x) : RepT w N θ (.iface t v) (.ifc t x)
  | mp (id : Nat) (l : Lay) (hθ : θ id = some l) (b : Nat) (hb : l.blk = some b) : RepT w N θ (.map (some b)) (.mp id)
  | itr (id : Nat) (l : Lay) (hθ : θ id = some l) (b : Nat) (hb : l.blk = some b) : RepT w N θ (.pointer (some ⟨b, 0, none⟩)) (.itr id)
  | bs (id : Nat) (v : Value) (l : Lay) (hθ : θ id = some l) (b : Nat) (hb : l.blk = some b) (h : v = .pointer none ∨ v = .pointer (some ⟨b, l.o0, none⟩)) : RepT w N θ v (.bs id)
  | dead (v : Value) : RepT w N θ v .dead

/-- No cell of n is shared with a string. -/
def nf (fr : Nat × Nat) (n : Nat) : Prop := ∀ o, o < n → ¬ (fr.1 ≤ o ∧ o < fr.2)
/-- .. nor, where elements have more cells than one, the place behind them. -/
def xz (sz : Nat) : Nat := if sz = 1 then 0 else 1
theorem nf.w {fr : Nat × Nat} {n k : Nat} (h : nf fr (n + k)) : nf fr n := fun o ho => h o (by omega)

/-- A map's key or value as the model holds it: one cell, or a struct of cells. -/
def packed : List Value → Value
  | [v] => v
  | vs => .agg vs.toArray

def ObS (P : Program) (w : World) (N : Nat → Prop) (θ : Th) (l : Lay) : Ob → Prop
  | .row e es => l.sz = P.cellsOf e ∧ l.len = es.length ∧ (∀ x ∈ es, x.length = l.sz) ∧
      match l.blk with
      | none => es = []
      | some b => ∃ cs fr, w.heap[b]? = some (.cells cs e fr) ∧ nf fr (cs.size + xz l.sz) ∧ l.o0 + es.length * l.sz ≤ cs.size ∧
          ∀ (i j : Nat) (x : D), (es[i]?).bind (·[j]?) = some x → ∃ u, cs[l.o0 + i * l.sz + j]? = some u ∧ RepD w N u x
  | .var t ts => l.sz = 0 ∧ l.o0 = 0 ∧ ∃ b cs fr, l.blk = some b ∧ w.heap[b]? = some (.cells cs t fr) ∧ nf fr cs.size ∧ cs.size = ts.length ∧
      ∀ (j : Nat) (x : T), ts[j]? = some x → ∃ u, cs[j]? = some u ∧ RepT w N θ u x
  | .map es => ∃ b ents clock, l.blk = some b ∧ w.heap[b]? = some (.map ents clock) ∧ ents.size = es.length ∧
      ∀ (i : Nat) (k v : List D), es[i]? = some (k, v) → ∃ (en : MapEntry) (ks vs : List Value), ents[i]? = some en ∧ en.key = packed ks ∧ en.val = packed vs ∧ ks.length = k.length ∧ vs.length = v.length ∧
        (∀ (j : Nat) (x : D), k[j]? = some x → ∃ u, ks[j]? = some u ∧ RepD w N u x) ∧ (∀ (j : Nat) (x : D), v[j]? = some x → ∃ u, vs[j]? = some u ∧ RepD w N u x)
  | .iter s pos => ∃ b, l.blk = some b ∧ w.heap[b]? = some (.stringIter ⟨s.toArray⟩ pos)

/-- The blocks that must not be shared: a caller's own, and those of the objects at hand. -/
def Nn (X : Nat → Prop) (θ : Th) (h : Hp) (b : Nat) : Prop := X b ∨ ∃ id ob l, look h id = some ob ∧ θ id = some l ∧ l.blk = some b

/-- What has not turned since w0: all but the blocks of O. -/
structure Kp (O : Nat → Prop) (w0 w : World) : Prop where
  os : w.os = w0.os
  tape : w.tape = w0.tape
  output : w.output = w0.output
  size : w0.heap.size ≤ w.heap.size
  block : ∀ b, b < w0.heap.size → ¬ O b → w.heap[b]? = w0.heap[b]?
  shp : ∀ (b : Nat) (cs : Array Value) (e : TypeId) (fr : Nat × Nat), w0.heap[b]? = some (Obj.cells cs e fr) → ∃ cs' fr', w.heap[b]? = some (Obj.cells cs' e fr') ∧ cs'.size = cs.size

/-- The package's tables that a program may hold, with what they hold. -/
def Gl : List (String × (Array Value → Prop)) :=
  [("strings.asciiSpace", fun cs => cs = (Lib.asciiSpaceTab.map fun z => Value.int .u8 z).toArray),
   ("internal/bytealg.MaxLen", fun cs => ∃ m, cs = #[.int .i64 m]),
   ("strconv.ErrSyntax", fun cs => ∃ v, cs = #[v] ∧ (v = .nilIface ∨ ∃ t p, v = .iface t p)),
   ("bobbinet/tree.blocks", fun cs => cs = #[.string ⟨#[112]⟩, .string ⟨#[100, 105, 118]⟩, .string ⟨#[117, 108]⟩, .string ⟨#[111, 108]⟩, .string ⟨#[108, 105]⟩, .string ⟨#[104, 49]⟩, .string ⟨#[104, 50]⟩, .string ⟨#[116, 97, 98, 108, 101]⟩, .string ⟨#[98, 108, 111, 99, 107, 113, 117, 111, 116, 101]⟩]),
   ("bobbinet/tree.voids", fun cs => cs = #[.string ⟨#[98, 114]⟩, .string ⟨#[104, 114]⟩, .string ⟨#[105, 109, 103]⟩, .string ⟨#[105, 110, 112, 117, 116]⟩])]

/-- Each of them that the program has lies as it was laid, and is nobody's own. -/
def GlobOK (P : Program) (X O : Nat → Prop) (w : World) : Prop :=
  ∀ (x : String × (Array Value → Prop)) (g : Nat), x ∈ Gl → P.globalNamed x.1 = some g → ¬ X g ∧ ¬ O g ∧ ∃ cs e fr, w.heap[g]? = some (.cells cs e fr) ∧ x.2 cs

theorem GlobOK.call {P : Program} {X O X' O' : Nat → Prop} {w0 w : World} (h : GlobOK P X O w0) (k : Kp O w0 w) (hX : ∀ b, b < w0.heap.size → X' b → X b ∨ O b) (hO : ∀ b, b < w0.heap.size → O' b → O b) : GlobOK P X' O' w := by
  intro x g hx hg
  obtain ⟨h1, h2, cs, e, fr, h3, h4'⟩ := h x g hx hg
  have hlt : g < w0.heap.size := by
    rcases Nat.lt_or_ge g w0.heap.size with h4 | h4
    · exact h4
    · rw [Array.getElem?_eq_none h4] at h3; cases h3
  exact ⟨fun hq => (hX g hlt hq).elim h1 h2, fun hq => h2 (hO g hlt hq), cs, e, fr, by rw [k.block g hlt h2]; exact h3, h4'⟩

structure HpS (P : Program) (X O : Nat → Prop) (B : Nat) (θ : Th) (h : Hp) (w : World) : Prop where
  ob : ∀ id ob, look h id = some ob → ∃ l, θ id = some l ∧ ObS P w (Nn X θ h) θ l ob
  inj : ∀ id id' ob ob' l l' b, look h id = some ob → look h id' = some ob' → θ id = some l → θ id' = some l' → l.blk = some b → l'.blk = some b → id = id'
  rng : ∀ id ob l b, look h id = some ob → θ id = some l → l.blk = some b → b < w.heap.size ∧ ¬ X b ∧ (O b ∨ B ≤ b)

structure Sat (P : Program) (X O : Nat → Prop) (w0 : World) (θ : Th) (st : St) (a : Act) (w : World) : Prop where
  tm : ∀ i, RepT w (Nn X θ st.h) θ (a.tmps.getD i undef) (get st.t i)
  hp : HpS P X O w0.heap.size θ st.h w
  fresh : ∀ id, st.n ≤ id → θ id = none
  dfr : a.defers = []
  nts : a.tmps.size = st.nt
  kp : Kp O w0 w
  xb : ∀ b, X b → b < w0.heap.size
  gl : GlobOK P X O w0

mutual
def T.ids : T → List Nat
  | .agg xs => idsL xs
  | .tup xs => idsL xs
  | .fn _ xs => idsL xs
  | .ifc _ x => x.ids
  | .full id => [id]
  | .own id _ _ => [id]
  | .ref id _ _ => [id]
  | .mp id => [id]
  | .itr id => [id]
  | .bs id => [id]
  | _ => []
def idsL : List T → List Nat
  | [] => []
  | x :: r => x.ids ++ idsL r
end
def Ob.ids : Ob → List Nat
  | .var _ cs => idsL cs
  | _ => []
def mxN (a b : Nat) : Nat := match Nat.ble a b with | true => b | false => a
def bndL : List Nat → Nat
  | [] => 0
  | x :: r => mxN (x + 1) (bndL r)
def bndH : Hp → Nat
  | [] => 0
  | (i, o) :: r => mxN (i + 1) (mxN (bndL o.ids) (bndH r))

/-- What a call comes to, in every world that holds its arguments and the objects handed to it. -/
def CallWP (P : Program) (f : FuncId) (args : List T) (h : Hp) (Q : T → Hp → Prop) : Prop :=
  ∀ (X O : Nat → Prop) (w : World) (θ : Th) (vs : Array Value), vs.size = args.length → (∀ (i : Nat) (x : T), args[i]? = some x → RepT w (Nn X θ h) θ (vs.getD i undef) x) →
    HpS P X O w.heap.size θ h w → (∀ b, X b → b < w.heap.size) → (∀ id, bndH h ≤ id → θ id = none) → GlobOK P X O w →
    Calls P f vs w fun e w' => ∃ v r h' θ', e = .returned v ∧ Q r h' ∧ (∀ id l, θ id = some l → θ' id = some l) ∧ RepT w' (Nn X θ' h') θ' v r ∧
      HpS P X O w.heap.size θ' h' w' ∧ Kp O w w'

/-- How a piece of code ends, of the ways that are told. -/
inductive Ex where
  | normal
  | exit (id : Nat)
  | ret

def Ex.to : Ex → Exit
  | .normal => .normal
  | .exit id => .exit id
  | .ret => .ret

def WP (P : Program) (B : Nat) (c : Code) (Q : Ex → St → Prop) (st : St) : Prop :=
  ∀ (X O : Nat → Prop) (w0 : World) (θ : Th) (a : Act) (w : World), Sat P X O w0 θ st a w →
    c.wp P (fun e a' w' => ∃ e' st' θ', e = Ex.to e' ∧ Q e' st' ∧ (∀ id l, id < B → θ id = some l → θ' id = some l) ∧ Sat P X O w0 θ' st' a' w') a w
end Go.VL

/- Representation is kept while the world grows. -/
namespace Go.VL
open Go Go.RowKit

/-- Every block that is there and may be shared reads as it did, and may still be shared. -/
def Ext (w : World) (N : Nat → Prop) (w' : World) (N' : Nat → Prop) : Prop :=
  w.heap.size ≤ w'.heap.size ∧ ∀ b, b < w.heap.size → ¬ N b → ¬ N' b ∧ w'.heap[b]? = w.heap[b]?

/-- Rows keep their sizes. -/
def Szp (w w' : World) : Prop := ∀ (b : Nat) (cs : Array Value) (e : TypeId) (fr : Nat × Nat), w.heap[b]? = some (Obj.cells cs e fr) → ∃ cs' fr', w'.heap[b]? = some (Obj.cells cs' e fr') ∧ cs'.size = cs.size

def Sub (θ θ' : Th) : Prop := ∀ id l, θ id = some l → θ' id = some l

theorem Ext.refl (w : World) (N : Nat → Prop) : Ext w N w N := ⟨Nat.le_refl _, fun _ _ h => ⟨h, rfl⟩⟩
theorem Ext.trans {w N w' N' w'' N''} (h : Ext w N w' N') (k : Ext w' N' w'' N'') : Ext w N w'' N'' :=
  ⟨Nat.le_trans h.1 k.1, fun b hb hn => by
    obtain ⟨h1, h2⟩ := h.2 b hb hn
    obtain ⟨k1, k2⟩ := k.2 b (Nat.lt_of_lt_of_le hb h.1) h1
    exact ⟨k1, k2.trans h2⟩⟩
theorem Szp.refl (w : World) : Szp w w := fun _ cs _ fr h => ⟨cs, fr, h, rfl⟩
theorem Szp.trans {w w' w''} (h : Szp w w') (k : Szp w' w'') : Szp w w'' := fun b cs e fr hb => by
  obtain ⟨cs1, fr1, h1, e1⟩ := h b cs e fr hb
  obtain ⟨cs2, fr2, h2, e2⟩ := k b cs1 e fr1 h1
  exact ⟨cs2, fr2, h2, e2.trans e1⟩
theorem Sub.refl (θ : Th) : Sub θ θ := fun _ _ h => h
theorem Sub.trans {a b c : Th} (h : Sub a b) (k : Sub b c) : Sub a c := fun id l hl => k id l (h id l hl)

theorem cellAt_eq {w w' : World} {b o : Nat} (h : w'.heap[b]? = w.heap[b]?) : cellAt w' b o = cellAt w b o := by
  unfold cellAt World.cell?; simp only [h]

theorem RepD.ext {w N w' N'} {v : Value} {x : D} (h : RepD w N v x) (he : Ext w N w' N') : RepD w' N' v x := by
  induction h with
  | bool b => exact .bool b
  | int k n => exact .int k n
  | str s => exact .str s
  | nil => exact .nil
  | sl ad es cap sz c hl hb hs hc hr ih =>
    refine .sl ad es cap sz c hl (fun hne => ?_) hs (fun i j x hx => ?_) ih
    · obtain ⟨h1, h2, h3⟩ := hb hne
      exact ⟨h1, (he.2 _ h3 h2).1, Nat.lt_of_lt_of_le h3 he.1⟩
    · have hne : es ≠ [] := by rintro rfl; simp at hx
      obtain ⟨h1, h2, h3⟩ := hb hne
      rw [cellAt_eq (he.2 _ h3 h2).2]
      exact hc i j x hx

theorem RepT.ext {w N θ w' N' θ'} {v : Value} {x : T} (h : RepT w N θ v x) (he : Ext w N w' N') (hs : Szp w w') (hθ : Sub θ θ') : RepT w' N' θ' v x := by
  induction h with
  | d h => exact .d (h.ext he)
  | agg vs xs hl _ ih => exact .agg vs xs hl ih
  | tup vs xs hl _ ih => exact .tup vs xs hl ih
  | full id l hl b cap hb hlc hz ad hab hsp ho =>
    obtain ⟨cs, e, fr, h1, h2⟩ := hz
    obtain ⟨cs', fr', h3, h4⟩ := hs b cs e fr h1
    exact .full id l (hθ _ _ hl) b cap hb hlc ⟨cs', e, fr', h3, by omega⟩ ad hab hsp ho
  | full0 id l hl h0 => exact .full0 id l (hθ _ _ hl) h0
  | own id off len l hl b hb ad cap hlc hab hsp hin ho hz =>
    obtain ⟨cs, e, fr, h1, h2⟩ := hz
    obtain ⟨cs', fr', h3, h4⟩ := hs b cs e fr h1
    exact .own id off len l (hθ _ _ hl) b hb ad cap hlc hab hsp hin ho ⟨cs', e, fr', h3, by omega⟩
  | own0 id off l hl => exact .own0 id off l (hθ _ _ hl)
  | nils => exact .nils
  | ref id i off l hl b hb => exact .ref id i off l (hθ _ _ hl) b hb
  | cref ad cs c hb hc hr =>
    refine .cref ad cs c (fun hne => ?_) (fun j x hx => ?_) (fun j x hx => (hr j x hx).ext he)
    · obtain ⟨h1, h2, h3⟩ := hb hne
      exact ⟨h1, (he.2 _ h3 h2).1, Nat.lt_of_lt_of_le h3 he.1⟩
    · have hne : cs ≠ [] := by rintro rfl; simp at hx
      obtain ⟨h1, h2, h3⟩ := hb hne
      rw [cellAt_eq (he.2 _ h3 h2).2]
      exact hc j x hx
  | fn f vs xs hl _ ih => exact .fn f vs xs hl ih
  | nilp => exact .nilp
  | nilf => exact .nilf
  | nili => exact .nili
  | ifc t _ ih => exact .ifc t ih
  | mp id l hl b hb => exact .mp id l (hθ _ _ hl) b hb
  | itr id l hl b hb => exact .itr id l (hθ _ _ hl) b hb
  | bs id v l hl b hb h => exact .bs id v l (hθ _ _ hl) b hb h
  | dead v => exact .dead v

/-- An object whose own block has not turned. -/
theorem ObS.ext {P w N θ w' N' θ'} {l : Lay} {ob : Ob} (h : ObS P w N θ l ob) (he : Ext w N w' N') (hs : Szp w w') (hθ : Sub θ θ')
    (hb : ∀ b, l.blk = some b → w'.heap[b]? = w.heap[b]?) : ObS P w' N' θ' l ob := by
  cases ob with
  | row e es =>
    obtain ⟨h1, h2, h3, h4⟩ := h
    refine ⟨h1, h2, h3, ?_⟩
    cases hk : l.blk with
    | none => simpa [hk] using h4
    | some b =>
      simp only [hk] at h4 ⊢
      obtain ⟨cs, fr, k1, k2, k3, k4⟩ := h4
      refine ⟨cs, fr, by rw [hb b hk, k1], k2, k3, fun i j x hx => ?_⟩
      obtain ⟨u, u1, u2⟩ := k4 i j x hx
      exact ⟨u, u1, u2.ext he⟩
  | var t ts =>
    obtain ⟨h1, h0, b, cs, fr, k0, k1, k2, k3, k4⟩ := h
    refine ⟨h1, h0, b, cs, fr, k0, by rw [hb b k0, k1], k2, k3, fun j x hx => ?_⟩
    obtain ⟨u, u1, u2⟩ := k4 j x hx
    exact ⟨u, u1, u2.ext he hs hθ⟩
  | map es =>
    obtain ⟨b, ents, clock, k0, k1, k2, k3⟩ := h
    refine ⟨b, ents, clock, k0, by rw [hb b k0, k1], k2, fun i k v hkv => ?_⟩
    obtain ⟨en, ks, vs, e1, e2, e3, e4, e5, e6, e7⟩ := k3 i k v hkv
    refine ⟨en, ks, vs, e1, e2, e3, e4, e5, fun j x hx => ?_, fun j x hx => ?_⟩
    · obtain ⟨u, u1, u2⟩ := e6 j x hx; exact ⟨u, u1, u2.ext he⟩
    · obtain ⟨u, u1, u2⟩ := e7 j x hx; exact ⟨u, u1, u2.ext he⟩
  | iter s pos =>
    obtain ⟨b, k0, k1⟩ := h
    exact ⟨b, k0, by rw [hb b k0, k1]⟩

theorem Kp.refl (O : Nat → Prop) (w : World) : Kp O w w := ⟨rfl, rfl, rfl, Nat.le_refl _, fun _ _ _ => rfl, fun _ cs _ fr h => ⟨cs, fr, h, rfl⟩⟩
theorem Kp.trans {O w w' w''} (h : Kp O w w') (k : Kp O w' w'') : Kp O w w'' :=
  ⟨k.os.trans h.os, k.tape.trans h.tape, k.output.trans h.output, Nat.le_trans h.size k.size,
   fun b hb ho => (k.block b (Nat.lt_of_lt_of_le hb h.size) ho).trans (h.block b hb ho), Szp.trans (w := w) (w' := w') h.shp k.shp⟩
/-- What another call keeps, its own blocks being ours or new. -/
theorem Kp.trans' {O O' w w' w''} (h : Kp O w w') (k : Kp O' w' w'') (ho : ∀ b, b < w.heap.size → O' b → O b) : Kp O w w'' :=
  ⟨k.os.trans h.os, k.tape.trans h.tape, k.output.trans h.output, Nat.le_trans h.size k.size,
   fun b hb hn => (k.block b (Nat.lt_of_lt_of_le hb h.size) (fun hq => hn (ho b hb hq))).trans (h.block b hb hn), Szp.trans (w := w) (w' := w') h.shp k.shp⟩

/-! ### lists of names -/
theorem beqf {a b : Nat} (h : ¬ a = b) : Nat.beq a b = false := by
  cases hh : Nat.beq a b
  · rfl
  · exact absurd (Nat.eq_of_beq_eq_true hh) h
theorem look_rem {h : Hp} {i j : Nat} : look (rem h i) j = if i = j then none else look h j := by
  induction h with
  | nil => simp [rem, look]
  | cons p r ih =>
    obtain ⟨k, x⟩ := p
    simp only [rem]
    by_cases hk : k = i
    · subst hk
      simp only [Nat.beq_refl, ih, look]
      by_cases hj : k = j
      · simp [hj]
      · have : Nat.beq k j = false := beqf hj
        simp [hj, this]
    · have h1 : Nat.beq k i = false := beqf hk
      simp only [h1, look, ih]
      by_cases hj : k = j
      · subst hj
        have : ¬ i = k := fun e => hk e.symm
        simp [this]
      · have : Nat.beq k j = false := beqf hj
        simp [this]
theorem look_upd {h : Hp} {i j : Nat} {o : Ob} : look (upd h i o) j = if i = j then (look h j).map (fun _ => o) else look h j := by
  induction h with
  | nil => simp [upd, look]
  | cons p r ih =>
    obtain ⟨k, x⟩ := p
    simp only [upd]
    by_cases hk : k = i
    · subst hk
      simp only [Nat.beq_refl, ih, look]
      by_cases hj : k = j
      · simp [hj]
      · have : Nat.beq k j = false := beqf hj
        simp [hj, this]
    · have h1 : Nat.beq k i = false := beqf hk
      simp only [h1, look, ih]
      by_cases hj : k = j
      · subst hj
        have : ¬ i = k := fun e => hk e.symm
        simp [this]
      · have : Nat.beq k j = false := beqf hj
        simp [this]
theorem look_cons {h : Hp} {i j : Nat} {o : Ob} : look ((i, o) :: h) j = if i = j then some o else look h j := by
  simp only [look]
  by_cases hj : i = j
  · simp [hj]
  · have : Nat.beq i j = false := beqf hj
    simp [hj, this]
theorem get_cons {e : Env} {i j : Nat} {x : T} : get ((i, x) :: e) j = if i = j then x else get e j := by
  simp only [get]
  by_cases hj : i = j
  · simp [hj]
  · have : Nat.beq i j = false := beqf hj
    simp [hj, this]
end Go.VL
