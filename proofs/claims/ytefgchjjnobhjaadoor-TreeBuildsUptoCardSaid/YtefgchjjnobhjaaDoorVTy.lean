/- The program's data, typed: what each kind is by value. -/
import Derived.Test.YtefgchjjnobhjaaDoorVAu
import Derived.Test.YtefgchjjnobhjaaDoorVLaw
set_option linter.unusedVariables false
set_option linter.unusedSimpArgs false
namespace Go.VL
open Go Go.RowKit

abbrev Str := List UInt8
def iI (n : Int) : List D := [.int .i64 n]
def iB (b : Bool) : List D := [.bool b]
def iS (s : Str) : List D := [.str s]
def iU (b : UInt8) : List D := [.int .u8 b.toNat]
def iL (l : List Int) : List D := [.sl (l.map iI)]
structure Attr where
  name : Str
  value : Str
def Attr.d (a : Attr) : List D := [.str a.name, .str a.value]
inductive Nd where
  | mk (name : Str) (attrs : List Attr) (text : Str) (ps : List Nd)
mutual
def Nd.d : Nd → List D
  | .mk a b c ps => [.str a, .sl (b.map Attr.d), .str c, .sl (nds ps)]
def nds : List Nd → List (List D)
  | [] => []
  | n :: r => n.d :: nds r
end
theorem nds_eq : ∀ l : List Nd, nds l = l.map Nd.d
  | [] => rfl
  | n :: r => by rw [nds, nds_eq r]; rfl
def Nd.name : Nd → Str | .mk a _ _ _ => a
def Nd.attrs : Nd → List Attr | .mk _ b _ _ => b
def Nd.text : Nd → Str | .mk _ _ c _ => c
def Nd.ps : Nd → List Nd | .mk _ _ _ ps => ps
theorem nds_len (l : List Nd) : (nds l).length = l.length := by simp [nds_eq]
theorem nds_get (l : List Nd) (i : Nat) : (nds l)[i]? = (l[i]?).map Nd.d := by simp [nds_eq]
theorem nds_app (a b : List Nd) : nds (a ++ b) = nds a ++ nds b := by simp [nds_eq]
theorem nds_each {l : List Nd} : ∀ c ∈ nds l, c.length = 4 := fun c hc => by
  rw [nds_eq, List.mem_map] at hc
  obtain ⟨n, _, rfl⟩ := hc
  cases n; rfl
theorem Each.nds {l : List Nd} {i : Nat} {K : List D → Prop} (h : ∀ a b c ps, l[i]? = some (.mk a b c ps) → K (Nd.mk a b c ps).d) : Each (nds l) i K := by
  rw [nds_eq]
  exact Each.map fun n hn => by cases n; exact h _ _ _ _ hn
theorem Each.ndsAt {l : List Nd} {i : Nat} {K : List D → Prop} {a : Str} {b : List Attr} {c : Str} {ps : List Nd} (hx : l[i]? = some (.mk a b c ps)) (h : K (Nd.mk a b c ps).d) : Each (Go.VL.nds l) i K := by
  rw [nds_eq]; exact Each.mapAt (f := Nd.d) hx h
theorem nds_take {l : List Nd} {i : Nat} {n : Nd} (h : l[i]? = some n) : Go.VL.nds (l.take (i + 1)) = Go.VL.nds (l.take i) ++ [n.d] := by
  rw [List.take_add_one, h, nds_app]; rfl
theorem first_nds {l : List Nd} : ∀ c, (Go.VL.nds l)[0]? = some c → c.length = 4 := fun c hc => nds_each c (List.mem_of_getElem? hc)
theorem first_map {α : Type} {f : α → List D} {n : Nat} (h : ∀ x, (f x).length = n) {l : List α} : ∀ c, (l.map f)[0]? = some c → c.length = n := fun c hc => by
  obtain ⟨x, _, rfl⟩ := List.mem_map.mp (List.mem_of_getElem? hc)
  exact h x
theorem map_each {α : Type} {f : α → List D} {n : Nat} (h : ∀ x, (f x).length = n) {l : List α} : ∀ c ∈ l.map f, c.length = n := fun c hc => by
  obtain ⟨x, _, rfl⟩ := List.mem_map.mp hc
  exact h x
mutual
/-- How many nodes. -/
def Nd.sz : Nd → Nat
  | .mk _ _ _ ps => szs ps + 1
def szs : List Nd → Nat
  | [] => 0
  | n :: r => n.sz + szs r
end
theorem Nd.sz_eq (n : Nd) : n.sz = szs n.ps + 1 := by cases n; simp [Nd.sz, Nd.ps]
theorem szs_app (a b : List Nd) : szs (a ++ b) = szs a + szs b := by
  induction a with
  | nil => simp [szs]
  | cons n r ih => simp [szs, ih]; omega
theorem szs_mem {l : List Nd} {i : Nat} {n : Nd} (h : l[i]? = some n) : szs (l.take i) + n.sz ≤ szs l := by
  induction l generalizing i with
  | nil => simp at h
  | cons m r ih =>
    cases i with
    | zero => simp at h; subst h; simp [szs]
    | succ i => have := ih (i := i) (by simpa using h); simp [szs]; omega
theorem szs_take {l : List Nd} {i : Nat} {n : Nd} (h : l[i]? = some n) : szs (l.take (i + 1)) = szs (l.take i) + n.sz := by
  rw [List.take_add_one, h, szs_app]
  simp [szs]
theorem szs_take_le (l : List Nd) (i : Nat) : szs (l.take i) ≤ szs l := by
  have := szs_app (l.take i) (l.drop i)
  rw [List.take_append_drop] at this
  omega
theorem len_szs : ∀ l : List Nd, l.length ≤ szs l
  | [] => by simp
  | n :: r => by have := len_szs r; have := n.sz_eq; simp [szs]; omega

/-! From the reading of an argument to typed data. -/
variable {P : Program}
theorem TyD.str_inv {t : Nat} {l : List D} (h : TyD P t l) (hu : P.underlying t = some .string) : ∃ s : Str, l = [.str s] := by
  cases h with
  | str h => exact ⟨_, rfl⟩
  | bool b h => rw [hu] at h; cases h
  | int h hr => rw [hu] at h; cases h
  | sl h he => rw [hu] at h; cases h
  | st h parts hl hp => rw [hu] at h; cases h
theorem TyD.bool_inv {t : Nat} {l : List D} (h : TyD P t l) (hu : P.underlying t = some .bool) : ∃ b : Bool, l = [.bool b] := by
  cases h with
  | bool b h => exact ⟨_, rfl⟩
  | str h => rw [hu] at h; cases h
  | int h hr => rw [hu] at h; cases h
  | sl h he => rw [hu] at h; cases h
  | st h parts hl hp => rw [hu] at h; cases h
theorem TyD.int_inv {t : Nat} {k : IntKind} {l : List D} (h : TyD P t l) (hu : P.underlying t = some (.int k)) : ∃ n : Int, l = [.int k n] ∧ InR k n := by
  cases h with
  | int h hr => rw [hu] at h; cases h; exact ⟨_, rfl, hr⟩
  | bool b h => rw [hu] at h; cases h
  | str h => rw [hu] at h; cases h
  | sl h he => rw [hu] at h; cases h
  | st h parts hl hp => rw [hu] at h; cases h
theorem TyD.sl_inv {t e : Nat} {l : List D} (h : TyD P t l) (hu : P.underlying t = some (.slice e)) : ∃ es, l = [.sl es] ∧ ∀ c ∈ es, TyD P e c := by
  cases h with
  | sl h he => rw [hu] at h; cases h; exact ⟨_, rfl, he⟩
  | bool b h => rw [hu] at h; cases h
  | int h hr => rw [hu] at h; cases h
  | str h => rw [hu] at h; cases h
  | st h parts hl hp => rw [hu] at h; cases h
theorem TyD.st_inv {t : Nat} {fs : Array Field} {l : List D} (h : TyD P t l) (hu : P.underlying t = some (.struct fs)) : ∃ parts : List (List D), l = parts.flatten ∧ parts.length = fs.size ∧ ∀ (i : Nat) (f : Field) (c : List D), fs[i]? = some f → parts[i]? = some c → TyD P f.type c := by
  cases h with
  | st h parts hl hp => rw [hu] at h; cases h; exact ⟨_, rfl, hl, hp⟩
  | bool b h => rw [hu] at h; cases h
  | int h hr => rw [hu] at h; cases h
  | str h => rw [hu] at h; cases h
  | sl h he => rw [hu] at h; cases h
/-- A list of data is a list of typed things, each of them so. -/
theorem list_of {α : Type} {f : α → List D} {p : α → Prop} {es : List (List D)} (h : ∀ c ∈ es, ∃ x, c = f x ∧ p x) : ∃ xs : List α, es = xs.map f ∧ ∀ x ∈ xs, p x := by
  induction es with
  | nil => exact ⟨[], rfl, by simp⟩
  | cons c r ih =>
    obtain ⟨x, rfl, hx⟩ := h c (by simp)
    obtain ⟨xs, rfl, hxs⟩ := ih fun c hc => h c (by simp [hc])
    exact ⟨x :: xs, rfl, by simpa [hx] using hxs⟩
theorem list_of' {α : Type} {f : α → List D} {es : List (List D)} (h : ∀ c ∈ es, ∃ x, c = f x) : ∃ xs : List α, es = xs.map f :=
  let ⟨xs, h1, _⟩ := list_of (p := fun _ => True) (f := f) fun c hc => let ⟨x, hx⟩ := h c hc; ⟨x, hx, trivial⟩
  ⟨xs, h1⟩
theorem ty_ints {t e : Nat} (h1 : P.underlying t = some (.slice e)) (h2 : P.underlying e = some (.int .i64)) {l : List D} (h : TyD P t l) : ∃ xs : List Int, l = [.sl (xs.map iI)] ∧ ∀ x ∈ xs, InR .i64 x := by
  obtain ⟨es, rfl, he⟩ := h.sl_inv h1
  obtain ⟨xs, rfl, hx⟩ := list_of (f := iI) (p := InR .i64) fun c hc => (he c hc).int_inv h2
  exact ⟨xs, rfl, hx⟩
theorem ty_intss {t e i : Nat} (h1 : P.underlying t = some (.slice e)) (h2 : P.underlying e = some (.slice i)) (h3 : P.underlying i = some (.int .i64)) {l : List D} (h : TyD P t l) : ∃ xs : List (List Int), l = [.sl (xs.map iL)] ∧ ∀ x ∈ xs, ∀ n ∈ x, InR .i64 n := by
  obtain ⟨es, rfl, he⟩ := h.sl_inv h1
  obtain ⟨xs, rfl, hx⟩ := list_of (f := iL) (p := fun x => ∀ n ∈ x, InR .i64 n) fun c hc => ty_ints h2 h3 (he c hc)
  exact ⟨xs, rfl, hx⟩
theorem ty_bools {t e : Nat} (h1 : P.underlying t = some (.slice e)) (h2 : P.underlying e = some .bool) {l : List D} (h : TyD P t l) : ∃ xs : List Bool, l = [.sl (xs.map iB)] := by
  obtain ⟨es, rfl, he⟩ := h.sl_inv h1
  obtain ⟨xs, rfl⟩ := list_of' (f := iB) fun c hc => (he c hc).bool_inv h2
  exact ⟨xs, rfl⟩
theorem ty_strs {t e : Nat} (h1 : P.underlying t = some (.slice e)) (h2 : P.underlying e = some .string) {l : List D} (h : TyD P t l) : ∃ xs : List Str, l = [.sl (xs.map iS)] := by
  obtain ⟨es, rfl, he⟩ := h.sl_inv h1
  obtain ⟨xs, rfl⟩ := list_of' (f := iS) fun c hc => (he c hc).str_inv h2
  exact ⟨xs, rfl⟩

mutual
theorem nd_le : ∀ n : Nd, n.sz ≤ szL n.d
  | .mk a b c ps => by have := nds_le ps; simp [Nd.sz, Nd.d, szL, szD]; omega
theorem nds_le : ∀ ns : List Nd, szs ns ≤ szLL (nds ns)
  | [] => by simp [szs]
  | n :: r => by have := nds_le r; have := nd_le n; simp [szs, nds, szLL]; omega
end
theorem len_szLL : ∀ es : List (List D), (∀ c ∈ es, c ≠ []) → es.length ≤ szLL es
  | [], _ => by simp
  | c :: r, h => by
    have := len_szLL r fun c hc => h c (by simp [hc])
    have h1 : 1 ≤ szL c := by
      cases c with
      | nil => exact absurd rfl (h [] (by simp))
      | cons x q => cases x <;> simp [szL, szD] <;> omega
    simp [szLL]; omega
end Go.VL
namespace Go.VL
/-- The place of the first that is so; -1: none is. -/
def idx {α : Type} (p : α → Bool) : List α → Int
  | [] => -1
  | x :: r => if p x then 0 else (if idx p r < 0 then -1 else idx p r + 1)
theorem idx_none {α : Type} {p : α → Bool} : ∀ {l : List α}, (∀ (i : Nat) (x : α), l[i]? = some x → p x = false) → idx p l = -1
  | [], _ => rfl
  | x :: r, h => by
    have h1 := h 0 x rfl
    have h2 := idx_none (l := r) fun i y hy => h (i + 1) y hy
    simp [idx, h1, h2]
theorem idx_some {α : Type} {p : α → Bool} : ∀ {l : List α} {i : Nat} {x : α}, l[i]? = some x → p x = true → (∀ (j : Nat) (y : α), j < i → l[j]? = some y → p y = false) → idx p l = i
  | x :: r, 0, y, h, hp, _ => by simp at h; subst h; simp [idx, hp]
  | x :: r, i + 1, y, h, hp, hb => by
    have h1 := hb 0 x (by omega) rfl
    have h2 := idx_some (l := r) (i := i) (by simpa using h) hp fun j z hj hz => hb (j + 1) z (by omega) (by simpa using hz)
    simp only [idx, h1, h2]
    split
    · contradiction
    · rw [if_neg (by omega)]; omega
theorem idx_ge {α : Type} {p : α → Bool} {l : List α} : decide (idx p l ≥ 0) = l.any p := by
  induction l with
  | nil => rfl
  | cons x r ih =>
    simp only [idx, List.any_cons]
    by_cases hp : p x = true
    · simp [hp]
    · simp only [hp, Bool.false_eq_true, if_false, Bool.not_eq_true, Bool.false_or, ← ih]
      by_cases h : idx p r < 0
      · rw [if_pos h]; simp [hp]; omega
      · rw [if_neg h]; simp [hp]; omega
theorem before_succ {α : Type} {p : α → Bool} {l : List α} {i : Nat} {x : α} (hb : ∀ (j : Nat) (y : α), j < i → l[j]? = some y → p y = false) (hx : l[i]? = some x) (hp : p x = false) : ∀ (j : Nat) (y : α), j < i + 1 → l[j]? = some y → p y = false := fun j y hj hy => by
  by_cases h : j = i
  · subst h; rw [hx] at hy; cases hy; exact hp
  · exact hb j y (by omega) hy
theorem before_all {α : Type} {p : α → Bool} {l : List α} {i : Nat} (hb : ∀ (j : Nat) (y : α), j < i → l[j]? = some y → p y = false) (hi : l.length ≤ i) : ∀ (j : Nat) (y : α), l[j]? = some y → p y = false := fun j y hy =>
  hb j y (Nat.lt_of_lt_of_le (List.getElem?_eq_some_iff.mp hy).1 hi) hy
end Go.VL
namespace Go.VL
theorem Fin.bool {a b : Bool} {h h' : Hp} (e : a = b) (k : h = h') : T.d (.bool a) = T.d (.bool b) ∧ h = h' := ⟨by rw [e], k⟩
theorem Fin.int {q : IntKind} {a b : Int} {h h' : Hp} (e : a = b) (k : h = h') : T.d (.int q a) = T.d (.int q b) ∧ h = h' := ⟨by rw [e], k⟩
theorem Fin.str {a b : List UInt8} {h h' : Hp} (e : a = b) (k : h = h') : T.d (.str a) = T.d (.str b) ∧ h = h' := ⟨by rw [e], k⟩
theorem Fin.sl {a b : List (List D)} {h h' : Hp} (e : a = b) (k : h = h') : T.d (.sl a) = T.d (.sl b) ∧ h = h' := ⟨by rw [e], k⟩
theorem Fin.row {i q : Nat} {e : Nat} {a b : List (List D)} (k : a = b) : T.full i = T.full i ∧ [(q, Ob.row e a)] = [(q, Ob.row e b)] := ⟨rfl, by rw [k]⟩
end Go.VL

/- Arguments of a law, typed. -/
namespace Go.VL
open Go Go.RowKit
variable {P : Program}
/-- The types of a struct's fields. -/
def fts (fs : Array Field) : List Nat := fs.toList.map (·.type)
inductive TyL (P : Program) : List Nat → List (List D) → Prop where
  | nil : TyL P [] []
  | cons {t : Nat} {ts : List Nat} {c : List D} {cs : List (List D)} (h : TyD P t c) (r : TyL P ts cs) : TyL P (t :: ts) (c :: cs)
theorem tyL_of : ∀ {fs : List Field} {parts : List (List D)}, parts.length = fs.length → (∀ (i : Nat) (f : Field) (c : List D), fs[i]? = some f → parts[i]? = some c → TyD P f.type c) → TyL P (fs.map (·.type)) parts
  | [], [], _, _ => .nil
  | f :: fs, c :: cs, hl, h => .cons (h 0 f c rfl rfl) (tyL_of (by simpa using hl) fun i g d hg hd => h (i + 1) g d (by simpa using hg) (by simpa using hd))
  | [], _ :: _, hl, _ => by simp at hl
  | _ :: _, [], hl, _ => by simp at hl
theorem TyD.fields {t : Nat} {ts : List Nat} {l : List D} (h : TyD P t l) {fs : Array Field} (hu : P.underlying t = some (.struct fs)) (hf : fts fs = ts) : ∃ parts, l = parts.flatten ∧ TyL P ts parts := by
  obtain ⟨parts, h1, h2, h3⟩ := h.st_inv hu
  refine ⟨parts, h1, ?_⟩
  rw [← hf]
  exact tyL_of (by simpa using h2) fun i f c hi hc => h3 i f c (by simpa using hi) hc

theorem ty_attr {t s : Nat} {fs : Array Field} (hu : P.underlying t = some (.struct fs)) (hf : fts fs = [s, s]) (hs : P.underlying s = some .string) {l : List D} (h : TyD P t l) : ∃ a : Attr, l = a.d := by
  obtain ⟨parts, rfl, hp⟩ := h.fields hu hf
  cases hp with | cons h1 hp => cases hp with | cons h2 hp => cases hp with | nil =>
  obtain ⟨a, rfl⟩ := h1.str_inv hs
  obtain ⟨b, rfl⟩ := h2.str_inv hs
  exact ⟨⟨a, b⟩, rfl⟩
theorem ty_auto {t n i k f b : Nat} {fs : Array Field} (hu : P.underlying t = some (.struct fs)) (hf : fts fs = [n, f]) (h1 : P.underlying n = some (.slice i)) (h2 : P.underlying i = some (.slice k)) (h3 : P.underlying k = some (.int .i64))
    (h4 : P.underlying f = some (.slice b)) (h5 : P.underlying b = some .bool) {l : List D} (h : TyD P t l) : ∃ (x : List (List Int)) (y : List Bool), l = [.sl (x.map iL), .sl (y.map iB)] ∧ ∀ r ∈ x, ∀ n ∈ r, InR .i64 n := by
  obtain ⟨parts, rfl, hp⟩ := h.fields hu hf
  cases hp with | cons q1 hp => cases hp with | cons q2 hp => cases hp with | nil =>
  obtain ⟨x, rfl, hx⟩ := ty_intss h1 h2 h3 q1
  obtain ⟨y, rfl⟩ := ty_bools h4 h5 q2
  exact ⟨x, y, rfl, hx⟩
theorem nds_of {es : List (List D)} (h : ∀ c ∈ es, ∃ n : Nd, c = n.d) : ∃ ns, es = nds ns := by
  obtain ⟨xs, hx⟩ := list_of' h
  exact ⟨xs, by rw [nds_eq]; exact hx⟩
/-- []Node at t, Node at n, []Attr at as, Attr at a, string at s. -/
theorem ty_nodes {t n as a s : Nat} {fs gs : Array Field} (ht : P.underlying t = some (.slice n)) (hn : P.underlying n = some (.struct fs)) (hf : fts fs = [s, as, s, t]) (has : P.underlying as = some (.slice a)) (ha : P.underlying a = some (.struct gs)) (hg : fts gs = [s, s]) (hs : P.underlying s = some .string)
    {u : Nat} {l : List D} (h : TyD P u l) : (u = t → ∃ ns, l = [.sl (nds ns)]) ∧ (u = n → ∃ x : Nd, l = x.d) := by
  induction h with
  | bool b h => exact ⟨fun e => (by subst e; rw [ht] at h; cases h), fun e => (by subst e; rw [hn] at h; cases h)⟩
  | int h _ => exact ⟨fun e => (by subst e; rw [ht] at h; cases h), fun e => (by subst e; rw [hn] at h; cases h)⟩
  | str h => exact ⟨fun e => (by subst e; rw [ht] at h; cases h), fun e => (by subst e; rw [hn] at h; cases h)⟩
  | sl h he ih =>
    refine ⟨fun e => ?_, fun e => (by subst e; rw [hn] at h; cases h)⟩
    subst e
    rw [ht] at h
    cases h
    obtain ⟨ns, rfl⟩ := nds_of fun c hc => (ih c hc).2 rfl
    exact ⟨ns, rfl⟩
  | st h parts hl hp ih =>
    refine ⟨fun e => (by subst e; rw [ht] at h; cases h), fun e => ?_⟩
    subst e
    rw [hn] at h
    cases h
    have hsz : fs.size = 4 := by have := congrArg List.length hf; simpa [fts] using this
    have hft : ∀ (i : Nat) (f : Field), fs[i]? = some f → [s, as, s, t][i]? = some f.type := fun i f hi => by rw [← hf]; simp [fts, hi]
    have hex : ∀ i, i < 4 → ∃ f, fs[i]? = some f := fun i hi => ⟨fs[i], by simp [hsz, hi]⟩
    match parts, hl with
    | [p0, p1, p2, p3], _ =>
      obtain ⟨f0, g0⟩ := hex 0 (by omega)
      obtain ⟨f1, g1⟩ := hex 1 (by omega)
      obtain ⟨f2, g2⟩ := hex 2 (by omega)
      obtain ⟨f3, g3⟩ := hex 3 (by omega)
      have e0 : s = f0.type := by simpa using hft 0 f0 g0
      have e1 : as = f1.type := by simpa using hft 1 f1 g1
      have e2 : s = f2.type := by simpa using hft 2 f2 g2
      have e3 : t = f3.type := by simpa using hft 3 f3 g3
      obtain ⟨x0, rfl⟩ := (hp 0 f0 p0 g0 rfl).str_inv (by rw [← e0]; exact hs)
      obtain ⟨b, rfl, hb⟩ := (hp 1 f1 p1 g1 rfl).sl_inv (by rw [← e1]; exact has)
      obtain ⟨xs, rfl⟩ := list_of' (f := Attr.d) fun c hc => ty_attr ha hg hs (hb c hc)
      obtain ⟨x2, rfl⟩ := (hp 2 f2 p2 g2 rfl).str_inv (by rw [← e2]; exact hs)
      obtain ⟨ns, rfl⟩ := (ih 3 f3 p3 g3 rfl).1 e3.symm
      exact ⟨.mk x0 xs x2 ns, rfl⟩
    | [], hl | [_], hl | [_, _], hl | [_, _, _], hl | _ :: _ :: _ :: _ :: _ :: _, hl => simp [hsz] at hl
theorem szL_app (a b : List D) : szL (a ++ b) = szL a + szL b := by
  induction a with
  | nil => simp [szL]
  | cons x r ih => simp [szL, ih]; omega
end Go.VL
namespace Go.VL
theorem szLL_mem {es : List (List D)} {c : List D} (h : c ∈ es) : szL c ≤ szLL es := by
  induction es with
  | nil => simp at h
  | cons x r ih =>
    simp only [szLL]
    rcases List.mem_cons.mp h with rfl | h
    · omega
    · have := ih h; omega
theorem szLL_app (a b : List (List D)) : szLL (a ++ b) = szLL a + szLL b := by
  induction a with
  | nil => simp [szLL]
  | cons x r ih => simp [szLL, ih]; omega
theorem len_map_sz {α : Type} {f : α → List D} (h : ∀ x, 1 ≤ szL (f x)) (l : List α) : l.length ≤ szLL (l.map f) := by
  induction l with
  | nil => simp
  | cons x r ih => have := h x; simp [szLL]; omega
theorem len_iI (l : List Int) : l.length ≤ szLL (l.map iI) := len_map_sz (fun x => by simp [iI, szL, szD]) l
theorem len_iB (l : List Bool) : l.length ≤ szLL (l.map iB) := len_map_sz (fun x => by simp [iB, szL, szD]) l
theorem len_iS (l : List Str) : l.length ≤ szLL (l.map iS) := len_map_sz (fun x => by simp [iS, szL, szD]) l
theorem len_iL (l : List (List Int)) : l.length ≤ szLL (l.map iL) := len_map_sz (fun x => by simp [iL, szL, szD]) l
theorem mem_iL {l : List (List Int)} {r : List Int} (h : r ∈ l) : r.length ≤ szLL (l.map iL) := by
  have h1 := szLL_mem (List.mem_map_of_mem (f := iL) h)
  have h2 := len_iI r
  simp only [iL, szL, szD] at h1
  omega
theorem mem_iS {l : List Str} {r : Str} (h : r ∈ l) : r.length ≤ szLL (l.map iS) := by
  have h1 := szLL_mem (List.mem_map_of_mem (f := iS) h)
  simp only [iS, szL, szD] at h1
  omega
end Go.VL
