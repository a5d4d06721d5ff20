/- The builder of trees: both ways, in plain Lean. -/
import Derived.Test.YtefgchjjnobhjaaDoorVTy4
set_option linter.unusedVariables false
set_option linter.unusedSimpArgs false
namespace Go.VL
open Go
abbrev TokT := Token
/-- What was built, in the order in which it came: in which one it lies (-1: in none). -/
structure Ent where
  (par : Int) (name : Str) (attrs : List Attr) (text : Str) (tx : Bool)
def sP : Str := [112]
def sLi : Str := [108, 105]
def sUl : Str := [117, 108]
def sOl : Str := [111, 108]
def sScript : Str := [115, 99, 114, 105, 112, 116]
def sStyle : Str := [115, 116, 121, 108, 101]
def blocksN : List Str := [[112], [100, 105, 118], [117, 108], [111, 108], [108, 105], [104, 49], [104, 50], [116, 97, 98, 108, 101], [98, 108, 111, 99, 107, 113, 117, 111, 116, 101]]
def voidsN : List Str := [[98, 114], [104, 114], [105, 109, 103], [105, 110, 112, 117, 116]]
def nameE (es : List Ent) (k : Nat) : Str := ((es[k - 1]?).map (·.name)).getD []
/-- The place on the stack: 0: nowhere. -/
def fx (es : List Ent) (nm : Str) (s : List Nat) : Nat → Nat
  | 0 => 0
  | n + 1 => if nameE es (s.getD n 0) = nm then n + 1 else fx es nm s n
def fnd (es : List Ent) (nm : Str) (s : List Nat) : Nat := fx es nm s s.length
def pclose (s : List Nat) (i : Nat) : List Nat := if i > 0 then s.take (i - 1) else s
def topS (s : List Nat) : Nat := s.getLast?.getD 0
def ps1 (es : List Ent) (s : List Nat) (nm : Str) : List Nat := if nm ∈ blocksN then pclose s (fnd es sP s) else s
def ps2 (es : List Ent) (s : List Nat) (nm : Str) : List Nat := if nm = sLi ∧ fnd es sLi s > fnd es sUl s ∧ fnd es sLi s > fnd es sOl s then pclose s (fnd es sLi s) else s
def pstart (es : List Ent) (s : List Nat) (t : TokT) : List Ent × List Nat × Str :=
  let s2 := ps2 es (ps1 es s t.name) t.name
  if s2.length + 1 > 10 then (es, s2, if t.self = false ∧ (t.name = sScript ∨ t.name = sStyle) then t.name else [])
  else (es ++ [⟨(topS s2 : Int) - 1, t.name, t.attrs, [], false⟩], if t.self = false ∧ t.name ∉ voidsN then s2 ++ [es.length + 1] else s2, [])
/-- The last one that is so, ahead of place n; -1: none. -/
def lx {α : Type} (p : α → Bool) (l : List α) : Nat → Int
  | 0 => -1
  | n + 1 => if ((l[n]?).map p).getD false = true then (n : Int) else lx p l n
def lastIx {α : Type} (p : α → Bool) (l : List α) : Int := lx p l l.length
def inE (q : Int) (e : Ent) : Bool := decide (e.par = q)
def addTx (es : List Ent) (q : Int) (tx : Str) : List Ent :=
  match es[(lastIx (inE q) es).toNat]? with
  | some e => if 0 ≤ lastIx (inE q) es ∧ e.tx = true then es.set (lastIx (inE q) es).toNat { e with text := e.text ++ tx } else es ++ [⟨q, [], [], tx, true⟩]
  | none => es ++ [⟨q, [], [], tx, true⟩]
def quietE (es : List Ent) (k : Nat) : Bool := decide (k ≠ 0 ∧ (nameE es k = sScript ∨ nameE es k = sStyle))
def pchars (es : List Ent) (s : List Nat) (mute tx : Str) : List Ent :=
  if quietE es (topS s) = true ∨ tx = [] ∨ mute ≠ [] then es else addTx es ((topS s : Int) - 1) tx
/-- One token; the number tells why not. -/
def pstep (es : List Ent) (s : List Nat) (mute : Str) (t : TokT) : Option (List Ent × List Nat × Str) :=
  if t.kind = 1 then some (pstart es s t)
  else if t.kind = 2 then some (es, pclose s (fnd es t.name s), if t.name = mute then [] else mute)
  else if t.kind = 3 then some (pchars es s mute t.text, s, mute)
  else if t.kind = 4 then some (es, s, mute)
  else none
def prun (es : List Ent) (s : List Nat) (mute : Str) : List TokT → List Ent × Int
  | [] => (es, 0)
  | t :: l => match pstep es s mute t with
    | none => ([], 3)
    | some (es', s', m') => if es'.length > 150 then ([], 1) else prun es' s' m' l
/-- The nodes within one. -/
def nodesE (es : List Ent) : Nat → Int → List Nd
  | 0, _ => []
  | n + 1, q => (List.range es.length).filterMap fun j => match es[j]? with
    | some e => if e.par = q then some (.mk e.name e.attrs e.text (nodesE es n j)) else none
    | none => none
/-- .. the other way: with marks at those that are open. -/
abbrev Fl := Ent × Bool
def openF (f : Fl) : Bool := f.2
def openN (nm : Str) (f : Fl) : Bool := f.2 && decide (f.1.name = nm)
def shutF (l : List Fl) (i : Int) : List Fl := if i < 0 then l else l.take i.toNat ++ (l.drop i.toNat).map fun f => (f.1, false)
def rs1 (l : List Fl) (nm : Str) : List Fl := if nm ∈ blocksN then shutF l (lastIx (openN sP) l) else l
def rs2 (l : List Fl) (nm : Str) : List Fl := if nm = sLi ∧ lastIx (openN sLi) l > lastIx (openN sUl) l ∧ lastIx (openN sLi) l > lastIx (openN sOl) l then shutF l (lastIx (openN sLi) l) else l
def deepF (l : List Fl) : Nat := l.countP openF
def rstart (l : List Fl) (t : TokT) : List Fl × Str :=
  let l2 := rs2 (rs1 l t.name) t.name
  if deepF l2 ≥ 10 then (l2, if t.self = false ∧ (t.name = sScript ∨ t.name = sStyle) then t.name else [])
  else (l2 ++ [(⟨lastIx openF l2, t.name, t.attrs, [], false⟩, decide (t.self = false ∧ t.name ∉ voidsN))], [])
def addTxF (l : List Fl) (q : Int) (tx : Str) : List Fl :=
  match l[(lastIx (fun f => inE q f.1) l).toNat]? with
  | some f => if 0 ≤ lastIx (fun f => inE q f.1) l ∧ f.1.tx = true then l.set (lastIx (fun f => inE q f.1) l).toNat ({ f.1 with text := f.1.text ++ tx }, f.2) else l ++ [(⟨q, [], [], tx, true⟩, false)]
  | none => l ++ [(⟨q, [], [], tx, true⟩, false)]
def quietF (l : List Fl) (i : Int) : Bool := decide (0 ≤ i) && (match l[i.toNat]? with | some f => decide (f.1.name = sScript ∨ f.1.name = sStyle) | none => false)
def rchars (l : List Fl) (mute tx : Str) : List Fl :=
  if tx = [] ∨ mute ≠ [] ∨ quietF l (lastIx openF l) = true then l else addTxF l (lastIx openF l) tx
def rstep (l : List Fl) (mute : Str) (t : TokT) : Option (List Fl × Str) :=
  if t.kind = 1 then some (rstart l t)
  else if t.kind = 2 then some (shutF l (lastIx (openN t.name) l), if t.name = mute then [] else mute)
  else if t.kind = 3 then some (rchars l mute t.text, mute)
  else if t.kind = 4 then some (l, mute)
  else none
def rrun (l : List Fl) (mute : Str) : List TokT → List Fl × Int
  | [] => (l, 0)
  | t :: r => match rstep l mute t with
    | none => ([], 3)
    | some (l', m') => if l'.length > 150 then ([], 1) else rrun l' m' r
end Go.VL

/- The builder of trees: both ways agree. -/
namespace Go.VL
open Go
/-- The places (from 1 on) of those that are open. -/
def opF : Nat → List Fl → List Nat
  | _, [] => []
  | k, f :: l => (if f.2 = true then [k + 1] else []) ++ opF (k + 1) l
theorem opF_append : ∀ (k : Nat) (a b : List Fl), opF k (a ++ b) = opF k a ++ opF (k + a.length) b
  | k, [], b => by simp [opF]
  | k, f :: a, b => by
    rw [List.cons_append, opF, opF, opF_append (k + 1) a b, List.append_assoc, List.length_cons, show k + 1 + a.length = k + (a.length + 1) by omega]
theorem opF_closed : ∀ (k : Nat) (l : List Fl), opF k (l.map fun f => (f.1, false)) = []
  | k, [] => rfl
  | k, f :: l => by simp [opF, opF_closed (k + 1) l]
theorem opF_lt : ∀ (k : Nat) (l : List Fl) (x : Nat), x ∈ opF k l → k < x ∧ x ≤ k + l.length
  | k, [], x, h => by simp [opF] at h
  | k, f :: l, x, h => by
    rw [opF, List.mem_append] at h
    rcases h with h | h
    · split at h
      · simp at h; subst h; simp
      · simp at h
    · have := opF_lt (k + 1) l x h
      simp; omega
theorem opF_asc : ∀ (k : Nat) (l : List Fl), (opF k l).Pairwise (· < ·)
  | k, [] => by simp [opF]
  | k, f :: l => by
    rw [opF, List.pairwise_append]
    refine ⟨by split <;> simp, opF_asc (k + 1) l, fun a ha b hb => ?_⟩
    have := opF_lt (k + 1) l b hb
    split at ha
    · simp at ha; omega
    · simp at ha
theorem opF_len : ∀ (k : Nat) (l : List Fl), (opF k l).length = deepF l
  | k, [] => rfl
  | k, f :: l => by
    have := opF_len (k + 1) l
    unfold deepF at *
    rw [opF, List.length_append, List.countP_cons, this]
    unfold openF
    cases f.2 <;> simp; omega
def opens (l : List Fl) : List Nat := opF 0 l
theorem opens_snoc (l : List Fl) (f : Fl) : opens (l ++ [f]) = opens l ++ (if f.2 = true then [l.length + 1] else []) := by
  unfold opens
  rw [opF_append]
  simp [opF]
theorem opens_at {l : List Fl} {x : Nat} (h : x ∈ opens l) : 1 ≤ x ∧ x ≤ l.length := by
  have := opF_lt 0 l x h; omega
theorem opens_mem : ∀ (k : Nat) (l : List Fl) (x : Nat), x ∈ opF k l → ∃ f, l[x - k - 1]? = some f ∧ f.2 = true
  | k, [], x, h => by simp [opF] at h
  | k, f :: l, x, h => by
    rw [opF, List.mem_append] at h
    rcases h with h | h
    · split at h
      · simp at h; subst h; exact ⟨f, by simp, by assumption⟩
      · simp at h
    · obtain ⟨g, hg, h2⟩ := opens_mem (k + 1) l x h
      have := opF_lt (k + 1) l x h
      exact ⟨g, by rw [show x - k - 1 = (x - (k + 1) - 1) + 1 by omega]; simpa using hg, h2⟩
theorem fx_le (es : List Ent) (nm : Str) (s : List Nat) : ∀ n, fx es nm s n ≤ n
  | 0 => Nat.le_refl _
  | n + 1 => by
    rw [fx]
    split
    · exact Nat.le_refl _
    · have := fx_le es nm s n; omega
/-- What the last place is does not depend on what stands behind it. -/
theorem fx_congr {es es' : List Ent} {nm : Str} {s s' : List Nat} : ∀ {n : Nat}, (∀ i, i < n → nameE es (s.getD i 0) = nameE es' (s'.getD i 0)) → fx es nm s n = fx es' nm s' n
  | 0, _ => rfl
  | n + 1, h => by rw [fx, fx, h n (by omega), fx_congr (fun i hi => h i (by omega))]
theorem lx_congr {α : Type} {p : α → Bool} {l l' : List α} : ∀ {n : Nat}, (∀ i, i < n → l[i]? = l'[i]?) → lx p l n = lx p l' n
  | 0, _ => rfl
  | n + 1, h => by rw [lx, lx, h n (by omega), lx_congr (fun i hi => h i (by omega))]
theorem lastIx_snoc {α : Type} (p : α → Bool) (l : List α) (x : α) : lastIx p (l ++ [x]) = if p x = true then (l.length : Int) else lastIx p l := by
  unfold lastIx
  rw [List.length_append, List.length_singleton, lx]
  rw [show (l ++ [x])[l.length]? = some x by simp]
  simp only [Option.map_some, Option.getD_some]
  rw [lx_congr (l := l ++ [x]) (l' := l) (fun i hi => List.getElem?_append_left hi)]
theorem lx_bound {α : Type} (p : α → Bool) (l : List α) : ∀ n, -1 ≤ lx p l n ∧ lx p l n < n
  | 0 => by simp [lx]
  | n + 1 => by
    have := lx_bound p l n
    rw [lx]
    split <;> omega
theorem lastIx_bound {α : Type} (p : α → Bool) (l : List α) : -1 ≤ lastIx p l ∧ lastIx p l < l.length := lx_bound p l _
theorem nameE_snoc {es : List Ent} {e : Ent} {k : Nat} (h : k ≤ es.length) (h1 : 1 ≤ k) : nameE (es ++ [e]) k = nameE es k := by
  unfold nameE
  rw [List.getElem?_append_left (by omega)]
def esF (l : List Fl) : List Ent := l.map (·.1)
theorem find_eq (nm : Str) (l : List Fl) : (fnd (esF l) nm (opens l) = 0 ∧ lastIx (openN nm) l = -1) ∨
    ∃ i : Nat, lastIx (openN nm) l = (i : Int) ∧ 1 ≤ fnd (esF l) nm (opens l) ∧ (opens l)[fnd (esF l) nm (opens l) - 1]? = some (i + 1) := by
  suffices H : ∀ (n : Nat) (l : List Fl), l.length = n → ((fnd (esF l) nm (opens l) = 0 ∧ lastIx (openN nm) l = -1) ∨
    ∃ i : Nat, lastIx (openN nm) l = (i : Int) ∧ 1 ≤ fnd (esF l) nm (opens l) ∧ (opens l)[fnd (esF l) nm (opens l) - 1]? = some (i + 1)) from H _ l rfl
  intro n
  induction n with
  | zero =>
    intro l hl
    rw [List.length_eq_zero_iff.1 hl]
    exact .inl ⟨rfl, rfl⟩
  | succ n ih =>
    intro l hl
    rcases List.eq_nil_or_concat l with rfl | ⟨a, f, rfl⟩
    · simp at hl
    · rw [List.concat_eq_append] at hl ⊢
      simp at hl
      have hpre : ∀ (s : List Nat), (∀ x ∈ s, 1 ≤ x ∧ x ≤ a.length) → ∀ t, fx (esF (a ++ [f])) nm (s ++ t) s.length = fx (esF a) nm s s.length := fun s hs t => fx_congr (fun i hi => by
        have e : (s ++ t).getD i 0 = s.getD i 0 := by simp [List.getD_eq_getElem?_getD, List.getElem?_append_left hi]
        rw [e]
        obtain ⟨x, hx⟩ : ∃ x, s[i]? = some x := ⟨_, List.getElem?_eq_getElem hi⟩
        have h2 := hs x (List.mem_of_getElem? hx)
        rw [List.getD_eq_getElem?_getD, hx]
        show nameE (esF (a ++ [f])) x = nameE (esF a) x
        unfold esF
        rw [List.map_append]
        exact nameE_snoc (by simpa using h2.2) h2.1)
      rw [opens_snoc, lastIx_snoc]
      rcases hb : f.2 with _ | _
      · have e1 : openN nm f = false := by simp [openN, hb]
        simp only [Bool.false_eq_true, if_false, List.append_nil, e1]
        have := hpre (opens a) (fun x hx => opens_at hx) []
        rw [List.append_nil] at this
        unfold fnd at *
        rw [this]
        exact ih a hl
      · by_cases he : f.1.name = nm
        · right
          have e1 : openN nm f = true := by simp [openN, hb, he]
          have e2 : nameE (esF (a ++ [f])) (a.length + 1) = nm := by simp [nameE, esF, he]
          have e3 : fnd (esF (a ++ [f])) nm (opens a ++ [a.length + 1]) = (opens a).length + 1 := by
            unfold fnd
            rw [List.length_append, List.length_singleton, fx, if_pos]
            simpa [List.getD_eq_getElem?_getD] using e2
          simp only [if_true, e1]
          rw [e3]
          exact ⟨a.length, rfl, by omega, by simp⟩
        · have e1 : openN nm f = false := by simp [openN, he]
          have e2 : nameE (esF (a ++ [f])) (a.length + 1) ≠ nm := by simpa [nameE, esF] using he
          have e3 : fnd (esF (a ++ [f])) nm (opens a ++ [a.length + 1]) = fnd (esF a) nm (opens a) := by
            unfold fnd
            rw [List.length_append, List.length_singleton, fx, if_neg, hpre (opens a) (fun x hx => opens_at hx)]
            simpa [List.getD_eq_getElem?_getD] using e2
          simp only [if_true, e1, Bool.false_eq_true, if_false]
          rw [e3]
          rcases ih a hl with h | ⟨i, h1, h2, h3⟩
          · exact .inl h
          · refine .inr ⟨i, h1, h2, ?_⟩
            rw [List.getElem?_append_left (List.getElem?_eq_some_iff.1 h3).1]; exact h3
/-- Who stands higher on the stack came later. -/
theorem asc_lt {s : List Nat} (h : s.Pairwise (· < ·)) {i j x y : Nat} (hx : s[i]? = some x) (hy : s[j]? = some y) : i < j ↔ x < y := by
  obtain ⟨hi, rfl⟩ := List.getElem?_eq_some_iff.1 hx
  obtain ⟨hj, rfl⟩ := List.getElem?_eq_some_iff.1 hy
  have hp := List.pairwise_iff_getElem.1 h
  constructor
  · intro hlt; exact hp i j hi hj hlt
  · intro hlt
    rcases Nat.lt_trichotomy i j with h | h | h
    · exact h
    · subst h; omega
    · have := hp j i hj hi h; omega
theorem find_gt (a b : Str) (l : List Fl) : fnd (esF l) a (opens l) > fnd (esF l) b (opens l) ↔ lastIx (openN a) l > lastIx (openN b) l := by
  have hs : (opens l).Pairwise (· < ·) := opF_asc 0 l
  rcases find_eq a l with ⟨h1, h2⟩ | ⟨i, h1, h2, h3⟩ <;> rcases find_eq b l with ⟨k1, k2⟩ | ⟨j, k1, k2, k3⟩
  · rw [h1, h2, k1, k2]; omega
  · rw [h1, h2, k1]; omega
  · rw [k1, h1, k2]; omega
  · have := asc_lt hs k3 h3
    rw [h1, k1]
    omega
theorem shut_es (l : List Fl) (i : Int) : esF (shutF l i) = esF l := by
  unfold shutF esF
  split
  · rfl
  · rw [List.map_append, List.map_map]
    have : ((fun x => x.1) ∘ fun (f : Fl) => (f.1, false)) = (fun (x : Fl) => x.1) := rfl
    rw [this, ← List.map_append, List.take_append_drop]
theorem close_eq (nm : Str) (l : List Fl) : opens (shutF l (lastIx (openN nm) l)) = pclose (opens l) (fnd (esF l) nm (opens l)) := by
  rcases find_eq nm l with ⟨h1, h2⟩ | ⟨i, h1, h2, h3⟩
  · rw [h1, h2]; rfl
  · rw [h1]
    unfold shutF pclose
    rw [if_neg (by omega), if_pos (by omega)]
    have hb := lastIx_bound (openN nm) l
    rw [h1] at hb
    have hil : i < l.length := by omega
    simp only [Int.toNat_natCast]
    unfold opens
    rw [opF_append, opF_closed, List.append_nil]
    have hsplit : opF 0 l = opF 0 (l.take i) ++ opF (0 + (l.take i).length) (l.drop i) := by rw [← opF_append, List.take_append_drop]
    have hlen : (l.take i).length = i := by simp; omega
    have hm := opens_mem 0 l (i + 1) (List.mem_of_getElem? h3)
    obtain ⟨f, hf, hf2⟩ := hm
    simp at hf
    have hd : l.drop i = f :: l.drop (i + 1) := by
      obtain ⟨hlt, rfl⟩ := List.getElem?_eq_some_iff.1 hf
      exact List.drop_eq_getElem_cons hlt
    rw [hlen, hd, opF, if_pos hf2] at hsplit
    have hat : (opF 0 l)[(opF 0 (l.take i)).length]? = some (i + 1) := by rw [hsplit]; simp
    have hasc : (opF 0 l).Pairwise (· < ·) := opF_asc 0 l
    have e : fnd (esF l) nm (opF 0 l) - 1 = (opF 0 (l.take i)).length := by
      have q1 := asc_lt hasc h3 hat
      have q2 := asc_lt hasc hat h3
      unfold opens at *
      omega
    show opF 0 (l.take i) = (opF 0 l).take (fnd (esF l) nm (opF 0 l) - 1)
    rw [e, hsplit, List.take_left']
    rfl
theorem top_eq (l : List Fl) : ((topS (opens l) : Nat) : Int) - 1 = lastIx openF l := by
  suffices H : ∀ (n : Nat) (l : List Fl), l.length = n → ((topS (opens l) : Nat) : Int) - 1 = lastIx openF l from H _ l rfl
  intro n
  induction n with
  | zero => intro l hl; rw [List.length_eq_zero_iff.1 hl]; rfl
  | succ n ih =>
    intro l hl
    rcases List.eq_nil_or_concat l with rfl | ⟨a, f, rfl⟩
    · simp at hl
    · rw [List.concat_eq_append] at hl ⊢
      simp at hl
      rw [opens_snoc, lastIx_snoc]
      unfold openF
      rcases hb : f.2 with _ | _
      · simp only [Bool.false_eq_true, if_false, List.append_nil]
        exact ih a hl
      · simp [topS]
theorem lastIx_map {α β : Type} (g : α → β) (p : β → Bool) (l : List α) : lastIx (fun x => p (g x)) l = lastIx p (l.map g) := by
  unfold lastIx
  rw [List.length_map]
  generalize l.length = n
  induction n with
  | zero => rfl
  | succ n ih => rw [lx, lx, ih, List.getElem?_map]; cases l[n]? <;> rfl
theorem addTx_eq (l : List Fl) (q : Int) (tx : Str) : esF (addTxF l q tx) = addTx (esF l) q tx ∧ opens (addTxF l q tx) = opens l := by
  have e : lastIx (fun f : Fl => inE q f.1) l = lastIx (inE q) (esF l) := lastIx_map _ _ l
  unfold addTxF addTx
  rw [e]
  have e2 : (esF l)[(lastIx (inE q) (esF l)).toNat]? = (l[(lastIx (inE q) (esF l)).toNat]?).map (·.1) := by simp [esF]
  rw [e2]
  cases hf : l[(lastIx (inE q) (esF l)).toNat]? with
  | none =>
    simp only [Option.map_none]
    refine ⟨by simp [esF], ?_⟩
    rw [opens_snoc]; simp
  | some f =>
    simp only [Option.map_some]
    split
    · refine ⟨by simp [esF, List.map_set], ?_⟩
      obtain ⟨hlt, hfe⟩ := List.getElem?_eq_some_iff.1 hf
      generalize (lastIx (inE q) (esF l)).toNat = i at *
      have hset : l.set i ({ f.1 with text := f.1.text ++ tx }, f.2) = l.take i ++ ({ f.1 with text := f.1.text ++ tx }, f.2) :: l.drop (i + 1) := List.set_eq_take_append_cons_drop ▸ by rw [if_pos hlt]
      have hl : l = l.take i ++ f :: l.drop (i + 1) := by rw [← hfe, ← List.drop_eq_getElem_cons hlt, List.take_append_drop]
      unfold opens
      conv => rhs; rw [hl]
      rw [hset, opF_append, opF_append, opF, opF]
    · refine ⟨by simp [esF], ?_⟩
      rw [opens_snoc]; simp
theorem quiet_eq (l : List Fl) : quietE (esF l) (topS (opens l)) = quietF l (lastIx openF l) := by
  have h := top_eq l
  have hb := lastIx_bound openF l
  unfold quietE quietF
  by_cases h0 : topS (opens l) = 0
  · have : ¬ 0 ≤ lastIx openF l := by omega
    simp [h0, this]
  · have h1 : 0 ≤ lastIx openF l := by omega
    have e : (lastIx openF l).toNat = topS (opens l) - 1 := by omega
    obtain ⟨f, hf⟩ : ∃ f, l[topS (opens l) - 1]? = some f := ⟨_, List.getElem?_eq_getElem (by omega)⟩
    rw [e, hf]
    simp [h0, h1, nameE, esF, hf]
theorem chars_eq (l : List Fl) (mute tx : Str) : esF (rchars l mute tx) = pchars (esF l) (opens l) mute tx ∧ opens (rchars l mute tx) = opens l := by
  unfold rchars pchars
  rw [quiet_eq, top_eq]
  by_cases h : tx = [] ∨ mute ≠ [] ∨ quietF l (lastIx openF l) = true
  · rw [if_pos h, if_pos (by rcases h with h | h | h; exact .inr (.inl h); exact .inr (.inr h); exact .inl h)]
    exact ⟨rfl, rfl⟩
  · rw [if_neg h, if_neg (fun h2 => h (by rcases h2 with h2 | h2 | h2; exact .inr (.inr h2); exact .inl h2; exact .inr (.inl h2)))]
    exact addTx_eq l _ tx
theorem s1_eq (l : List Fl) (nm : Str) : esF (rs1 l nm) = esF l ∧ opens (rs1 l nm) = ps1 (esF l) (opens l) nm := by
  unfold rs1 ps1
  split
  · exact ⟨shut_es _ _, close_eq _ _⟩
  · exact ⟨rfl, rfl⟩
theorem s2_eq (l : List Fl) (nm : Str) : esF (rs2 l nm) = esF l ∧ opens (rs2 l nm) = ps2 (esF l) (opens l) nm := by
  unfold rs2 ps2
  simp only [find_gt]
  split
  · exact ⟨shut_es _ _, close_eq _ _⟩
  · exact ⟨rfl, rfl⟩
theorem start_eq (l : List Fl) (t : TokT) : (esF (rstart l t).1, opens (rstart l t).1, (rstart l t).2) = pstart (esF l) (opens l) t := by
  obtain ⟨a1, a2⟩ := s1_eq l t.name
  obtain ⟨b1, b2⟩ := s2_eq (rs1 l t.name) t.name
  rw [a1, a2] at b2
  rw [a1] at b1
  have hl : deepF (rs2 (rs1 l t.name) t.name) = (ps2 (esF l) (ps1 (esF l) (opens l) t.name) t.name).length := by rw [← b2]; exact (opF_len 0 _).symm
  have ht := top_eq (rs2 (rs1 l t.name) t.name)
  have hn : (rs2 (rs1 l t.name) t.name).length = (esF l).length := by rw [← b1]; simp [esF]
  unfold rstart pstart
  simp only
  rw [← b2] at hl ⊢
  rw [hl]
  generalize rs2 (rs1 l t.name) t.name = l2 at *
  by_cases hd : (opens l2).length ≥ 10
  · rw [if_pos hd, if_pos (show (opens l2).length + 1 > 10 by omega)]
    simp only [b1]
  · rw [if_neg hd, if_neg (show ¬ (opens l2).length + 1 > 10 by omega)]
    simp only [opens_snoc, hn, ht, ← b1]
    congr 1
    · simp [esF]
    · congr 1
      by_cases hv : t.self = false ∧ t.name ∉ voidsN
      · rw [if_pos (by simpa using hv), if_pos hv]
      · rw [if_neg (by simpa using hv), if_neg hv]; simp
theorem step_eq (l : List Fl) (mute : Str) (t : TokT) : (rstep l mute t).map (fun x => (esF x.1, opens x.1, x.2)) = pstep (esF l) (opens l) mute t := by
  unfold rstep pstep
  by_cases h1 : t.kind = 1
  · rw [if_pos h1, if_pos h1, ← start_eq]; rfl
  rw [if_neg h1, if_neg h1]
  by_cases h2 : t.kind = 2
  · rw [if_pos h2, if_pos h2]
    simp [shut_es, close_eq]
  rw [if_neg h2, if_neg h2]
  by_cases h3 : t.kind = 3
  · rw [if_pos h3, if_pos h3]
    obtain ⟨a, b⟩ := chars_eq l mute t.text
    simp [a, b]
  rw [if_neg h3, if_neg h3]
  split <;> rfl
theorem run_eq : ∀ (ts : List TokT) (l : List Fl) (mute : Str), (esF (rrun l mute ts).1, (rrun l mute ts).2) = prun (esF l) (opens l) mute ts
  | [], l, mute => rfl
  | t :: ts, l, mute => by
    have h := step_eq l mute t
    rw [rrun, prun]
    cases hr : rstep l mute t with
    | none => rw [hr] at h; rw [← h]; rfl
    | some x =>
      obtain ⟨l', m'⟩ := x
      rw [hr] at h
      rw [← h]
      simp only [Option.map_some]
      have e : (esF l').length = l'.length := by simp [esF]
      rw [e]
      split
      · rfl
      · exact run_eq ts l' m'
end Go.VL

/- The builder of trees: what lies within what. -/
namespace Go.VL
open Go
def parIs (es : List Ent) (q : Int) (j : Nat) : Bool := decide ((es[j]?).map (·.par) = some q)
/-- The places of those within one, in their order. -/
def kidE (es : List Ent) (q : Int) : List Nat := (List.range es.length).filter (parIs es q)
theorem kidE_lt {es : List Ent} {q : Int} {j : Nat} (h : j ∈ kidE es q) : j < es.length ∧ ∃ e, es[j]? = some e ∧ e.par = q := by
  unfold kidE at h
  obtain ⟨h1, h2⟩ := List.mem_filter.1 h
  have hl := List.mem_range.1 h1
  refine ⟨hl, es[j], List.getElem?_eq_getElem hl, ?_⟩
  simpa [parIs, List.getElem?_eq_getElem hl] using h2
theorem kidE_snoc (es : List Ent) (e : Ent) (q : Int) : kidE (es ++ [e]) q = kidE es q ++ (if e.par = q then [es.length] else []) := by
  unfold kidE
  rw [List.length_append, List.length_singleton, List.range_succ, List.filter_append]
  congr 1
  · refine List.filter_congr fun j hj => ?_
    have := List.mem_range.1 hj
    unfold parIs
    rw [List.getElem?_append_left this]
  · by_cases h : e.par = q <;> simp [parIs, h]
theorem kidE_set (es : List Ent) (i : Nat) (e f : Ent) (q : Int) (hi : es[i]? = some e) (hp : f.par = e.par) : kidE (es.set i f) q = kidE es q := by
  unfold kidE
  rw [List.length_set]
  refine List.filter_congr fun j hj => ?_
  unfold parIs
  rw [List.getElem?_set]
  by_cases h : i = j
  · subst h
    rw [if_pos rfl, if_pos (List.getElem?_eq_some_iff.1 hi).1, hi]
    simp [hp]
  · rw [if_neg h]
theorem kidE_last (es : List Ent) (q : Int) : (lastIx (inE q) es = -1 ∧ kidE es q = []) ∨ ∃ j : Nat, lastIx (inE q) es = (j : Int) ∧ (kidE es q).getLast? = some j ∧ j < es.length := by
  suffices H : ∀ (n : Nat) (es : List Ent), es.length = n → ((lastIx (inE q) es = -1 ∧ kidE es q = []) ∨ ∃ j : Nat, lastIx (inE q) es = (j : Int) ∧ (kidE es q).getLast? = some j ∧ j < es.length) from H _ es rfl
  intro n
  induction n with
  | zero => intro es hl; rw [List.length_eq_zero_iff.1 hl]; exact .inl ⟨rfl, rfl⟩
  | succ n ih =>
    intro es hl
    rcases List.eq_nil_or_concat es with rfl | ⟨a, e, rfl⟩
    · simp at hl
    · rw [List.concat_eq_append] at hl ⊢
      simp at hl
      rw [lastIx_snoc, kidE_snoc]
      by_cases h : e.par = q
      · right
        refine ⟨a.length, ?_, ?_, by simp⟩
        · rw [if_pos (by simp [inE, h])]
        · simp [h]
      · rw [if_neg (by simp [inE, h]), if_neg h, List.append_nil]
        rcases ih a hl with h2 | ⟨j, h1, h2, h3⟩
        · exact .inl h2
        · exact .inr ⟨j, h1, h2, by simp; omega⟩
/-- The nodes within one, told by those places. -/
def nodeAt (es : List Ent) (ps : Nat → List Nd) (j : Nat) : Nd := match es[j]? with
  | some e => .mk e.name e.attrs e.text (ps j)
  | none => .mk [] [] [] []
def nodesK (es : List Ent) : Nat → Int → List Nd
  | 0, _ => []
  | n + 1, q => (kidE es q).map (nodeAt es fun j => nodesK es n j)
/-- What the list of what was built is like. -/
structure WfE (es : List Ent) : Prop where
  par : ∀ (j : Nat) (e : Ent), es[j]? = some e → -1 ≤ e.par ∧ e.par < j
  up : ∀ (j : Nat) (e : Ent), es[j]? = some e → 0 ≤ e.par → ∃ f, es[e.par.toNat]? = some f ∧ f.tx = false
  text : ∀ (j : Nat) (e : Ent), es[j]? = some e → e.tx = true → e.name = [] ∧ e.attrs = []
  elem : ∀ (j : Nat) (e : Ent), es[j]? = some e → e.tx = false → e.text = []
/-- The stack leads to elements. -/
def WfS (es : List Ent) (s : List Nat) : Prop := ∀ x ∈ s, 1 ≤ x ∧ ∃ e, es[x - 1]? = some e ∧ e.tx = false
theorem WfE.leaf {es : List Ent} (h : WfE es) {j : Nat} {e : Ent} (hj : es[j]? = some e) (ht : e.tx = true) : kidE es j = [] := by
  unfold kidE
  rw [List.filter_eq_nil_iff]
  intro k hk hp
  have hl := List.mem_range.1 hk
  obtain ⟨f, hf⟩ : ∃ f, es[k]? = some f := ⟨_, List.getElem?_eq_getElem hl⟩
  simp [parIs, hf] at hp
  obtain ⟨g, hg, hgt⟩ := h.up k f hf (by omega)
  rw [hp] at hg
  simp at hg
  rw [hj] at hg
  cases hg
  rw [ht] at hgt; cases hgt
theorem topS_wf {es : List Ent} {s : List Nat} (h : WfS es s) : topS s = 0 ∨ (1 ≤ topS s ∧ ∃ e, es[topS s - 1]? = some e ∧ e.tx = false) := by
  unfold topS
  cases hg : s.getLast? with
  | none => exact .inl rfl
  | some x => exact .inr (h x (List.mem_of_getLast? hg))
theorem WfS.close {es : List Ent} {s : List Nat} (h : WfS es s) (i : Nat) : WfS es (pclose s i) := by
  unfold pclose
  split
  · exact fun x hx => h x (List.mem_of_mem_take hx)
  · exact h
theorem WfE.more {es : List Ent} (h : WfE es) {e : Ent} (h1 : -1 ≤ e.par ∧ e.par < es.length) (h2 : 0 ≤ e.par → ∃ f, es[e.par.toNat]? = some f ∧ f.tx = false) (h3 : e.tx = true → e.name = [] ∧ e.attrs = []) (h4 : e.tx = false → e.text = []) : WfE (es ++ [e]) := by
  have key : ∀ (j : Nat) (f : Ent), (es ++ [e])[j]? = some f → es[j]? = some f ∨ (j = es.length ∧ f = e) := fun j f hf => by
    by_cases hlt : j < es.length
    · rw [List.getElem?_append_left hlt] at hf; exact .inl hf
    · rw [List.getElem?_append_right (by omega)] at hf
      have : j - es.length = 0 := by
        have := (List.getElem?_eq_some_iff.1 hf).1
        simp at this; omega
      rw [this] at hf
      simp at hf
      exact .inr ⟨by omega, hf.symm⟩
  have up : ∀ {q : Int}, 0 ≤ q → (∃ f, es[q.toNat]? = some f ∧ f.tx = false) → ∃ f, (es ++ [e])[q.toNat]? = some f ∧ f.tx = false := fun hq ⟨f, hf, hft⟩ =>
    ⟨f, by rw [List.getElem?_append_left (List.getElem?_eq_some_iff.1 hf).1]; exact hf, hft⟩
  refine ⟨fun j f hf => ?_, fun j f hf hp => ?_, fun j f hf => ?_, fun j f hf => ?_⟩
  · rcases key j f hf with hf | ⟨rfl, rfl⟩
    · exact h.par j f hf
    · exact h1
  · rcases key j f hf with hf | ⟨rfl, rfl⟩
    · exact up hp (h.up j f hf hp)
    · exact up hp (h2 hp)
  · rcases key j f hf with hf | ⟨rfl, rfl⟩
    · exact h.text j f hf
    · exact h3
  · rcases key j f hf with hf | ⟨rfl, rfl⟩
    · exact h.elem j f hf
    · exact h4
theorem WfE.set {es : List Ent} (h : WfE es) {i : Nat} {e : Ent} (hi : es[i]? = some e) (ht : e.tx = true) (t : Str) : WfE (es.set i { e with text := t }) := by
  have hl := (List.getElem?_eq_some_iff.1 hi).1
  have key : ∀ (j : Nat) (f : Ent), (es.set i { e with text := t })[j]? = some f → ∃ g, es[j]? = some g ∧ f.par = g.par ∧ f.tx = g.tx ∧ f.name = g.name ∧ f.attrs = g.attrs ∧ (f.tx = false → f.text = g.text) := fun j f hf => by
    rw [List.getElem?_set] at hf
    by_cases e2 : i = j
    · subst e2
      rw [if_pos rfl, if_pos hl] at hf
      cases hf
      exact ⟨e, hi, rfl, rfl, rfl, rfl, fun h2 => by simp [ht] at h2⟩
    · rw [if_neg e2] at hf
      exact ⟨f, hf, rfl, rfl, rfl, rfl, fun _ => rfl⟩
  refine ⟨fun j f hf => ?_, fun j f hf hp => ?_, fun j f hf h2 => ?_, fun j f hf h2 => ?_⟩
  · obtain ⟨g, hg, e1, e2, e3, e4, e5⟩ := key j f hf
    rw [e1]; exact h.par j g hg
  · obtain ⟨g, hg, e1, e2, e3, e4, e5⟩ := key j f hf
    rw [e1] at hp ⊢
    obtain ⟨f2, hf2, ht2⟩ := h.up j g hg hp
    refine ⟨f2, ?_, ht2⟩
    rw [List.getElem?_set, if_neg]
    · exact hf2
    · intro e6
      rw [← e6, hi] at hf2
      cases hf2
      rw [ht] at ht2; cases ht2
  · obtain ⟨g, hg, e1, e2, e3, e4, e5⟩ := key j f hf
    rw [e3, e4]; exact h.text j g hg (by rw [← e2]; exact h2)
  · obtain ⟨g, hg, e1, e2, e3, e4, e5⟩ := key j f hf
    rw [e5 h2]; exact h.elem j g hg (by rw [← e2]; exact h2)
end Go.VL
