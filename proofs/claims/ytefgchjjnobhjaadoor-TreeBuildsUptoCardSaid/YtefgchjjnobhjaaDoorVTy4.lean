/- Arguments of a law: picks, rules, runs, tokens. -/
import Derived.Test.YtefgchjjnobhjaaDoorVTy3
set_option linter.unusedVariables false
set_option linter.unusedSimpArgs false
namespace Go.VL
open Go Go.RowKit
variable {P : Program}
structure Rule where
  name : Str
  do_ : Int
  to : Str
def Rule.d (r : Rule) : List D := [.str r.name, .int .i64 r.do_, .str r.to]
structure Pick where
  name : Str
  attr : Str
  deep : Bool
def Pick.d (p : Pick) : List D := [.str p.name, .str p.attr, .bool p.deep]
structure Run where
  text : Str
  marks : List Str
def Run.d (r : Run) : List D := [.str r.text, .sl (r.marks.map iS)]
structure Token where
  kind : Int
  name : Str
  attrs : List Attr
  self : Bool
  text : Str
def Token.d (t : Token) : List D := [.int .i64 t.kind, .str t.name, .sl (t.attrs.map Attr.d), .bool t.self, .str t.text]
theorem ty_rules {t n s i : Nat} {fs : Array Field} (h1 : P.underlying t = some (.slice n)) (h2 : P.underlying n = some (.struct fs)) (hf : fts fs = [s, i, s]) (hs : P.underlying s = some .string) (hi : P.underlying i = some (.int .i64)) {l : List D} (h : TyD P t l) : ∃ xs : List Rule, l = [.sl (xs.map Rule.d)] ∧ ∀ x ∈ xs, InR .i64 x.do_ := by
  obtain ⟨es, rfl, he⟩ := h.sl_inv h1
  obtain ⟨xs, rfl, hx⟩ := list_of (f := Rule.d) (p := fun x : Rule => InR .i64 x.do_) fun c hc => by
    obtain ⟨parts, rfl, hp⟩ := (he c hc).fields h2 hf
    cases hp with | cons q1 hp => cases hp with | cons q2 hp => cases hp with | cons q3 hp => cases hp with | nil =>
    obtain ⟨a, rfl⟩ := q1.str_inv hs
    obtain ⟨b, rfl, hb⟩ := q2.int_inv hi
    obtain ⟨d, rfl⟩ := q3.str_inv hs
    exact ⟨⟨a, b, d⟩, rfl, hb⟩
  exact ⟨xs, rfl, hx⟩
theorem ty_picks {t n s b : Nat} {fs : Array Field} (h1 : P.underlying t = some (.slice n)) (h2 : P.underlying n = some (.struct fs)) (hf : fts fs = [s, s, b]) (hs : P.underlying s = some .string) (hb : P.underlying b = some .bool) {l : List D} (h : TyD P t l) : ∃ xs : List Pick, l = [.sl (xs.map Pick.d)] := by
  obtain ⟨es, rfl, he⟩ := h.sl_inv h1
  obtain ⟨xs, rfl⟩ := list_of' (f := Pick.d) fun c hc => by
    obtain ⟨parts, rfl, hp⟩ := (he c hc).fields h2 hf
    cases hp with | cons q1 hp => cases hp with | cons q2 hp => cases hp with | cons q3 hp => cases hp with | nil =>
    obtain ⟨a, rfl⟩ := q1.str_inv hs
    obtain ⟨d, rfl⟩ := q2.str_inv hs
    obtain ⟨b, rfl⟩ := q3.bool_inv hb
    exact ⟨⟨a, d, b⟩, rfl⟩
  exact ⟨xs, rfl⟩
theorem ty_runs {t n s ss : Nat} {fs : Array Field} (h1 : P.underlying t = some (.slice n)) (h2 : P.underlying n = some (.struct fs)) (hf : fts fs = [s, ss]) (hs : P.underlying s = some .string) (hss : P.underlying ss = some (.slice s)) {l : List D} (h : TyD P t l) : ∃ xs : List Run, l = [.sl (xs.map Run.d)] := by
  obtain ⟨es, rfl, he⟩ := h.sl_inv h1
  obtain ⟨xs, rfl⟩ := list_of' (f := Run.d) fun c hc => by
    obtain ⟨parts, rfl, hp⟩ := (he c hc).fields h2 hf
    cases hp with | cons q1 hp => cases hp with | cons q2 hp => cases hp with | nil =>
    obtain ⟨a, rfl⟩ := q1.str_inv hs
    obtain ⟨d, rfl⟩ := ty_strs hss hs q2
    exact ⟨⟨a, d⟩, rfl⟩
  exact ⟨xs, rfl⟩
/-- .. the elements of a field's slice are told after the fields. -/
theorem ty_tokens {t n i s as b a : Nat} {fs gs : Array Field} (h1 : P.underlying t = some (.slice n)) (h2 : P.underlying n = some (.struct fs)) (hf : fts fs = [i, s, as, b, s]) (hi : P.underlying i = some (.int .i64)) (hs : P.underlying s = some .string) (has : P.underlying as = some (.slice a)) (hb : P.underlying b = some .bool)
    (ha : P.underlying a = some (.struct gs)) (hg : fts gs = [s, s]) {l : List D} (h : TyD P t l) : ∃ xs : List Token, l = [.sl (xs.map Token.d)] ∧ ∀ x ∈ xs, InR .i64 x.kind := by
  obtain ⟨es, rfl, he⟩ := h.sl_inv h1
  obtain ⟨xs, rfl, hx⟩ := list_of (f := Token.d) (p := fun x : Token => InR .i64 x.kind) fun c hc => by
    obtain ⟨parts, rfl, hp⟩ := (he c hc).fields h2 hf
    cases hp with | cons q1 hp => cases hp with | cons q2 hp => cases hp with | cons q3 hp => cases hp with | cons q4 hp => cases hp with | cons q5 hp => cases hp with | nil =>
    obtain ⟨k, rfl, hk⟩ := q1.int_inv hi
    obtain ⟨nm, rfl⟩ := q2.str_inv hs
    obtain ⟨as, rfl, hat⟩ := q3.sl_inv has
    obtain ⟨at_, rfl⟩ := list_of' (f := Attr.d) fun c hc => ty_attr ha hg hs (hat c hc)
    obtain ⟨sf, rfl⟩ := q4.bool_inv hb
    obtain ⟨tx, rfl⟩ := q5.str_inv hs
    exact ⟨⟨k, nm, at_, sf, tx⟩, rfl, hk⟩
  exact ⟨xs, rfl, hx⟩
theorem len_rule (l : List Rule) : l.length ≤ szLL (l.map Rule.d) := len_map_sz (fun x => by simp [Rule.d, szL, szD]; omega) l
theorem len_pick (l : List Pick) : l.length ≤ szLL (l.map Pick.d) := len_map_sz (fun x => by simp [Pick.d, szL, szD]; omega) l
theorem len_run (l : List Run) : l.length ≤ szLL (l.map Run.d) := len_map_sz (fun x => by simp only [Run.d, szL, szD]; omega) l
theorem len_token (l : List Token) : l.length ≤ szLL (l.map Token.d) := len_map_sz (fun x => by simp only [Token.d, szL, szD]; omega) l
/-- The first answer that is not 0, of f 0, f 1, .. f (n - 1). -/
def firstNZ (f : Nat → Int) : Nat → Int
  | 0 => 0
  | n + 1 => if firstNZ f n = 0 then f n else firstNZ f n
theorem firstNZ_zero {f : Nat → Int} : ∀ {n : Nat}, (∀ j, j < n → f j = 0) → firstNZ f n = 0
  | 0, _ => rfl
  | n + 1, h => by
    have := firstNZ_zero (f := f) (n := n) fun j hj => h j (by omega)
    simp only [firstNZ, this, if_true]
    exact h n (by omega)
theorem firstNZ_at {f : Nat → Int} {i : Nat} (h0 : ∀ j, j < i → f j = 0) (h : f i ≠ 0) : ∀ {n : Nat}, i < n → firstNZ f n = f i
  | 0, hn => by omega
  | n + 1, hn => by
    by_cases hi : i = n
    · subst hi
      simp only [firstNZ, firstNZ_zero h0, if_true]
    · have := firstNZ_at h0 h (n := n) (by omega)
      simp only [firstNZ, this, if_neg h]
theorem before_int {f : Nat → Int} {i : Nat} (h0 : ∀ j, j < i → f j = 0) (h : f i = 0) : ∀ j, j < i + 1 → f j = 0 := fun j hj => by
  by_cases hi : j = i
  · subst hi; exact h
  · exact h0 j (by omega)
theorem mem_rule {l : List Rule} {r : Rule} (h : r ∈ l) : r.name.length ≤ szLL (l.map Rule.d) ∧ r.to.length ≤ szLL (l.map Rule.d) := by
  have := szLL_mem (List.mem_map_of_mem (f := Rule.d) h)
  simp only [Rule.d, szL, szD] at this
  omega
theorem mem_pick {l : List Pick} {r : Pick} (h : r ∈ l) : r.name.length ≤ szLL (l.map Pick.d) ∧ r.attr.length ≤ szLL (l.map Pick.d) := by
  have := szLL_mem (List.mem_map_of_mem (f := Pick.d) h)
  simp only [Pick.d, szL, szD] at this
  omega
theorem mem_attr {l : List Attr} {r : Attr} (h : r ∈ l) : r.name.length ≤ szLL (l.map Attr.d) ∧ r.value.length ≤ szLL (l.map Attr.d) := by
  have := szLL_mem (List.mem_map_of_mem (f := Attr.d) h)
  simp only [Attr.d, szL, szD] at this
  omega
theorem mem_token {l : List Token} {r : Token} (h : r ∈ l) : r.name.length ≤ szLL (l.map Token.d) ∧ r.text.length ≤ szLL (l.map Token.d) ∧ szLL (r.attrs.map Attr.d) ≤ szLL (l.map Token.d) := by
  have := szLL_mem (List.mem_map_of_mem (f := Token.d) h)
  simp only [Token.d, szL, szD] at this
  omega
end Go.VL
