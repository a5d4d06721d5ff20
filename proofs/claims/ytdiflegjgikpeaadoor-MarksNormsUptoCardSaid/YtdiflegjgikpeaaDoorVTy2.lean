/- Arguments of a law, typed. -/
import Derived.Test.YtdiflegjgikpeaaDoorVTy
set_option linter.unusedVariables false
set_option linter.unusedSimpArgs false
namespace Go.VL
open Go Go.RowKit
variable {P : Program}
/-- The types of a struct's fields. -/
def fts (fs : Array Field) : List Nat := fs.toList.map (·.type)
inductive TyL (P : Program) : List Nat → List (List D) → Prop where
  | nil : TyL P [] []
  | cons {t : Nat} {ts : List Nat} {c : List D} {cs : List (List D)} (h : TyD P t c) (r : TyL P ts cs) : TyL P (t :: ts) (c :: cs)
theorem tyL_of : ∀ {fs : List Field} {parts : List (List D)}, parts.length = fs.length → (∀ (i : Nat) (f : Field) (c : List D), fs[i]? = some f → parts[i]? = some c → TyD P f.type c) → TyL P (fs.map (·.type)) parts
  | [], [], _, _ => .nil
  | f :: fs, c :: cs, hl, h => .cons (h 0 f c rfl rfl) (tyL_of (by simpa using hl) fun i g d hg hd => h (i + 1) g d (by simpa using hg) (by simpa using hd))
  | [], _ :: _, hl, _ => by simp at hl
  | _ :: _, [], hl, _ => by simp at hl
theorem TyD.fields {t : Nat} {ts : List Nat} {l : List D} (h : TyD P t l) {fs : Array Field} (hu : P.underlying t = some (.struct fs)) (hf : fts fs = ts) : ∃ parts, l = parts.flatten ∧ TyL P ts parts := by
  obtain ⟨parts, h1, h2, h3⟩ := h.st_inv hu
  refine ⟨parts, h1, ?_⟩
  rw [← hf]
  exact tyL_of (by simpa using h2) fun i f c hi hc => h3 i f c (by simpa using hi) hc

theorem ty_attr {t s : Nat} {fs : Array Field} (hu : P.underlying t = some (.struct fs)) (hf : fts fs = [s, s]) (hs : P.underlying s = some .string) {l : List D} (h : TyD P t l) : ∃ a : Attr, l = a.d := by
  obtain ⟨parts, rfl, hp⟩ := h.fields hu hf
  cases hp with | cons h1 hp => cases hp with | cons h2 hp => cases hp with | nil =>
  obtain ⟨a, rfl⟩ := h1.str_inv hs
  obtain ⟨b, rfl⟩ := h2.str_inv hs
  exact ⟨⟨a, b⟩, rfl⟩
theorem ty_auto {t n i k f b : Nat} {fs : Array Field} (hu : P.underlying t = some (.struct fs)) (hf : fts fs = [n, f]) (h1 : P.underlying n = some (.slice i)) (h2 : P.underlying i = some (.slice k)) (h3 : P.underlying k = some (.int .i64))
    (h4 : P.underlying f = some (.slice b)) (h5 : P.underlying b = some .bool) {l : List D} (h : TyD P t l) : ∃ (x : List (List Int)) (y : List Bool), l = [.sl (x.map iL), .sl (y.map iB)] ∧ ∀ r ∈ x, ∀ n ∈ r, InR .i64 n := by
  obtain ⟨parts, rfl, hp⟩ := h.fields hu hf
  cases hp with | cons q1 hp => cases hp with | cons q2 hp => cases hp with | nil =>
  obtain ⟨x, rfl, hx⟩ := ty_intss h1 h2 h3 q1
  obtain ⟨y, rfl⟩ := ty_bools h4 h5 q2
  exact ⟨x, y, rfl, hx⟩
theorem nds_of {es : List (List D)} (h : ∀ c ∈ es, ∃ n : Nd, c = n.d) : ∃ ns, es = nds ns := by
  obtain ⟨xs, hx⟩ := list_of' h
  exact ⟨xs, by rw [nds_eq]; exact hx⟩
/-- []Node at t, Node at n, []Attr at as, Attr at a, string at s. -/
theorem ty_nodes {t n as a s : Nat} {fs gs : Array Field} (ht : P.underlying t = some (.slice n)) (hn : P.underlying n = some (.struct fs)) (hf : fts fs = [s, as, s, t]) (has : P.underlying as = some (.slice a)) (ha : P.underlying a = some (.struct gs)) (hg : fts gs = [s, s]) (hs : P.underlying s = some .string)
    {u : Nat} {l : List D} (h : TyD P u l) : (u = t → ∃ ns, l = [.sl (nds ns)]) ∧ (u = n → ∃ x : Nd, l = x.d) := by
  induction h with
  | bool b h => exact ⟨fun e => (by subst e; rw [ht] at h; cases h), fun e => (by subst e; rw [hn] at h; cases h)⟩
  | int h _ => exact ⟨fun e => (by subst e; rw [ht] at h; cases h), fun e => (by subst e; rw [hn] at h; cases h)⟩
  | str h => exact ⟨fun e => (by subst e; rw [ht] at h; cases h), fun e => (by subst e; rw [hn] at h; cases h)⟩
  | sl h he ih =>
    refine ⟨fun e => ?_, fun e => (by subst e; rw [hn] at h; cases h)⟩
    subst e
    rw [ht] at h
    cases h
    obtain ⟨ns, rfl⟩ := nds_of fun c hc => (ih c hc).2 rfl
    exact ⟨ns, rfl⟩
  | st h parts hl hp ih =>
    refine ⟨fun e => (by subst e; rw [ht] at h; cases h), fun e => ?_⟩
    subst e
    rw [hn] at h
    cases h
    have hsz : fs.size = 4 := by have := congrArg List.length hf; simpa [fts] using this
    have hft : ∀ (i : Nat) (f : Field), fs[i]? = some f → [s, as, s, t][i]? = some f.type := fun i f hi => by rw [← hf]; simp [fts, hi]
    have hex : ∀ i, i < 4 → ∃ f, fs[i]? = some f := fun i hi => ⟨fs[i], by simp [hsz, hi]⟩
    match parts, hl with
    | [p0, p1, p2, p3], _ =>
      obtain ⟨f0, g0⟩ := hex 0 (by omega)
      obtain ⟨f1, g1⟩ := hex 1 (by omega)
      obtain ⟨f2, g2⟩ := hex 2 (by omega)
      obtain ⟨f3, g3⟩ := hex 3 (by omega)
      have e0 : s = f0.type := by simpa using hft 0 f0 g0
      have e1 : as = f1.type := by simpa using hft 1 f1 g1
      have e2 : s = f2.type := by simpa using hft 2 f2 g2
      have e3 : t = f3.type := by simpa using hft 3 f3 g3
      obtain ⟨x0, rfl⟩ := (hp 0 f0 p0 g0 rfl).str_inv (by rw [← e0]; exact hs)
      obtain ⟨b, rfl, hb⟩ := (hp 1 f1 p1 g1 rfl).sl_inv (by rw [← e1]; exact has)
      obtain ⟨xs, rfl⟩ := list_of' (f := Attr.d) fun c hc => ty_attr ha hg hs (hb c hc)
      obtain ⟨x2, rfl⟩ := (hp 2 f2 p2 g2 rfl).str_inv (by rw [← e2]; exact hs)
      obtain ⟨ns, rfl⟩ := (ih 3 f3 p3 g3 rfl).1 e3.symm
      exact ⟨.mk x0 xs x2 ns, rfl⟩
    | [], hl | [_], hl | [_, _], hl | [_, _, _], hl | _ :: _ :: _ :: _ :: _ :: _, hl => simp [hsz] at hl
theorem szL_app (a b : List D) : szL (a ++ b) = szL a + szL b := by
  induction a with
  | nil => simp [szL]
  | cons x r ih => simp [szL, ih]; omega
end Go.VL
namespace Go.VL
theorem szLL_mem {es : List (List D)} {c : List D} (h : c ∈ es) : szL c ≤ szLL es := by
  induction es with
  | nil => simp at h
  | cons x r ih =>
    simp only [szLL]
    rcases List.mem_cons.mp h with rfl | h
    · omega
    · have := ih h; omega
theorem szLL_app (a b : List (List D)) : szLL (a ++ b) = szLL a + szLL b := by
  induction a with
  | nil => simp [szLL]
  | cons x r ih => simp [szLL, ih]; omega
theorem len_map_sz {α : Type} {f : α → List D} (h : ∀ x, 1 ≤ szL (f x)) (l : List α) : l.length ≤ szLL (l.map f) := by
  induction l with
  | nil => simp
  | cons x r ih => have := h x; simp [szLL]; omega
theorem len_iI (l : List Int) : l.length ≤ szLL (l.map iI) := len_map_sz (fun x => by simp [iI, szL, szD]) l
theorem len_iB (l : List Bool) : l.length ≤ szLL (l.map iB) := len_map_sz (fun x => by simp [iB, szL, szD]) l
theorem len_iS (l : List Str) : l.length ≤ szLL (l.map iS) := len_map_sz (fun x => by simp [iS, szL, szD]) l
theorem len_iL (l : List (List Int)) : l.length ≤ szLL (l.map iL) := len_map_sz (fun x => by simp [iL, szL, szD]) l
theorem mem_iL {l : List (List Int)} {r : List Int} (h : r ∈ l) : r.length ≤ szLL (l.map iL) := by
  have h1 := szLL_mem (List.mem_map_of_mem (f := iL) h)
  have h2 := len_iI r
  simp only [iL, szL, szD] at h1
  omega
theorem mem_iS {l : List Str} {r : Str} (h : r ∈ l) : r.length ≤ szLL (l.map iS) := by
  have h1 := szLL_mem (List.mem_map_of_mem (f := iS) h)
  simp only [iS, szL, szD] at h1
  omega
end Go.VL
