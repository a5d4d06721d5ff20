/- Expressions as data; what is refused of them. -/
import Derived.Test.YtekmfhoppbpobaaVTy4
set_option linter.unusedVariables false
set_option linter.unusedSimpArgs false
namespace Go.VL
open Go Go.RowKit
inductive Xp where
  | mk (kind ty : Int) (ps : List Xp)
def Xp.kind : Xp → Int | .mk k _ _ => k
def Xp.ty : Xp → Int | .mk _ t _ => t
def Xp.ps : Xp → List Xp | .mk _ _ ps => ps
mutual
def Xp.es : Xp → List (List D)
  | .mk _ _ ps => xps ps
def xps : List Xp → List (List D)
  | [] => []
  | x :: r => [.int .i64 x.kind, .int .i64 x.ty, .sl x.es] :: xps r
end
def Xp.d (x : Xp) : List D := [.int .i64 x.kind, .int .i64 x.ty, .sl x.es]
theorem xps_eq : ∀ l : List Xp, xps l = l.map Xp.d
  | [] => rfl
  | x :: r => by rw [xps, xps_eq r]; rfl
theorem Xp.es_eq (x : Xp) : x.es = x.ps.map Xp.d := by cases x; rw [Xp.es, xps_eq]; rfl
theorem Xp.sz_part {x p : Xp} (h : p ∈ x.ps) : szL p.d + 3 ≤ szL x.d := by
  have h1 := szLL_mem (List.mem_map_of_mem (f := Xp.d) h)
  rw [← Xp.es_eq] at h1
  simp only [Xp.d, szL, szD] at h1 ⊢
  omega
theorem len_xps (x : Xp) : x.ps.length ≤ szL x.d := by
  have h1 : x.ps.length ≤ szLL (x.ps.map Xp.d) := len_map_sz (fun x => by simp only [Xp.d, szL, szD]; omega) x.ps
  rw [← Xp.es_eq] at h1
  simp only [Xp.d, szL, szD]
  omega
variable {P : Program}
/-- []Expr at t, Expr at n. -/
theorem ty_exprs {t n i : Nat} {fs : Array Field} (ht : P.underlying t = some (.slice n)) (hn : P.underlying n = some (.struct fs)) (hf : fts fs = [i, i, t]) (hi : P.underlying i = some (.int .i64))
    {u : Nat} {l : List D} (h : TyD P u l) : (u = t → ∃ ns : List Xp, l = [.sl (ns.map Xp.d)]) ∧ (u = n → ∃ x : Xp, l = x.d) := by
  induction h with
  | bool b h => exact ⟨fun e => (by subst e; rw [ht] at h; cases h), fun e => (by subst e; rw [hn] at h; cases h)⟩
  | int h _ => exact ⟨fun e => (by subst e; rw [ht] at h; cases h), fun e => (by subst e; rw [hn] at h; cases h)⟩
  | str h => exact ⟨fun e => (by subst e; rw [ht] at h; cases h), fun e => (by subst e; rw [hn] at h; cases h)⟩
  | sl h he ih =>
    refine ⟨fun e => ?_, fun e => (by subst e; rw [hn] at h; cases h)⟩
    subst e
    rw [ht] at h
    cases h
    obtain ⟨ns, rfl⟩ := list_of' (f := Xp.d) fun c hc => (ih c hc).2 rfl
    exact ⟨ns, rfl⟩
  | st h parts hl hp ih =>
    refine ⟨fun e => (by subst e; rw [ht] at h; cases h), fun e => ?_⟩
    subst e
    rw [hn] at h
    cases h
    have hsz : fs.size = 3 := by have := congrArg List.length hf; simpa [fts] using this
    have hft : ∀ (j : Nat) (f : Field), fs[j]? = some f → [i, i, t][j]? = some f.type := fun j f hj => by rw [← hf]; simp [fts, hj]
    have hex : ∀ j, j < 3 → ∃ f, fs[j]? = some f := fun j hj => ⟨fs[j], by simp [hsz, hj]⟩
    match parts, hl with
    | [p0, p1, p2], _ =>
      obtain ⟨f0, g0⟩ := hex 0 (by omega)
      obtain ⟨f1, g1⟩ := hex 1 (by omega)
      obtain ⟨f2, g2⟩ := hex 2 (by omega)
      have e0 : i = f0.type := by simpa using hft 0 f0 g0
      have e1 : i = f1.type := by simpa using hft 1 f1 g1
      have e2 : t = f2.type := by simpa using hft 2 f2 g2
      obtain ⟨x0, rfl, _⟩ := (hp 0 f0 p0 g0 rfl).int_inv (by rw [← e0]; exact hi)
      obtain ⟨x1, rfl, _⟩ := (hp 1 f1 p1 g1 rfl).int_inv (by rw [← e1]; exact hi)
      obtain ⟨ns, rfl⟩ := (ih 2 f2 p2 g2 rfl).1 e2.symm
      exact ⟨.mk x0 x1 ns, by simp [Xp.d, Xp.es_eq, Xp.kind, Xp.ty, Xp.ps]⟩
    | [], hl | [_], hl | [_, _], hl | _ :: _ :: _ :: _ :: _, hl => simp [hsz] at hl
theorem ty_expr {t n i : Nat} {fs : Array Field} (ht : P.underlying t = some (.slice n)) (hn : P.underlying n = some (.struct fs)) (hf : fts fs = [i, i, t]) (hi : P.underlying i = some (.int .i64)) {l : List D} (h : TyD P n l) : ∃ x : Xp, l = x.d := (ty_exprs ht hn hf hi h).2 rfl
def kdP (k : Int) (x : Xp) : Bool := x.kind == k
def headF (k t : Int) (ps : List Xp) : Int :=
  if k < 1 ∨ k > 6 then 3
  else if (k = 1 ∧ ps.length > 0) ∨ (k ≠ 1 ∧ t ≠ 0) ∨ ((k = 2 ∨ k = 3) ∧ ps.length = 1) ∨ (k = 3 ∧ ps.length = 0) ∨ (k ≥ 4 ∧ ps.length ≠ 1) then 4
  else if (k = 2 ∨ k = 3) ∧ ps.any (kdP k) = true then 4
  else if t < 0 ∨ t ≥ 8 then 2 else 0
mutual
def Xp.fl : Xp → Int
  | .mk k t ps => if headF k t ps ≠ 0 then headF k t ps else fls ps
def fls : List Xp → Int
  | [] => 0
  | x :: r => if x.fl ≠ 0 then x.fl else fls r
end
theorem Xp.fl_eq (x : Xp) : x.fl = if headF x.kind x.ty x.ps ≠ 0 then headF x.kind x.ty x.ps else fls x.ps := by cases x; rw [Xp.fl]; rfl
theorem fls_at {l : List Xp} {i : Nat} {x : Xp} (h : l[i]? = some x) : fls (l.drop i) = if x.fl ≠ 0 then x.fl else fls (l.drop (i + 1)) := by rw [drop_cons h, fls]
theorem fls_zero : ∀ {l : List Xp}, fls l = 0 → ∀ x ∈ l, x.fl = 0
  | [], _, x, hx => by simp at hx
  | y :: r, h, x, hx => by
    rw [fls] at h
    split at h
    · rename_i hn; exact absurd h hn
    · rename_i hn
      rcases List.mem_cons.mp hx with rfl | hx
      · exact Decidable.not_not.mp hn
      · exact fls_zero h x hx
theorem Xp.fl_zero {x : Xp} (h : x.fl = 0) : headF x.kind x.ty x.ps = 0 ∧ ∀ p ∈ x.ps, p.fl = 0 := by
  rw [Xp.fl_eq] at h
  split at h
  · rename_i hn; exact absurd h hn
  · rename_i hn; exact ⟨Decidable.not_not.mp hn, fls_zero h⟩
/-- What is known where the head is not refused. -/
theorem headF_zero {k t : Int} {ps : List Xp} (h : headF k t ps = 0) : 1 ≤ k ∧ k ≤ 6 ∧ (k = 1 → ps.length = 0) ∧ (k ≥ 4 → ps.length = 1) ∧ (k = 3 → ps.length ≥ 2) ∧ 0 ≤ t ∧ t < 8 := by
  unfold headF at h
  split at h
  · cases h
  · split at h
    · cases h
    · split at h
      · cases h
      · split at h
        · cases h
        · omega
end Go.VL
