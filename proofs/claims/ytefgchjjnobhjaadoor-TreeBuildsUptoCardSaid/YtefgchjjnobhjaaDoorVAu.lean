/- Steps for the heads of conditions. -/
import Derived.Test.YtefgchjjnobhjaaDoorVDq
set_option linter.unusedVariables false
set_option linter.unusedSimpArgs false
namespace Go.VL
open Go Go.RowKit

theorem Need.mk {p K : Prop} (h : p) (k : K) : Need p K := ⟨h, k⟩
theorem Br.tt {A B : Prop} (h : A) : Br true A B := ⟨fun _ => h, fun e => by cases e⟩
theorem Br.ff {A B : Prop} (h : B) : Br false A B := ⟨fun e => (by cases e), fun _ => h⟩
theorem Br.dec {p : Prop} [Decidable p] {A B : Prop} (h1 : p → A) (h2 : ¬ p → B) : Br (decide p) A B := ⟨fun e => h1 (of_decide_eq_true e), fun e => h2 (of_decide_eq_false e)⟩
theorem Br.eq {α : Type} [BEq α] [LawfulBEq α] {a b : α} {A B : Prop} (h1 : a = b → A) (h2 : ¬ a = b → B) : Br (a == b) A B := ⟨fun e => h1 (eq_of_beq e), fun e => h2 (fun h => by subst h; simp at e)⟩
theorem Br.ne {α : Type} [BEq α] [LawfulBEq α] {a b : α} {A B : Prop} (h1 : ¬ a = b → A) (h2 : a = b → B) : Br (a != b) A B := ⟨fun e => h1 (fun h => by subst h; simp at e), fun e => h2 (by simpa using e)⟩
theorem Br.self {α : Type} [BEq α] [LawfulBEq α] {a : α} {A B : Prop} (h : A) : Br (a == a) A B := ⟨fun _ => h, fun e => by simp at e⟩
theorem Br.decT {p : Prop} [Decidable p] {A B : Prop} (h : p) (k : A) : Br (decide p) A B := ⟨fun _ => k, fun e => absurd h (of_decide_eq_false e)⟩
theorem Br.decF {p : Prop} [Decidable p] {A B : Prop} (h : ¬ p) (k : B) : Br (decide p) A B := ⟨fun e => absurd (of_decide_eq_true e) h, fun _ => k⟩
theorem Br.eqT {α : Type} [BEq α] [LawfulBEq α] {a b : α} {A B : Prop} (h : a = b) (k : A) : Br (a == b) A B := ⟨fun _ => k, fun e => by subst h; simp at e⟩
theorem Br.eqF {α : Type} [BEq α] [LawfulBEq α] {a b : α} {A B : Prop} (h : ¬ a = b) (k : B) : Br (a == b) A B := ⟨fun e => absurd (eq_of_beq e) h, fun _ => k⟩
theorem Br.not {b : Bool} {A B : Prop} (h : Br b B A) : Br (!b) A B := ⟨fun e => h.2 (by simpa using e), fun e => h.1 (by simpa using e)⟩
theorem Br.and {a b : Bool} {A B : Prop} (h : Br a (Br b A B) B) : Br (a && b) A B := by
  cases a
  · exact ⟨fun e => by simp at e, fun _ => h.2 rfl⟩
  · simpa using h.1 rfl
theorem Br.or {a b : Bool} {A B : Prop} (h : Br a A (Br b A B)) : Br (a || b) A B := by
  cases a
  · simpa using h.2 rfl
  · exact ⟨fun _ => h.1 rfl, fun e => by simp at e⟩
theorem Br.any {b : Bool} {A B : Prop} (h1 : b = true → A) (h2 : b = false → B) : Br b A B := ⟨h1, h2⟩
theorem Br.t {b : Bool} {A B : Prop} (h : b = true) (k : A) : Br b A B := ⟨fun _ => k, fun e => by rw [h] at e; cases e⟩
theorem Br.f {b : Bool} {A B : Prop} (h : b = false) (k : B) : Br b A B := ⟨fun e => (by rw [h] at e; cases e), fun _ => k⟩
theorem Each.any {α : Type} {l : List α} {i : Nat} {K : α → Prop} (h : ∀ x, l[i]? = some x → K x) : Each l i K := h
theorem Each.map {α β : Type} {f : α → β} {l : List α} {i : Nat} {K : β → Prop} (h : ∀ x, l[i]? = some x → K (f x)) : Each (l.map f) i K := fun c hc => by
  rw [List.getElem?_map] at hc
  cases hl : l[i]? with
  | none => simp [hl] at hc
  | some x => simp [hl] at hc; subst hc; exact h x hl
theorem Each.mapAt {α β : Type} {f : α → β} {l : List α} {i : Nat} {K : β → Prop} {x : α} (hx : l[i]? = some x) (h : K (f x)) : Each (l.map f) i K := Each.map fun y hy => by rw [hx] at hy; cases hy; exact h
theorem Each.at {α : Type} {l : List α} {i : Nat} {K : α → Prop} {x : α} (hx : l[i]? = some x) (h : K x) : Each l i K := fun y hy => by rw [hx] at hy; cases hy; exact h
theorem Each.drop {α : Type} {l : List α} {i n : Nat} {K : α → Prop} (h : Each l (n + i) K) : Each (l.drop n) i K := fun c hc => h c (by rw [List.getElem?_drop] at hc; exact hc)
theorem Each.take {α : Type} {l : List α} {i n : Nat} {K : α → Prop} (h : i < n → Each l i K) : Each (l.take n) i K := fun c hc => by
  rw [List.getElem?_take] at hc
  split at hc
  · rename_i hi; exact h hi c hc
  · cases hc
theorem Each.rep {α : Type} {x : α} {i n : Nat} {K : α → Prop} (h : K x) : Each (List.replicate n x) i K := fun c hc => by
  rw [List.getElem?_replicate] at hc
  split at hc
  · cases hc; exact h
  · cases hc
theorem Both.mk {A B : Prop} (h : A) (k : B) : Both A B := ⟨h, k⟩
theorem Fit.inl {k : IntKind} {n : Int} {K : T → Prop} (h : InR k n) (hk : K (.d (.int k n))) : fit k n K := .inl ⟨h, hk⟩
theorem NilB.any {es : List (List D)} {K : Bool → Prop} (h1 : es = [] → K true) (h2 : K false) : NilB es K := fun b hb => by
  cases b
  · exact h2
  · exact h1 (hb rfl)

variable {P : Program}
/-- A nil slice handed back is as good as an empty row of its own. -/
theorem CallWP.own {f : Nat} {args : List T} {Q Q' : T → Hp → Prop} {e : Nat} (hc : CallWP P f args [] Q) (hq : ∀ r h, Q r h → (r = .nils ∧ h = [] ∧ Q' (.full 0) [(0, .row e [])]) ∨ Q' r h) : CallWP P f args [] Q' := fun X O w θ vs h1 h2 h3 h4 h5 hG => by
  refine (hc X O w θ vs h1 h2 h3 h4 h5 hG).mono fun _ _ ⟨v, r, h', θ', k1, k2, k3, k4, k5, k6⟩ => ?_
  rcases hq r h' k2 with ⟨rfl, rfl, q⟩ | q
  · have hθ : ∀ id, θ id = none := fun id => h5 id (Nat.zero_le _)
    have hv : v = .slice none 0 0 := k4.nils_inv
    have hn : ∀ (θ2 : Th) {b : Nat}, (∀ i, i ≠ 0 → θ2 i = none) → (∀ l, θ2 0 = some l → l.blk = none) → ¬ (Nn (fun _ => False) θ2 [(0, Ob.row e [])] b) := fun θ2 b g1 g2 hb => by
      rcases hb with h | ⟨i, o, l, q1, q2, q3⟩
      · exact h
      · by_cases hi : i = 0
        · subst hi; rw [g2 l q2] at q3; cases q3
        · rw [g1 i hi] at q2; cases q2
    refine ⟨v, _, _, fun i => if i = 0 then some ⟨none, 0, P.cellsOf e, 0⟩ else none, k1, q, fun id l hl => (by rw [hθ] at hl; cases hl), ?_, ⟨fun id ob hl => ?_, fun id id' o1 o2 l1 l2 b g1 g2 g3 g4 g5 g6 => ?_, fun id ob l b g1 g2 g3 => ?_⟩, k6⟩
    · rw [hv]; exact .full0 0 _ rfl rfl
    · simp only [look] at hl
      split at hl
      · rename_i he
        have := Nat.eq_of_beq_eq_true he
        subst this
        cases hl
        exact ⟨_, rfl, rfl, rfl, by simp, rfl⟩
      · cases hl
    · change (if id = 0 then _ else _) = _ at g3
      split at g3
      · cases g3; cases g5
      · cases g3
    · change (if id = 0 then _ else _) = _ at g2
      split at g2
      · cases g2; cases g3
      · cases g2
  · exact ⟨v, r, h', θ', k1, q, k3, k4, k5, k6⟩
end Go.VL
namespace Go.VL
theorem CallWP.go {P : Program} {tab : Tab} (tk : TabOK P tab) {f : Nat} {fn : Func} {c : Code} {rs : List ResultVar} {args : List T} {h : Hp} {Q : T → Hp → Prop} (hf : P.funcs[f]? = some fn) (B nt : Nat) (hb : fn.body = some c)
    (hrs : fn.results.toList = rs) (hB : bndH h = B) (hnt : args.length + (fn.ntmps - args.length) = nt) (hev : forceS ⟨enumT 0 args, h, B, nt⟩ fun st => ev P tab B c (evRet tab rs B Q) st) : CallWP P f args h Q := by
  rw [forceS_eq] at hev
  exact CallWP.start tk hf B nt _ hb hrs rfl hB hnt hev
end Go.VL
