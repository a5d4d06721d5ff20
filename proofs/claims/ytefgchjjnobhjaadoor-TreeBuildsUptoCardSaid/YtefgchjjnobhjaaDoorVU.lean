/- Every operation keeps to what the generator says of it. -/
import Derived.Test.YtefgchjjnobhjaaDoorVT
import Derived.Test.YtefgchjjnobhjaaDoorVO
import Derived.Laws.Cover3
set_option linter.unusedVariables false
set_option linter.unusedSimpArgs false
namespace Go.VL
open Go Go.RowKit

variable {P : Program} {X O : Nat → Prop} {w0 w w' : World} {θ θ' : Th} {st : St} {a : Act} {N : Nat → Prop}

section
variable {next : Act → World → Prop} {Q : Exit → Act → World → Prop} {K : St → Prop} {o : Oper}
theorem upon_v {s : Sem Value} {u : Value} (hr : s.run P w = .ok u w') (hn : next (a.put o.dst u) w') : o.upon P a next Q ((do pure (.value (← s)) : Sem Next).run P w) := by
  simp only [Sem.run_bind, hr, Result.andThen_ok, Sem.run_pure]
  exact hn
theorem upon_v1 {s : Sem Value} (hs : Sat P X O w0 θ st a w) (hn : ∀ a' w', Post P X O w0 θ K a' w' → next a' w') (h : ∃ u r, s.run P w = .ok u w ∧ RepT w (Nn X θ st.h) θ u r ∧ putK o.dst r K st) :
    o.upon P a next Q ((do pure (.value (← s)) : Sem Next).run P w) :=
  let ⟨_, _, h1, h2, h3⟩ := h
  upon_v h1 (hn _ _ (putK_post h3 hs h2))
theorem upon_v2 {s : Sem Value} (hn : ∀ a' w', Post P X O w0 θ K a' w' → next a' w') (h : ∃ u w', s.run P w = .ok u w' ∧ Post P X O w0 θ K (a.put o.dst u) w') :
    o.upon P a next Q ((do pure (.value (← s)) : Sem Next).run P w) :=
  let ⟨_, _, h1, h2⟩ := h
  upon_v h1 (hn _ _ h2)
end

theorem RepP_map (hs : Sat P X O w0 θ st a w) : ∀ l : List (Nat × Operand), RepP w (Nn X θ st.h) θ (l.map fun p => (p.1, a.eval p.2)) (l.map fun p => (p.1, st.val p.2))
  | [] => trivial
  | (i, x) :: r => ⟨rfl, hs.val x, RepP_map hs r⟩

def nilEq : Value → Value → Option Bool
  | .pointer none, .pointer none | .nilIface, .nilIface | .nilFunc, .nilFunc => some true
  | .pointer none, .pointer (some _) | .pointer (some _), .pointer none | .nilIface, .iface _ _ | .iface _ _, .nilIface | .nilFunc, .func _ _ _ | .func _ _ _, .nilFunc => some false
  | _, _ => none

theorem nilEq_run {t : TypeId} {d : TypeDesc} {x y : Value} {b : Bool} (hu : P.underlying t = some d) (h : nilEq x y = some b)
    (hd : match x, d with | .pointer _, .pointer _ | .nilIface, .interface _ | .iface _ _, .interface _ | .nilFunc, .func _ _ _ | .func _ _ _, .func _ _ _ => True | _, _ => False) : (Op.equal t x y).run P w = .ok b w := by
  have key : ∀ n, (Op.equalIn (n + 1) t x y).run P w = .ok b w := fun n => by
    unfold nilEq at h
    split at h <;> simp only [Option.some.injEq, reduceCtorEq] at h <;> subst h <;> cases d <;> simp only at hd <;> simp [Op.equalIn, Sem.run_bind, run_underlying' hu]
  exact key 9999

theorem nilCmp_sound {tab : Tab} (tk : TabOK P tab) {t : Nat} {op : BinOp} {ox oy : Operand} {vx vy : Value} {x y : T} {b : Bool} (hx : RepT w N θ vx x) (hy : RepT w N θ vy y) (h : nilCmp tab t x y (opc ox || opc oy) = some b)
    (hop : op = .eql ∨ op = .neq) : (do eqGuard op t ox oy vx vy; binOp op t vx vy : Sem Value).run P w = .ok (.bool (if op = .eql then b else !b)) w := by
  have hg : ∀ {g : Sem Unit} {e : Bool}, g = pure () → (Op.equal t vx vy).run P w = .ok e w → (∀ k m, vx ≠ .int k m) → (∀ m, vx ≠ .string m) → (∀ k m, vx ≠ .float k m) → (∀ k m n, vx ≠ .complex k m n) → e = b → eqGuard op t ox oy vx vy = g →
      (do eqGuard op t ox oy vx vy; binOp op t vx vy : Sem Value).run P w = .ok (.bool (if op = .eql then b else !b)) w := by
    intro g e hg1 he h1 h2 h3 h4 hb hg2
    subst hb
    rw [hg2, hg1]
    simp only [Sem.run_bind, Sem.run_pure, Result.andThen_ok]
    rcases hop with rfl | rfl
    · have : binOp .eql t vx vy = (do pure (.bool (← Op.equal t vx vy))) := by
        cases vx <;> first | rfl | (exact absurd rfl (h1 _ _)) | (exact absurd rfl (h2 _)) | (exact absurd rfl (h3 _ _)) | (exact absurd rfl (h4 _ _ _)) | (cases vy <;> rfl)
      rw [this]; simp [Sem.run_bind, he]
    · have : binOp .neq t vx vy = (do pure (.bool (!(← Op.equal t vx vy)))) := by
        cases vx <;> first | rfl | (exact absurd rfl (h1 _ _)) | (exact absurd rfl (h2 _)) | (exact absurd rfl (h3 _ _)) | (exact absurd rfl (h4 _ _ _)) | (cases vy <;> rfl)
      rw [this]; simp [Sem.run_bind, he]
  unfold nilCmp at h
  cases ht : tab.ty t with
  | none => simp [ht] at h
  | some i =>
    simp only [ht] at h
    obtain ⟨info, d, i1, i2, i3, i4⟩ := tk.ty t i ht
    have hq : (if (op matches .eql | .neq) = true then true else false) = true := by rcases hop with rfl | rfl <;> rfl
    cases hk : i.k with
    | ptr e =>
      rw [hk] at i3 h
      cases d <;> simp [fitsK] at i3
      rename_i e'
      cases hx <;> (try simp only [reduceCtorEq] at h) <;> cases hy <;> simp only [Option.some.injEq, reduceCtorEq] at h
      all_goals
        refine hg (g := pure ()) (e := b) rfl (nilEq_run i2 (by simp [nilEq, ← h]) trivial) (by simp) (by simp) (by simp) (by simp) rfl (by rcases hop with rfl | rfl <;> simp [eqGuard])
    | func =>
      rw [hk] at i3 h
      cases d <;> simp [fitsK] at i3
      cases hx <;> (try simp only [reduceCtorEq] at h) <;> cases hy <;> simp only [Option.some.injEq, reduceCtorEq] at h
      all_goals
        refine hg (g := pure ()) (e := b) rfl (nilEq_run i2 (by simp [nilEq, ← h]) trivial) (by simp) (by simp) (by simp) (by simp) rfl (by rcases hop with rfl | rfl <;> simp [eqGuard])
    | iface =>
      rw [hk] at i3 h
      cases d <;> simp [fitsK] at i3
      cases hx <;> (try simp only [reduceCtorEq] at h) <;> cases hy <;> simp only [Option.some.injEq, reduceCtorEq] at h
      case nili.nili =>
        cases hc : (opc ox || opc oy) with
        | false => simp [hc] at h
        | true =>
          simp [hc] at h
          refine hg (g := pure ()) (e := b) rfl (nilEq_run i2 (by simp [nilEq, ← h]) trivial) (by simp) (by simp) (by simp) (by simp) rfl ?_
          have : ((match ox with | .const _ => true | _ => false) || (match oy with | .const _ => true | _ => false)) = true := by
            revert hc
            cases ox <;> cases oy <;> simp [opc]
          rcases hop with rfl | rfl <;> cases ox <;> cases oy <;> simp_all [eqGuard, opc]
      all_goals
        refine hg (g := pure ()) (e := b) rfl (nilEq_run i2 (by simp [nilEq, ← h]) trivial) (by simp) (by simp) (by simp) (by simp) rfl (by rcases hop with rfl | rfl <;> simp [eqGuard])
    | _ => simp [hk] at h
theorem slNil_sound {tab : Tab} (tk : TabOK P tab) {B : Nat} {h : Hp} (hp : HpS P X O B θ h w) {t : Nat} {op : BinOp} {ox oy : Operand} {vx vy : Value} {x y : T} {es : List (List D)} (hx : RepT w (Nn X θ h) θ vx x) (hy : RepT w (Nn X θ h) θ vy y)
    (hn : slNil tab t h x y = some es) (hop : op = .eql ∨ op = .neq) : ∃ b : Bool, (b = true → es = []) ∧ (do eqGuard op t ox oy vx vy; binOp op t vx vy : Sem Value).run P w = .ok (.bool (if op = .eql then b else !b)) w := by
  unfold slNil at hn
  cases ht : tab.ty t with
  | none => simp [ht] at hn
  | some i =>
    simp only [ht] at hn
    split at hn
    case h_2 => cases hn
    rename_i e hk
    obtain ⟨info, d, i1, i2, i3, i4⟩ := tk.ty t i ht
    rw [hk] at i3
    cases d <;> simp [fitsK] at i3
    cases hy
    have hrun : ∀ (A : Option Addr) (n c : Nat), (do eqGuard op t ox oy (.slice A n c) (.slice none 0 0); binOp op t (.slice A n c) (.slice none 0 0) : Sem Value).run P w = .ok (.bool (if op = .eql then A.isNone else !A.isNone)) w := fun A n c => by
      have he := run_equal_slice_nil (P := P) w t _ A n c i2
      rcases hop with rfl | rfl <;> simp [eqGuard, binOp, Sem.run_bind, he]
    unfold elems at hn
    split at hn
    · cases hn
      cases hx with
      | d hx =>
        cases hx with
        | nil => exact ⟨_, fun _ => rfl, hrun _ _ _⟩
        | sl ad es cap => exact ⟨_, fun h => by simp at h, hrun _ _ _⟩
    · cases hn
      cases hx
      exact ⟨_, fun _ => rfl, hrun _ _ _⟩
    · rename_i id
      split at hn
      case h_2 => cases hn
      rename_i e2 es2 hl
      cases hn
      obtain ⟨l, k1, k2⟩ := hp.ob id _ hl
      cases hx with
      | full _ l' hθ b cap hb hlc hz ad => exact ⟨_, fun h => by simp at h, hrun _ _ _⟩
      | full0 _ l' hθ h0 =>
        rw [k1] at hθ; cases hθ
        refine ⟨_, fun _ => ?_, hrun _ _ _⟩
        have := k2.2.1
        rw [h0] at this
        exact List.length_eq_zero_iff.mp this.symm
    · rename_i id off len
      split at hn
      case h_2 => cases hn
      cases hn
      cases hx with
      | own => exact ⟨_, fun h => by simp at h, hrun _ _ _⟩
      | own0 => exact ⟨_, fun _ => by simp, hrun _ _ _⟩
    · cases hn
end Go.VL
