/- Regions that draw their order, of operations that leave the world as it is. -/
import Derived.Test.YtefgchjjnobhjaaDoorVY
import Derived.Still
set_option linter.unusedVariables false
set_option linter.unusedSimpArgs false
namespace Go.VL
open Go Go.RowKit

variable {P : Program} {X O : Nat → Prop} {w0 w w' : World} {θ θ' θ0 : Th} {st : St} {a : Act} {N : Nat → Prop}

def stillOp : Op → Bool
  | .move _ | .assign _ | .pick _ _ _ | .build _ _ | .load _ _ | .nilCheck _ | .binOp _ _ _ _ _ | .unOp _ _ _ | .slice _ _ _ _ _ | .fieldAddr _ _ _ | .field _ _ _ | .indexAddr _ _ _ | .index _ _ _ | .extract _ _ => true
  | .call c => match c.callee with | .builtin .len => true | .builtin .max => true | .builtin .min => true | _ => false
  | _ => false

/-- What is left behind an operation that leaves the world. -/
def PostS (P : Program) (X O : Nat → Prop) (w0 : World) (θ : Th) (K : St → Prop) (w : World) (a : Act) : Prop := ∃ st, Sat P X O w0 θ st a w ∧ K st

theorem putK_postS {dst : Option Nat} {x : T} {K : St → Prop} {v : Value} (h : putK dst x K st) (hs : Sat P X O w0 θ st a w) (hv : RepT w (Nn X θ st.h) θ v x) : PostS P X O w0 θ K w (a.put dst v) := by
  rw [putK_eq] at h
  cases dst with
  | none => exact ⟨st, hs, h⟩
  | some d =>
    simp only at h
    cases hb : Nat.blt d st.nt with
    | false => simp [hb] at h
    | true => simp only [hb] at h; exact ⟨_, hs.put (Nat.blt_eq.mp hb) hv, h⟩

section
variable {next : Act → Prop} {K : St → Prop} {o : Oper}
theorem still_v1 {s : Sem Value} (hs : Sat P X O w0 θ st a w) (hn : ∀ a', PostS P X O w0 θ K w a' → next a') (h : ∃ u r, s.run P w = .ok u w ∧ RepT w (Nn X θ st.h) θ u r ∧ putK o.dst r K st) :
    o.stillUpon P a w next ((do pure (.value (← s)) : Sem Next).run P w) := by
  obtain ⟨u, r, h1, h2, h3⟩ := h
  simp only [Sem.run_bind, h1, Result.andThen_ok, Sem.run_pure]
  exact ⟨rfl, hn _ (putK_postS h3 hs h2)⟩

theorem evOp_still {tab : Tab} (tk : TabOK P tab) (hq : stillOp o.op = true) (hs : Sat P X O w0 θ st a w) (hn : ∀ a', PostS P X O w0 θ K w a' → next a') (h : evOp P tab o K st) : o.still P a w next := by
  unfold Oper.still
  unfold evOp at h
  unfold execOp
  obtain ⟨dst, op, type, pos, after, guard⟩ := o
  simp only at h hq ⊢
  cases op with
  | move x => exact ⟨rfl, hn _ (putK_postS h hs (hs.val x))⟩
  | assign x => exact ⟨rfl, hn _ (putK_postS h hs (hs.val x))⟩
  | pick c x y =>
    simp only at h ⊢
    have hc := hs.val c
    split at h
    case h_2 => exact h.elim
    rename_i t ht
    rw [ht] at hc
    have hc := hc.bool_inv
    rw [hc]
    have : ∀ (q : Bool), ((do pure (Next.value (if (← asBool (.bool q)) then a.eval x else a.eval y))) : Sem Next).run P w = .ok (.value (if q then a.eval x else a.eval y)) w := by intro q; cases q <;> rfl
    rw [this]
    cases t with
    | true => exact ⟨rfl, hn _ (putK_postS (h.1 rfl) hs (hs.val x))⟩
    | false => exact ⟨rfl, hn _ (putK_postS (h.2 rfl) hs (hs.val y))⟩
  | build t ps =>
    refine still_v1 hs hn (evBuild_sound tk ?_ h)
    simpa [Array.toList_map] using RepP_map hs ps.toList
  | load t x => exact still_v1 hs hn (evLoad_sound tk hs.hp (hs.val x) h)
  | nilCheck x =>
    simp only at h ⊢
    have hv := hs.val x
    generalize a.eval x = v at hv ⊢
    generalize st.val x = t at hv h
    cases hv <;> simp only at h <;> first | exact h.elim | skip
    case ref id i off l hθ b hb => exact ⟨rfl, hn _ (putK_postS h hs (.ref id i off l hθ b hb))⟩
    case cref ad cs c hb hc hr => exact ⟨rfl, hn _ (putK_postS h hs (.cref ad cs c hb hc hr))⟩
    case fn f vs xs hl hf => exact ⟨rfl, hn _ (putK_postS h hs (.fn f vs xs hl hf))⟩
  | binOp op t x y f =>
    simp only at h ⊢
    cases hc : nilCmp tab t (st.val x) (st.val y) (opc x || opc y) with
    | none =>
      simp only [hc] at h
      cases hsn : slNil tab t st.h (st.val x) (st.val y) with
      | none =>
        simp only [hsn] at h
        cases hi : ifcI tab t (st.val x) (st.val y) with
        | none =>
          simp only [hi] at h
          exact still_v1 hs hn (evBin_sound tk (hs.val x) (hs.val y) h)
        | some p =>
          obtain ⟨tx, b⟩ := p
          simp only [hi] at h
          obtain ⟨hcm, h⟩ := h
          have key := fun hop => ifcI_sound (op := op) (ox := x) (oy := y) tk (hs.val x) (hs.val y) hi hcm hop
          split at h
          · exact still_v1 hs hn ⟨_, _, key (.inl rfl), .bool b, by simpa using h⟩
          · exact still_v1 hs hn ⟨_, _, key (.inr rfl), .bool (!b), by simpa using h⟩
          · exact h.elim
      | some es =>
        simp only [hsn] at h
        cases op with
        | eql =>
          obtain ⟨b, h1, h2⟩ := slNil_sound (op := .eql) (ox := x) (oy := y) tk hs.hp (hs.val x) (hs.val y) hsn (.inl rfl)
          exact still_v1 hs hn ⟨_, _, h2, .bool b, by simpa using h b h1⟩
        | neq =>
          obtain ⟨b, h1, h2⟩ := slNil_sound (op := .neq) (ox := x) (oy := y) tk hs.hp (hs.val x) (hs.val y) hsn (.inr rfl)
          exact still_v1 hs hn ⟨_, _, h2, .bool (!b), by simpa using h b h1⟩
        | _ => exact (h false (fun e => by cases e)).elim
    | some b =>
      simp only [hc] at h
      have key := fun hop => nilCmp_sound (op := op) tk (hs.val x) (hs.val y) hc hop
      split at h
      · exact still_v1 hs hn ⟨_, _, key (.inl rfl), .bool b, by simpa using h⟩
      · exact still_v1 hs hn ⟨_, _, key (.inr rfl), .bool (!b), by simpa using h⟩
      · exact h.elim
  | unOp op t x => exact still_v1 hs hn (evUn_sound (hs.val x) h)
  | slice t x lo hi mx => exact still_v1 hs hn (evSlice_sound tk hs.hp (hs.val x) (hs.valO lo) (hs.valO hi) (hs.valO mx) h)
  | fieldAddr s x f => exact still_v1 hs hn (evFieldAddr_sound tk (hs.val x) h)
  | field s x f => exact still_v1 hs hn (evField_sound tk (hs.val x) h)
  | indexAddr t x i =>
    simp only at h
    cases ht : tab.ty t with
    | none => simp [ht] at h
    | some ti =>
      simp only [ht] at h
      split at h
      case h_2 => exact h.elim
      rename_i e hk
      exact still_v1 hs hn (evIndex_sound tk hs.hp ht hk (hs.val x) (hs.val i) h)
  | index t x i => exact still_v1 hs hn (evIx_sound tk (hs.val x) (hs.val i) h)
  | extract x i =>
    simp only at h ⊢
    split at h
    case h_2 => exact h.elim
    rename_i l hx
    rw [nth_eq] at h
    cases hi : l[i]? with
    | none => simp [hi] at h
    | some r =>
      simp only [hi] at h
      have hv := hs.val x
      rw [hx] at hv
      generalize a.eval x = v at hv ⊢
      cases hv with
      | tup vs _ hl hc =>
        have hr := hc i r hi
        have hlt : i < vs.size := by rw [hl]; exact (List.getElem?_eq_some_iff.mp hi).1
        have hg : vs[i]? = some (vs.getD i undef) := by simp [Array.getD_eq_getD_getElem?, hlt]
        exact still_v1 hs hn ⟨_, _, by simp only [Instr.extract, hg, Sem.run_pure], hr, h⟩
  | call c =>
    simp only at h ⊢
    obtain ⟨callee, args, ats⟩ := c
    simp only [resolve] at h ⊢
    cases callee with
    | builtin b =>
      simp only at h
      unfold evBuiltin at h
      simp only [Sem.run_bind, Sem.run_pure, Result.andThen_ok, invoke, builtin]
      have hlist : ∀ {l : List T}, args.toList.map st.val = l → ∀ (i : Nat) (x : T), l[i]? = some x → ((args.map a.eval)[i]? = some ((args.map a.eval).getD i undef) ∧ RepT w (Nn X θ st.h) θ ((args.map a.eval).getD i undef) x) := fun {l} hl i x hx => by
        subst hl
        refine ⟨?_, getDA_map hs i x hx⟩
        have : i < args.size := by have := (List.getElem?_eq_some_iff.mp hx).1; simpa using this
        simp [Array.getD_eq_getD_getElem?, this]
      split at h
      · rename_i t ts x xs hts hxs
        obtain ⟨h1, h2⟩ := hlist hxs 0 x rfl
        exact still_v1 hs hn (evLen_sound tk hs.hp (by rw [← Array.getElem?_toList, hts]; rfl) h1 h2 h)
      · simp [stillOp] at hq
      · rename_i ts l
        split at h
        case h_2 => exact h.elim
        rename_i k n hm
        exact still_v1 hs hn ⟨_, _, max_run (w := w) (N := Nn X θ st.h) (θ := θ) (by simp) (fun i x hx => getDA_map hs i x hx) hm, .int k n, h⟩
      · rename_i ts l
        split at h
        case h_2 => exact h.elim
        rename_i k n hm
        exact still_v1 hs hn ⟨_, _, min_run (w := w) (N := Nn X θ st.h) (θ := θ) (by simp) (fun i x hx => getDA_map hs i x hx) hm, .int k n, h⟩
      · exact h.elim
    | _ => simp [stillOp] at hq
  | _ => simp [stillOp] at hq
end

theorem evOps_still {tab : Tab} (tk : TabOK P tab) {ops : Array Oper} {Q : Act → Prop} {K : St → Prop} (hQ : ∀ a, PostS P X O w0 θ K w a → Q a) :
    ∀ (l : List Oper) (st : St) (a : Act), (l.all fun o => stillOp o.op) = true → Sat P X O w0 θ st a w → evOps P tab ops.toList K l st → wpStill P ops w Q l a
  | [], st, a, _, hs, h => hQ a ⟨st, hs, h⟩
  | o :: r, st, a, hq, hs, h => by
    simp only [List.all_cons, Bool.and_eq_true] at hq
    simp only [evOps] at h
    simp only [wpStill]
    rcases grd_sound hs h with ⟨h1, h2⟩ | ⟨h1, h2⟩
    · rw [if_pos h1]
      exact evOp_still tk hq.1 hs (fun a' ⟨st', k1, k2⟩ => evOps_still tk hQ r st' a' hq.2 k1 k2) h2
    · rw [if_neg (by rw [h1]; simp)]
      obtain ⟨st', k1, k2⟩ := putK_postS h2 hs RepT.skip
      exact evOps_still tk hQ r st' _ hq.2 k1 k2

theorem WP.still {tab : Tab} (tk : TabOK P tab) (hm : P.follows .mixedOrders = true) {B id : Nat} {ops : Array Oper} {Q : Ex → St → Prop} (hB : (Region.lexB .any ops && ops.toList.all fun o => stillOp o.op) = true)
    (h : evOps P tab ops.toList (Q .normal) ops.toList st) : WP P B (.region id ops true) Q st := fun X O w0 θ a w hs => by
  rw [Bool.and_eq_true] at hB
  refine wp_region_still hm hB.1 (evOps_still (θ := θ) tk (fun a' ⟨st', k1, k2⟩ => ⟨.normal, st', θ, rfl, k2, fun _ _ _ hl => hl, k1⟩) ops.toList st a hB.2 (hs.drew _) h)
end Go.VL
