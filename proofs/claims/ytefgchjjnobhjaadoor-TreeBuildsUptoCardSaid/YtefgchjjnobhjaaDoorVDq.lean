/- Regions that draw their order, of any operations: every order, but for operations that need no world, which are taken as soon as they may be. -/
import Derived.Test.YtefgchjjnobhjaaDoorVDr
set_option linter.unusedVariables false
set_option linter.unusedSimpArgs false
namespace Go.VL
open Go Go.RowKit

variable {P : Program} {X O : Nat → Prop} {w0 w w' : World} {θ θ' θ0 : Th} {st : St} {a : Act} {N : Nat → Prop}

/-- A piece of meaning that needs no world, wherever it comes to an end. -/
inductive WL (P : Program) : {α : Type} → Sem α → Prop where
  | pure {α : Type} (x : α) : WL P (Sem.pure x)
  | program {α : Type} (k : Program → Sem α) (h : ∀ p, WL P (k p)) : WL P (Sem.program k)
  | bad {α : Type} {s : Sem α} (h : ∀ w v w1, s.run P w ≠ .ok v w1) : WL P s

theorem WL.bind {α β : Type} {s : Sem α} {f : α → Sem β} (hs : WL P s) (hf : ∀ x, WL P (f x)) : WL P (s >>= f) := by
  induction hs with
  | pure x => exact hf x
  | program k h ih => exact .program _ fun p => ih p
  | bad h =>
    refine .bad fun w v w1 hr => ?_
    rename_i s
    rw [Sem.run_bind] at hr
    cases hq : s.run P w with
    | ok r w2 => exact h w r w2 hq
    | halt x w2 => rw [hq] at hr; cases hr

theorem WL.run {α : Type} {s : Sem α} {v : α} {w1 : World} (h : WL P s) (hr : s.run P w = .ok v w1) (w' : World) : s.run P w' = .ok v w' := by
  induction h with
  | pure x => simp only [Sem.run] at hr ⊢; cases hr; rfl
  | program k h ih => simp only [Sem.run] at hr ⊢; exact ih P hr
  | bad h => exact (h _ _ _ hr).elim

theorem WL.pure' {α : Type} (x : α) : WL P (Pure.pure x : Sem α) := .pure x
theorem WL.halt {α : Type} (x : Halt) : WL P (Sem.halt x : Sem α) := .bad fun w v w1 h => by simp [Sem.run] at h
theorem WL.stuck {α : Type} (m : String) : WL P (Go.stuck m : Sem α) := .halt _
theorem WL.prog : WL P Go.program := .program _ fun p => .pure p
theorem WL.underlying (t : TypeId) : WL P (Go.underlying t) := WL.bind .prog fun p => by split <;> first | exact .pure _ | exact .halt _
theorem WL.typeInfo (t : TypeId) : WL P (Go.typeInfo t) := WL.bind .prog fun p => by split <;> first | exact .pure _ | exact .halt _
theorem WL.sizeOf (t : TypeId) : WL P (Go.sizeOf t) := WL.bind (.typeInfo t) fun p => .pure _
theorem WL.asIntOf (v : Value) : WL P (Go.asIntOf v) := by unfold Go.asIntOf; split <;> first | exact .pure _ | exact .halt _
theorem WL.sureAddr (v : Value) : WL P (Instr.sureAddr v) := by unfold Instr.sureAddr; split <;> first | exact .pure _ | exact .halt _
def NoOk (P : Program) {α : Type} (s : Sem α) : Prop := ∀ w v w1, s.run P w ≠ .ok v w1
theorem NoOk.bind {α β : Type} {s : Sem α} {f : α → Sem β} (hf : ∀ x, NoOk P (f x)) : NoOk P (s >>= f) := fun w v w1 hr => by
  rw [Sem.run_bind] at hr
  cases hq : s.run P w with
  | ok r w2 => rw [hq] at hr; exact hf r w2 v w1 hr
  | halt x w2 => rw [hq] at hr; cases hr
theorem NoOk.halt {α : Type} (x : Halt) : NoOk P (Sem.halt x : Sem α) := fun w v w1 h => by simp [Sem.run] at h
theorem WL.boundsPanic {α : Type} (k : IntKind) (x y : Int) (c : BoundsCode) : WL P (Go.boundsPanic k x y c : Sem α) := by
  refine .bad ?_
  have key : ∀ s : Bool, NoOk P (Go.runtimePanic (.bounds (IntKind.i64.wrap x) y s c) : Sem α) := fun s => by
    unfold Go.runtimePanic
    exact NoOk.bind fun p => NoOk.halt _
  unfold Go.boundsPanic
  simp only
  split
  · exact NoOk.bind fun s => key s
  · exact NoOk.bind fun s => key s
theorem WL.indexAt (t : TypeId) (x i : Value) : WL P (Instr.indexAt t x i) := by
  unfold Instr.indexAt
  refine WL.bind (.asIntOf _) fun ki => WL.bind (.underlying _) fun d => ?_
  have key : ∀ q : Option Addr × Nat × TypeId, WL P (match q with
    | (base, len, elem) => do
      let __do_lift ← Go.underlying t
      have tiny : Bool := decide (len ≤ 1) && match __do_lift with | TypeDesc.array len elem => true | x => false
      match base with
      | some a =>
            if 0 ≤ ki.snd ∧ ki.snd < ↑len then do
              let __do_lift ← Go.sizeOf elem
              Pure.pure (Value.pointer (some (a.add (ki.snd.toNat * __do_lift))))
            else
              if tiny = true then
                unsupported
                  (Unsupported.noEntry "op/indexAddr.an index out of range at an array of length 0 or 1 (ledger 616)")
              else Go.boundsPanic ki.fst ki.snd (↑len) BoundsCode.index
      | none => Go.boundsPanic ki.fst ki.snd 0 BoundsCode.index) := fun q => by
    refine WL.bind (.underlying _) fun d2 => ?_
    simp only
    split
    · split
      · exact WL.bind (.sizeOf _) fun _ => .pure _
      · split
        · split <;> first | exact .halt _ | exact .boundsPanic _ _ _ _
        · split <;> first | exact .halt _ | exact .boundsPanic _ _ _ _
    · exact .boundsPanic _ _ _ _
  split
  · exact WL.bind (.sureAddr _) fun _ => WL.bind (.pure _) key
  · exact WL.bind (.pure _) key
  · exact .halt _
theorem WL.extract (t : Value) (i : Nat) : WL P (Instr.extract t i) := by
  unfold Instr.extract
  split
  · split <;> first | exact .pure _ | exact .halt _
  · exact .halt _
theorem evFieldAddr_wl {tab : Tab} (tk : TabOK P tab) {s f : Nat} {v : Value} {x : T} {K : T → Prop} (hv : RepT w N θ v x) (h : evFieldAddr tab s x f K) :
    ∃ u r, (∀ w', (Instr.fieldAt s v f).run P w' = .ok u w') ∧ RepT w N θ u r ∧ K r := by
  unfold evFieldAddr at h
  cases ht : tab.ty s with
  | none => simp [ht] at h
  | some i =>
    simp only [ht] at h
    cases hk : i.k <;> simp only [hk] at h <;> try exact h.elim
    rename_i fs
    obtain ⟨fields, f1, f2⟩ := tab.struct_of tk ht hk
    cases hf : nth fs f with
    | none => simp [hf] at h
    | some p =>
      obtain ⟨o, ft⟩ := p
      simp only [hf] at h
      obtain ⟨g, g1, g2, g3⟩ := f2 f o ft hf
      cases hj : tab.ty ft with
      | none => simp [hj] at h
      | some j =>
        simp only [hj] at h
        obtain ⟨info, d, i1, i2, i3, i4, _⟩ := tk.ty ft j hj
        cases hz : Nat.beq j.size 0 with
        | true => simp [hz] at h
        | false =>
          simp only [hz] at h
          have hz' : ¬ info.size = 0 := fun e => by rw [i4] at e; rw [e] at hz; simp at hz
          have hrun : ∀ (ad : Addr) (w : World), (Instr.fieldAt s (.pointer (some ad)) f).run P w = .ok (.pointer (some (ad.add o))) w := by
            intro ad w
            rw [← g3] at i1
            simp only [Instr.fieldAt, Sem.run_bind, run_underlying' f1, Result.andThen_ok, g1, Instr.sureAddr, Sem.run_pure, fieldPlace, run_sizeOf i1, hz', if_false, g2]
          split at h
          · cases hv with
            | ref id i' o' l hθ b hb =>
              refine ⟨_, _, hrun _, ?_, h⟩
              rw [add_off, Nat.add_assoc]
              exact .ref _ _ _ l hθ b hb
          · rename_i cs
            cases hv with
            | cref ad _ c hb hc hr =>
              refine ⟨_, _, hrun _, ?_, h⟩
              rw [dropN_eq]
              by_cases hne : cs = []
              · subst hne
                simp only [List.drop_nil]
                exact .cref _ [] c (fun hh => absurd rfl hh) (fun j x hx => by simp at hx) (fun j x hx => by simp at hx)
              · obtain ⟨b1, b2, b3⟩ := hb hne
                rw [add_off' b1]
                refine .cref _ _ (fun j => c (o + j)) (fun _ => ⟨rfl, b2, b3⟩) (fun j x hx => ?_) (fun j x hx => ?_)
                · rw [List.getElem?_drop] at hx
                  simp only [Nat.add_assoc]
                  exact hc _ x hx
                · rw [List.getElem?_drop] at hx
                  exact hr _ x hx
          · exact h.elim

/-- Whose blocks are the state's own. -/
def Ow (θ : Th) (h : Hp) (b : Nat) : Prop := ∃ id ob l, look h id = some ob ∧ θ id = some l ∧ l.blk = some b

theorem ldT_wl {tab : Tab} (tk : TabOK P tab) {t : Nat} {cs : List T} {K : T → Prop} {ad : Addr} (hsp : ad.spot = none) (hc : ∀ (j : Nat) (x : T), cs[j]? = some x → ∃ u, cellAt w ad.block (ad.off + j) = some u ∧ RepT w N θ u x)
    (h : ldT tab t cs K) : ∃ u r, (∀ w' : World, w'.heap[ad.block]? = w.heap[ad.block]? → (loadVar t ad).run P w' = .ok u w') ∧ RepT w N θ u r ∧ K r := by
  have hcell : ∀ (w' : World) (j : Nat), w'.heap[ad.block]? = w.heap[ad.block]? → w'.cell? (ad.add j) = w.cell? (ad.add j) := fun w' j hw => by
    rw [add_off' hsp]; exact cellAt_eq hw
  unfold ldT at h
  cases ht : tab.ty t with
  | none => simp [ht] at h
  | some i =>
    simp only [ht] at h
    obtain ⟨info, d, i1, i2, i3, i4, _⟩ := tk.ty t i ht
    have hag := fits_agg i3
    cases ha : i.k.agg with
    | true =>
      simp only [ha] at h
      cases hk : takeN cs i.size with
      | none => simp [hk] at h
      | some l =>
        simp only [hk] at h
        obtain ⟨rfl, hlen⟩ := takeN_eq _ _ _ hk
        have hf : ∀ j, j < i.size → ∃ u, w.cell? (ad.add j) = some u ∧ ∀ x, cs[j]? = some x → RepT w N θ u x := fun j hj => by
          obtain ⟨u, u1, u2⟩ := hc j cs[j] (by simp)
          exact ⟨u, by rw [add_off' hsp]; exact u1, fun x hx => by rw [List.getElem?_eq_getElem (by omega)] at hx; cases hx; exact u2⟩
        refine ⟨.agg ((List.range i.size).map fun j => (w.cell? (ad.add j)).getD undef).toArray, .agg (cs.take i.size), fun w' hw => ?_, .agg _ _ ?_ ?_, h⟩
        · have hl := run_loadCells (P := P) w' ad i.size (fun j => (w.cell? (ad.add j)).getD undef) (fun j hj => by obtain ⟨u, u1, _⟩ := hf j hj; rw [hcell w' j hw]; simp [u1])
          simp only [loadVar, Sem.run_bind, run_isAgg i2, Result.andThen_ok, hag, ha, if_true, run_sizeOf i1, i4, hl, Sem.run_pure]
        · simp; omega
        · intro j x hx
          rw [List.getElem?_take] at hx
          by_cases hj : j < i.size
          · rw [if_pos hj] at hx
            obtain ⟨u, u1, u2⟩ := hf j hj
            simp [hj, u1]
            exact u2 x hx
          · simp [hj] at hx
    | false =>
      simp only [ha] at h
      cases cs with
      | nil => exact h.elim
      | cons x r =>
        simp only at h
        obtain ⟨u, u1, u2⟩ := hc 0 x rfl
        refine ⟨u, x, fun w' hw => ?_, u2, h⟩
        have h1 : w.cell? ad = some u := by
          obtain ⟨b, o, s⟩ := ad; simp only at hsp; subst hsp; simpa [cellAt] using u1
        have h2 : w'.cell? ad = some u := by
          rw [← h1]
          obtain ⟨b, o, s⟩ := ad; simp only at hsp; subst hsp
          exact cellAt_eq hw
        simp only [loadVar, Sem.run_bind, run_isAgg i2, Result.andThen_ok, hag, ha, Bool.false_eq_true, if_false, run_load, h2]

theorem WL.ite {α : Type} {c : Prop} [Decidable c] {s t : Sem α} (h1 : WL P s) (h2 : WL P t) : WL P (if c then s else t) := by split <;> assumption
theorem WL.noOk {α : Type} {s : Sem α} (h : NoOk P s) : WL P s := .bad h
theorem NoOk.runtimePanicE {α : Type} (m : String) : NoOk P (Go.runtimePanic (.error m) : Sem α) := by
  unfold Go.runtimePanic; exact NoOk.bind fun p => NoOk.halt _
/-- Operations that come to the same in every later world. -/
def mobK : Op → Bool
  | .move _ | .assign _ | .fieldAddr _ _ _ | .indexAddr _ _ _ | .extract _ _ => true
  | _ => false
def mobOp (st : St) : Op → Bool
  | .load _ x => (match st.val x with | .cref (_ :: _) => true | _ => false)
  | .pick _ _ _ => true
  | .binOp _ _ x y _ => (match st.val x, st.val y with | .d (.int _ _), .d (.int _ _) => true | .d (.str _), .d (.str _) => true | _, _ => false)
  | .unOp _ _ _ => true
  | o => mobK o

theorem WL.binInt {op : BinOp} {t : TypeId} {k k' : IntKind} {a b : Int} : WL P (binOp op t (.int k a) (.int k' b)) := by
  cases op <;> simp only [binOp, Op.shift, Op.intArith, Op.intDiv, Op.intBits, Op.intCmp] <;>
    repeat (first | exact .pure _ | exact .pure' _ | exact .halt _ | exact .stuck _ | exact .noOk (NoOk.runtimePanicE _) | split)
theorem WL.binStr {op : BinOp} {t : TypeId} {a b : ByteArray} : WL P (binOp op t (.string a) (.string b)) := by
  cases op <;> simp only [binOp, Op.stringOp] <;>
    repeat (first | exact .pure _ | exact .pure' _ | exact .halt _ | exact .stuck _ | exact .noOk (NoOk.runtimePanicE _) | split)
theorem WL.guardInt {op : BinOp} {t : TypeId} {x y : Operand} {k k' : IntKind} {a b : Int} : WL P (eqGuard op t x y (.int k a) (.int k' b)) := by
  unfold eqGuard; split <;> exact .pure' _
theorem WL.guardStr {op : BinOp} {t : TypeId} {x y : Operand} {a b : ByteArray} : WL P (eqGuard op t x y (.string a) (.string b)) := by
  unfold eqGuard; split <;> exact .pure' _
theorem rigid {v v' : Value} {x : D} {w w' : World} {N N' : Nat → Prop} (h : RepD w N v x) (h' : RepD w' N' v' x) (hx : ∀ es, x ≠ .sl es) : v = v' := by
  cases h <;> cases h' <;> first | rfl | exact absurd rfl (hx _)

theorem evOp_mob {tab : Tab} (tk : TabOK P tab) {o : Oper} {K : St → Prop} (hq : mobOp st o.op = true) (hs : Sat P X O w0 θ st a w) (h : evOp P tab o K st) :
    ∃ v, (∀ w' : World, Kp (Ow θ st.h) w w' → (execOp a.eval o).run P w' = .ok (.value v) w') ∧ PostS P X O w0 θ K w (a.put o.dst v) := by
  have wrap : ∀ {s : Sem Value} {v : Value}, (∀ w' : World, Kp (Ow θ st.h) w w' → s.run P w' = .ok v w') → ∀ w', Kp (Ow θ st.h) w w' → ((do pure (.value (← s)) : Sem Next)).run P w' = .ok (.value v) w' := fun hr w' hk => by
    simp only [Sem.run_bind, hr w' hk, Result.andThen_ok, Sem.run_pure]
  have h0 := h
  unfold evOp at h
  unfold execOp
  obtain ⟨dst, op, type, pos, after, guard⟩ := o
  simp only at h hq ⊢
  cases op with
  | move x => exact ⟨_, fun w' _ => rfl, putK_postS h hs (hs.val x)⟩
  | assign x => exact ⟨_, fun w' _ => rfl, putK_postS h hs (hs.val x)⟩
  | pick c x y =>
    simp only at h ⊢
    have hc := hs.val c
    split at h
    case h_2 => exact h.elim
    rename_i t ht
    rw [ht] at hc
    have hc := hc.bool_inv
    rw [hc]
    cases t with
    | true => exact ⟨a.eval x, fun w' _ => rfl, putK_postS (h.1 rfl) hs (hs.val x)⟩
    | false => exact ⟨a.eval y, fun w' _ => rfl, putK_postS (h.2 rfl) hs (hs.val y)⟩
  | fieldAddr s x f =>
    obtain ⟨u, r, h1, h2, h3⟩ := evFieldAddr_wl tk (hs.val x) h
    exact ⟨u, wrap fun w' _ => h1 w', putK_postS h3 hs h2⟩
  | indexAddr t x i =>
    simp only at h
    cases ht : tab.ty t with
    | none => simp [ht] at h
    | some ti =>
      simp only [ht] at h
      split at h
      case h_2 => exact h.elim
      rename_i e hk
      obtain ⟨u, r, h1, h2, h3⟩ := evIndex_sound tk hs.hp ht hk (hs.val x) (hs.val i) h
      exact ⟨u, wrap fun w' _ => WL.run (.indexAt _ _ _) h1 w', putK_postS h3 hs h2⟩
  | extract x i =>
    simp only at h ⊢
    split at h
    case h_2 => exact h.elim
    rename_i l hx
    rw [nth_eq] at h
    cases hi : l[i]? with
    | none => simp [hi] at h
    | some r =>
      simp only [hi] at h
      have hv := hs.val x
      rw [hx] at hv
      generalize a.eval x = v at hv ⊢
      cases hv with
      | tup vs _ hl hc =>
        have hr := hc i r hi
        have hlt : i < vs.size := by rw [hl]; exact (List.getElem?_eq_some_iff.mp hi).1
        have hg : vs[i]? = some (vs.getD i undef) := by simp [Array.getD_eq_getD_getElem?, hlt]
        exact ⟨_, wrap (fun w' _ => by simp only [Instr.extract, hg, Sem.run_pure]), putK_postS h hs hr⟩
  | load t x =>
    simp only [mobOp] at hq
    simp only at h ⊢
    have hv := hs.val x
    unfold evLoad at h
    generalize a.eval x = v at hv ⊢
    generalize st.val x = q at hv h hq
    split at hq
    case h_2 => cases hq
    rename_i x0 r0
    simp only at h
    generalize hcs : x0 :: r0 = cs at *
    cases hv with
    | cref ad _ c hb hc hr =>
      obtain ⟨h1, h2, h3⟩ := hb (by rw [← hcs]; simp)
      obtain ⟨u, r, g1, g2, g3⟩ := ldT_wl (w := w) (N := Nn X θ st.h) (θ := θ) tk h1 (cs := cs.map T.d) (fun j x hx => by
        rw [List.getElem?_map] at hx
        cases hd : cs[j]? with
        | none => simp [hd] at hx
        | some d =>
          simp [hd] at hx
          subst hx
          exact ⟨c j, hc j d hd, .d (hr j d hd)⟩) (ldD_T h)
      refine ⟨u, wrap fun w' hk => ?_, putK_postS g3 hs g2⟩
      have := g1 w' (hk.block ad.block h3 (fun ho => h2 (.inr ho)))
      simpa [Instr.loadAt, Instr.sureAddr] using this
  | unOp op t x =>
    simp only at h ⊢
    have hv := hs.val x
    unfold evUn at h
    split at h
    · rename_i b hx
      rw [hx] at hv
      have hv := hv.bool_inv
      rw [hv]
      exact ⟨.bool (!b), wrap fun w' _ => by simp [Op.unary], putK_postS h hs (.bool _)⟩
    · rename_i k n hx
      rw [hx] at hv
      have hv := hv.int_inv
      rw [hv]
      obtain ⟨r, h1, h2⟩ := fit_sound (w := w) (N := Nn X θ st.h) (θ := θ) h
      exact ⟨_, wrap fun w' _ => by simp only [Op.unary, Op.intArith, Sem.run_pure], putK_postS h2 hs h1⟩
    · exact h.elim
  | binOp op t x y f =>
    have hst : Oper.still P ⟨dst, .binOp op t x y f, type, pos, after, guard⟩ a w (PostS P X O w0 θ K w) := evOp_still tk rfl hs (fun a' h => h) h0
    have hwl : WL P (do eqGuard op t x y (a.eval x) (a.eval y); binOp op t (a.eval x) (a.eval y) : Sem Value) := by
      have hx := hs.val x
      have hy := hs.val y
      simp only [mobOp] at hq
      split at hq
      · rename_i e1 e2
        rw [e1] at hx; rw [e2] at hy
        rw [hx.int_inv, hy.int_inv]
        exact WL.bind .guardInt fun _ => .binInt
      · rename_i e1 e2
        rw [e1] at hx; rw [e2] at hy
        rw [hx.str_inv, hy.str_inv]
        exact WL.bind .guardStr fun _ => .binStr
      · cases hq
    unfold Oper.still execOp at hst
    simp only [Sem.run_bind, Sem.run_pure] at hst
    simp only
    cases hr : (do eqGuard op t x y (a.eval x) (a.eval y); binOp op t (a.eval x) (a.eval y) : Sem Value).run P w with
    | ok u w1 =>
      have hrr := hr
      simp only [Sem.run_bind] at hr
      rw [hr] at hst
      simp only [Result.andThen_ok, Oper.stillUpon] at hst
      obtain ⟨rfl, hst⟩ := hst
      exact ⟨u, wrap fun w' _ => WL.run hwl hrr w', hst⟩
    | halt q w1 =>
      simp only [Sem.run_bind] at hr
      rw [hr] at hst
      exact hst.elim
  | _ => simp [mobOp, mobK] at hq

/-- One order, and the others. -/
def Both (A B : Prop) : Prop := A ∧ B
/-- In which order: an operation that is taken as soon as it may be, or whichever of those that may come up. -/
inductive Sch where
  | done
  | mob (i : Nat) (r : Sch)
  | alt (l : List (Nat × Sch))

def stepOp (P : Program) (tab : Tab) (ops : List Oper) (i : Nat) (K : St → Prop) (st : St) : Prop := match nth ops i with
  | some o => grd ops st o (evOp P tab o K st) (putK o.dst (.tup []) K st)
  | none => False
def stepMob (P : Program) (tab : Tab) (ops : List Oper) (i : Nat) (K : St → Prop) (st : St) : Prop := match nth ops i with
  | some o => grd ops st o (match mobOp st o.op with | true => evOp P tab o K st | false => False) (putK o.dst (.tup []) K st)
  | none => False
mutual
def evSch (P : Program) (tab : Tab) (ops : List Oper) (K : St → Prop) : Sch → St → Prop
  | .done, st => K st
  | .mob i r, st => stepMob P tab ops i (evSch P tab ops K r) st
  | .alt l, st => evAlt P tab ops K l st
def evAlt (P : Program) (tab : Tab) (ops : List Oper) (K : St → Prop) : List (Nat × Sch) → St → Prop
  | [], _ => True
  | [(i, r)], st => stepOp P tab ops i (evSch P tab ops K r) st
  | (i, r) :: l, st => Both (stepOp P tab ops i (evSch P tab ops K r) st) (evAlt P tab ops K l st)
end
mutual
def okSch (ops : Array Oper) : Nat → Array Bool → Sch → Bool
  | _, listed, .done => (Region.ready .any ops listed).isEmpty
  | n + 1, listed, .mob i r => (Region.ready .any ops listed).contains i && Region.free .any ops listed i && okSch ops n (listed.setIfInBounds i true) r
  | n + 1, listed, .alt l => !l.isEmpty && (Region.ready .any ops listed == l.map (·.1)) && okAlt ops n listed l
  | 0, _, _ => false
def okAlt (ops : Array Oper) : Nat → Array Bool → List (Nat × Sch) → Bool
  | _, _, [] => true
  | n, listed, (i, r) :: l => okSch ops n (listed.setIfInBounds i true) r && okAlt ops n listed l
end

theorem evAlt_mem {tab : Tab} {ops : List Oper} {K : St → Prop} : ∀ {l : List (Nat × Sch)}, evAlt P tab ops K l st → ∀ p ∈ l, stepOp P tab ops p.1 (evSch P tab ops K p.2) st
  | [], _, p, hp => by simp at hp
  | [(i, r)], h, p, hp => by
    simp only [List.mem_singleton] at hp
    subst hp
    simpa only [evAlt] using h
  | (i, r) :: q :: l, h, p, hp => by
    simp only [evAlt] at h
    rcases List.mem_cons.mp hp with rfl | hp
    · exact h.1
    · exact evAlt_mem (l := q :: l) h.2 p hp
theorem okAlt_mem {ops : Array Oper} {n : Nat} {listed : Array Bool} : ∀ {l : List (Nat × Sch)}, okAlt ops n listed l = true → ∀ p ∈ l, okSch ops n (listed.setIfInBounds p.1 true) p.2 = true
  | [], _, p, hp => by simp at hp
  | (i, r) :: l, h, p, hp => by
    simp only [okAlt, Bool.and_eq_true] at h
    rcases List.mem_cons.mp hp with rfl | hp
    · exact h.1
    · exact okAlt_mem h.2 p hp

/-- Whatever order is picked, each step within a class of worlds. -/
def wpAnyC (P : Program) (ops : Array Oper) (Q : Exit → Act → World → Prop) (C : World → Prop) : Nat → Array Bool → Act → World → Prop
  | 0, listed, a, w => Region.ready .any ops listed = [] ∧ Q .normal a w
  | n + 1, listed, a, w => (Region.ready .any ops listed = [] → Q .normal a w) ∧ ∀ i ∈ Region.ready .any ops listed, wpOp P ops Q i (fun a' w' => C w' ∧ wpAnyC P ops Q C n (listed.setIfInBounds i true) a' w') a w
section
variable {ops : Array Oper} {Q : Exit → Act → World → Prop} {C C' : World → Prop}
theorem wpAnyC.any : ∀ {n : Nat} {listed : Array Bool} {a : Act} {w : World}, wpAnyC P ops Q C n listed a w → wpAny P .any ops Q n listed a w
  | 0, _, _, _, h => h
  | n + 1, _, _, _, h => ⟨h.1, fun i hi => wpOp_mono (fun _ _ q => wpAnyC.any q.2) (h.2 i hi)⟩
theorem wpAnyC.mono (hC : ∀ w, C w → C' w) : ∀ {n : Nat} {listed : Array Bool} {a : Act} {w : World}, wpAnyC P ops Q C n listed a w → wpAnyC P ops Q C' n listed a w
  | 0, _, _, _, h => h
  | n + 1, _, _, _, h => ⟨h.1, fun i hi => wpOp_mono (fun _ _ q => ⟨hC _ q.1, wpAnyC.mono hC q.2⟩) (h.2 i hi)⟩
/-- In every world of the class the operation yields v. -/
def YC (P : Program) (ops : Array Oper) (C : World → Prop) (o : Oper) (v : Value) (a : Act) : Prop :=
  (Region.wanted o (yielded ops a.tmps) = true ∧ ∀ w, C w → (execOp a.eval o).run P w = .ok (.value v) w) ∨ (Region.wanted o (yielded ops a.tmps) = false ∧ v = undef)
theorem YC.wpOp {i : Nat} {o : Oper} {v : Value} {a : Act} (hi : ops[i]? = some o) (hy : YC P ops C o v a) {K : Act → World → Prop} {w : World} (hC : C w) (h : K (a.put o.dst v) w) : wpOp P ops Q i K a w := by
  unfold Go.wpOp
  simp only [hi]
  rcases hy with ⟨hw, hv⟩ | ⟨hw, rfl⟩
  · simp only [hw, if_true, Oper.wp, hv w hC, Oper.upon]; exact .inl h
  · simp only [hw, Bool.false_eq_true, if_false]; exact h
theorem YC.same {o : Oper} {v : Value} {a a' : Act} (hy : YC P ops C o v a) (he : execOp a'.eval o = execOp a.eval o) (hw : Region.wanted o (yielded ops a'.tmps) = Region.wanted o (yielded ops a.tmps)) : YC P ops C o v a' := by
  unfold YC at *; rw [he, hw]; exact hy
theorem wpOp_putC {j : Nat} {oi oj : Oper} {v : Value} (hj : ops[j]? = some oj) (hap : oi.apart ops oj = true) (hsi : ∀ cs b, oi.op ≠ .select cs b) (hsj : ∀ cs b, oj.op ≠ .select cs b) (hp : ∀ c a w, ¬ Q (.panic c) a w)
    {K : Act → World → Prop} {a : Act} {w : World} (hy : YC P ops C oi v a) (h : wpOp P ops Q j K (a.put oi.dst v) w) : wpOp P ops Q j (fun a' w' => YC P ops C oi v a' ∧ K (a'.put oi.dst v) w') a w := by
  obtain ⟨h1, h2, h3⟩ := Oper.apart_spec hap
  have keep : ∀ (a : Act), YC P ops C oi v a → ∀ u, YC P ops C oi v (a.put oj.dst u) := fun a hy u => hy.same (execOp_put oi hsi a oj.dst u h3) (wanted_put oi a oj.dst u h3)
  have keepD : ∀ d, YC P ops C oi v { a with defers := d :: a.defers } := fun d => hy.same rfl rfl
  unfold wpOp at *
  simp only [hj] at *
  rw [wanted_put oj a oi.dst v h1] at h
  split
  · rename_i hw
    simp only [hw, if_true] at h
    rcases h with h | ⟨hasks, hlets⟩
    case inr => exact .inr ⟨by unfold Oper.asks at *; rw [execOp_put oj hsj a oi.dst v h1] at hasks; exact hasks, hlets⟩
    refine .inl ?_
    unfold Oper.wp at *
    rw [execOp_put oj hsj a oi.dst v h1] at h
    generalize (execOp a.eval oj).run P w = r at *
    cases r with
    | ok n w' =>
      cases n <;> simp only [Oper.upon] at h ⊢
      case value u => exact ⟨keep a hy u, by rw [← Act.put_comm a v u h2]; exact h⟩
      case skip => exact ⟨keep a hy _, by rw [← Act.put_comm a v undef h2]; exact h⟩
      case defer d => exact ⟨keep _ (keepD d) _, by rw [← Act.put_comm _ v undef h2, ← Act.put_defers]; exact h⟩
      case enter f args =>
        refine Calls.mono h fun e w'' he => ?_
        cases e with
        | returned u => exact ⟨keep a hy u, by rw [← Act.put_comm a v u h2]; exact he⟩
        | panicked c => exact (hp _ _ _ he).elim
        | outgrown => exact he
      case row row args => exact Rows.mono h fun u w'' he => ⟨keep a hy u, by rw [← Act.put_comm a v u h2]; exact he⟩
    | halt x w' =>
      cases x <;> simp only [Oper.upon] at h ⊢
      case panic u => exact (hp _ _ _ h).elim
  · rename_i hw
    simp only [hw] at h
    exact ⟨keep a hy _, by rw [← Act.put_comm a v undef h2]; exact h⟩
/-- What may come now, and yields the same whenever it comes, may come first. -/
theorem wpAnyC_first {i : Nat} {oi : Oper} {v : Value} (hi : ops[i]? = some oi) (hsel : ∀ (j : Nat) (o : Oper) cs b, ops[j]? = some o → o.op ≠ .select cs b) (hp : ∀ c a w, ¬ Q (.panic c) a w) :
    ∀ (n : Nat) (listed : Array Bool) (a : Act) (w : World), (∀ j oj, ops[j]? = some oj → j ≠ i → listed.getD j true = false → (∀ e ∈ oj.after, Region.binds .any e = true → e.on ≠ i) → oi.apart ops oj = true) →
      i ∈ Region.ready .any ops listed → C w → YC P ops C oi v a → wpAnyC P ops Q C n (listed.setIfInBounds i true) (a.put oi.dst v) w → wpAnyC P ops Q C (n + 1) listed a w := by
  intro n
  induction n with
  | zero =>
    intro listed a w _ hr hC hy H
    refine ⟨fun h => (by rw [h] at hr; cases hr), fun j hj => ?_⟩
    by_cases hji : j = i
    · subst hji; exact hy.wpOp hi hC ⟨hC, H⟩
    · have := ready_mono hj hji
      rw [H.1] at this
      cases this
  | succ n ih =>
    intro listed a w hfree hr hC hy H
    refine ⟨fun h => (by rw [h] at hr; cases hr), fun j hj => ?_⟩
    by_cases hji : j = i
    · subst hji; exact hy.wpOp hi hC ⟨hC, H⟩
    · have h1 := H.2 j (ready_mono hj hji)
      obtain ⟨hjun, oj, hoj, hall⟩ := mem_ready.1 hj
      have hnot : ∀ e ∈ oj.after, Region.binds .any e = true → e.on ≠ i := fun e he hb heq => by
        have h1 := hall e he hb
        have h0 := (mem_ready.1 hr).1
        rw [heq] at h1
        rcases Nat.lt_or_ge i listed.size with h' | h'
        · simp [h'] at h0 h1; rw [h0] at h1; cases h1
        · simp [Array.getElem?_eq_none h'] at h1
      have h2 := wpOp_putC hoj (hfree j oj hoj hji hjun hnot) (fun cs b => hsel i oi cs b hi) (fun cs b => hsel j oj cs b hoj) hp hy h1
      have hfree' : ∀ k ok, ops[k]? = some ok → k ≠ i → (listed.setIfInBounds j true).getD k true = false → (∀ e ∈ ok.after, Region.binds .any e = true → e.on ≠ i) → oi.apart ops ok = true := fun k ok hk hki hun hno => by
        refine hfree k ok hk hki ?_ hno
        by_cases hjk : j = k
        · subst hjk; exact hjun
        · rw [getD_set_ne true hjk] at hun; exact hun
      refine wpOp_mono (fun a' w' h3 => ⟨h3.2.1, ih (listed.setIfInBounds j true) a' w' hfree' (ready_mono hr (Ne.symm hji)) h3.2.1 h3.1 ?_⟩) h2
      rw [Array.setIfInBounds_comm _ _ hji]
      exact h3.2.2
end

theorem Ow.inO (hs : Sat P X O w0 θ st a w) {b : Nat} (h : Ow θ st.h b) : O b ∨ w0.heap.size ≤ b :=
  let ⟨id, ob, l, h1, h2, h3⟩ := h
  (hs.hp.rng id ob l b h1 h2 h3).2.2
/-- A state from here on: what is its own may turn. -/
theorem Sat.base (hs : Sat P X O w0 θ st a w) : Sat P X (Ow θ st.h) w θ st a w :=
  ⟨hs.tm, ⟨hs.hp.ob, hs.hp.inj, fun id ob l b h1 h2 h3 => ⟨(hs.hp.rng id ob l b h1 h2 h3).1, (hs.hp.rng id ob l b h1 h2 h3).2.1, .inl ⟨id, ob, l, h1, h2, h3⟩⟩⟩, hs.fresh, hs.dfr, hs.nts, Kp.refl _ _, fun b hb => Nat.lt_of_lt_of_le (hs.xb b hb) hs.kp.size, hs.gl.call hs.kp (fun _ _ h => .inl h) (fun b hb h => (Ow.inO hs h).resolve_right (by omega))⟩
theorem Sat.unbase {st' : St} {a' : Act} {w' : World} (hs : Sat P X O w0 θ st a w) (h : Sat P X (Ow θ st.h) w θ' st' a' w') : Sat P X O w0 θ' st' a' w' :=
  ⟨h.tm, ⟨h.hp.ob, h.hp.inj, fun id ob l b h1 h2 h3 => by
    obtain ⟨q1, q2, q3⟩ := h.hp.rng id ob l b h1 h2 h3
    refine ⟨q1, q2, ?_⟩
    rcases q3 with q3 | q3
    · exact Ow.inO hs q3
    · exact .inr (Nat.le_trans hs.kp.size q3)⟩, h.fresh, h.dfr, h.nts, hs.kp.trans' h.kp (fun b hb ho => (Ow.inO hs ho).resolve_right (by omega)), hs.xb, hs.gl⟩
theorem Kp.unbase {w' : World} (hs : Sat P X O w0 θ st a w) (h : Kp (Ow θ st.h) w w') : Kp O w0 w' :=
  hs.kp.trans' h (fun b hb ho => (Ow.inO hs ho).resolve_right (by omega))

theorem evSch_sound {tab : Tab} (tk : TabOK P tab) {ops : Array Oper} {Q : Exit → Act → World → Prop} {K : St → Prop} (hsel : Region.noSelect ops = true) (hp : ∀ c a w, ¬ Q (.panic c) a w) :
    ∀ (n : Nat) (s : Sch) (listed : Array Bool) (st : St) (O : Nat → Prop) (w0 : World) (θ : Th) (a : Act) (w : World), (∀ st' θ' a' w', Sub θ0 θ' → Sat P X O w0 θ' st' a' w' → K st' → Q .normal a' w') → okSch ops n listed s = true → Sub θ0 θ → Sat P X O w0 θ st a w → evSch P tab ops.toList K s st →
      wpAnyC P ops Q (Kp O w0) n listed a w := by
  intro n
  induction n with
  | zero =>
    intro s listed st O w0 θ a w hQ hok hsub hs h
    cases s with
    | done =>
      have hr : Region.ready .any ops listed = [] := by unfold okSch at hok; simpa using hok
      exact ⟨hr, hQ st θ a w hsub hs (by simpa only [evSch] using h)⟩
    | mob i r => simp [okSch] at hok
    | alt l => simp [okSch] at hok
  | succ n ih =>
    intro s listed st O w0 θ a w hQ hok hsub hs h
    cases s with
    | done =>
      have hr : Region.ready .any ops listed = [] := by unfold okSch at hok; simpa using hok
      exact ⟨fun _ => hQ st θ a w hsub hs (by simpa only [evSch] using h), fun i hi => by rw [hr] at hi; cases hi⟩
    | mob i r =>
      simp only [okSch, Bool.and_eq_true] at hok
      obtain ⟨⟨h1, h2⟩, h4⟩ := hok
      simp only [evSch] at h
      cases hi : ops[i]? with
      | none => simp [stepMob, nth_eq, hi] at h
      | some o =>
        simp only [stepMob, nth_eq, Array.getElem?_toList, hi] at h
        have hb := hs.base
        have hQ' : ∀ st' θ' a' w', Sub θ0 θ' → Sat P X (Ow θ st.h) w θ' st' a' w' → K st' → Q .normal a' w' := fun st' θ' a' w' q1 q2 q3 => hQ st' θ' a' w' q1 (hs.unbase q2) q3
        refine wpAnyC.mono (C := Kp (Ow θ st.h) w) (fun w' hk => Kp.unbase hs hk) ?_
        rcases grd_sound hs h with ⟨g1, g2⟩ | ⟨g1, g2⟩
        · cases hm : mobOp st o.op with
          | false => simp [hm] at g2
          | true =>
            simp only [hm] at g2
            obtain ⟨v, k1, st', k2, k3⟩ := evOp_mob tk hm hb g2
            exact wpAnyC_first hi (Region.noSelect_spec hsel) hp n listed a w (Region.free_spec hi h2) (by simpa using h1) (Kp.refl _ _) (.inl ⟨g1, k1⟩) (ih r _ st' _ w θ _ w hQ' h4 hsub k2 k3)
        · obtain ⟨st', k2, k3⟩ := putK_postS g2 hb RepT.skip
          exact wpAnyC_first hi (Region.noSelect_spec hsel) hp n listed a w (Region.free_spec hi h2) (by simpa using h1) (Kp.refl _ _) (.inr ⟨g1, rfl⟩) (ih r _ st' _ w θ _ w hQ' h4 hsub k2 k3)
    | alt l =>
      simp only [okSch, Bool.and_eq_true, beq_iff_eq] at hok
      obtain ⟨⟨h3, h1⟩, h2⟩ := hok
      simp only [evSch] at h
      refine ⟨fun h0 => ?_, fun i hi => ?_⟩
      · rw [h1] at h0
        cases l <;> simp at h0 h3
      · rw [h1, List.mem_map] at hi
        obtain ⟨p, hp1, rfl⟩ := hi
        have hst := evAlt_mem h p hp1
        have hok := okAlt_mem h2 p hp1
        unfold wpOp
        unfold stepOp at hst
        rw [nth_eq, Array.getElem?_toList] at hst
        cases ho : ops[p.1]? with
        | none => simp [ho] at hst
        | some o =>
          simp only [ho] at hst ⊢
          rcases grd_sound hs hst with ⟨g1, g2⟩ | ⟨g1, g2⟩
          · rw [if_pos g1]
            refine .inl (evOp_sound tk hs (fun a' w' ⟨st', θ', k1, k2, k3⟩ => ?_) g2)
            exact ⟨k2.kp, ih p.2 _ st' O w0 θ' a' w' hQ hok (hsub.trans k1) k2 k3⟩
          · rw [if_neg (by rw [g1]; simp)]
            obtain ⟨st', k2, k3⟩ := putK_postS g2 hs RepT.skip
            exact ⟨k2.kp, ih p.2 _ st' O w0 θ _ w hQ hok hsub k2 k3⟩

theorem WP.sch {tab : Tab} (tk : TabOK P tab) (hm : P.follows .mixedOrders = true) (s : Sch) {B id : Nat} {ops : Array Oper} {Q : Ex → St → Prop} (hB : (Region.noSelect ops && okSch ops ops.size (Array.replicate ops.size false) s) = true)
    (h : evSch P tab ops.toList (Q .normal) s st) : WP P B (.region id ops true) Q st := fun X O w0 θ a w hs => by
  rw [Bool.and_eq_true] at hB
  refine wp_region_any hm (wpAnyC.any (C := Kp O w0) ?_)
  exact evSch_sound (θ0 := θ) tk hB.1 (fun c a w ⟨e, st', θ', he, _⟩ => by cases e <;> cases he) ops.size s _ st O w0 θ a _ (fun st' θ' a' w' k1 k2 k3 => ⟨.normal, st', θ', rfl, k3, fun id l _ hl => k1 id l hl, k2⟩) hB.2 (Sub.refl θ) (hs.drew _) h
end Go.VL
