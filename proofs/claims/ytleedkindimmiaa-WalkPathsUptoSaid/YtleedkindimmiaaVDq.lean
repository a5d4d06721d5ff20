/- Regions that draw their order, of any operations: every order, but for operations that need no world, which are taken as soon as they may be. -/
import Derived.Test.YtleedkindimmiaaVDr
set_option linter.unusedVariables false
set_option linter.unusedSimpArgs false
namespace Go.VL
open Go Go.RowKit

variable {P : Program} {X O : Nat → Prop} {w0 w w' : World} {θ θ' θ0 : Th} {st : St} {a : Act} {N : Nat → Prop}

/-- A piece of meaning that needs no world, wherever it comes to an end. -/
inductive WL (P : Program) : {α : Type} → Sem α → Prop where
  | pure {α : Type} (x : α) : WL P (Sem.pure x)
  | program {α : Type} (k : Program → Sem α) (h : ∀ p, WL P (k p)) : WL P (Sem.program k)
  | bad {α : Type} {s : Sem α} (h : ∀ w v w1, s.run P w ≠ .ok v w1) : WL P s

theorem WL.bind {α β : Type} {s : Sem α} {f : α → Sem β} (hs : WL P s) (hf : ∀ x, WL P (f x)) : WL P (s >>= f) := by
  induction hs with
  | pure x => exact hf x
  | program k h ih => exact .program _ fun p => ih p
  | bad h =>
    refine .bad fun w v w1 hr => ?_
    rename_i s
    rw [Sem.run_bind] at hr
    cases hq : s.run P w with
    | ok r w2 => exact h w r w2 hq
    | halt x w2 => rw [hq] at hr; cases hr

theorem WL.run {α : Type} {s : Sem α} {v : α} {w1 : World} (h : WL P s) (hr : s.run P w = .ok v w1) (w' : World) : s.run P w' = .ok v w' := by
  induction h with
  | pure x => simp only [Sem.run] at hr ⊢; cases hr; rfl
  | program k h ih => simp only [Sem.run] at hr ⊢; exact ih P hr
  | bad h => exact (h _ _ _ hr).elim

theorem WL.pure' {α : Type} (x : α) : WL P (Pure.pure x : Sem α) := .pure x
theorem WL.halt {α : Type} (x : Halt) : WL P (Sem.halt x : Sem α) := .bad fun w v w1 h => by simp [Sem.run] at h
theorem WL.stuck {α : Type} (m : String) : WL P (Go.stuck m : Sem α) := .halt _
theorem WL.prog : WL P Go.program := .program _ fun p => .pure p
theorem WL.underlying (t : TypeId) : WL P (Go.underlying t) := WL.bind .prog fun p => by split <;> first | exact .pure _ | exact .halt _
theorem WL.typeInfo (t : TypeId) : WL P (Go.typeInfo t) := WL.bind .prog fun p => by split <;> first | exact .pure _ | exact .halt _
theorem WL.sizeOf (t : TypeId) : WL P (Go.sizeOf t) := WL.bind (.typeInfo t) fun p => .pure _
theorem WL.asIntOf (v : Value) : WL P (Go.asIntOf v) := by unfold Go.asIntOf; split <;> first | exact .pure _ | exact .halt _
theorem WL.sureAddr (v : Value) : WL P (Instr.sureAddr v) := by unfold Instr.sureAddr; split <;> first | exact .pure _ | exact .halt _
def NoOk (P : Program) {α : Type} (s : Sem α) : Prop := ∀ w v w1, s.run P w ≠ .ok v w1
theorem NoOk.bind {α β : Type} {s : Sem α} {f : α → Sem β} (hf : ∀ x, NoOk P (f x)) : NoOk P (s >>= f) := fun w v w1 hr => by
  rw [Sem.run_bind] at hr
  cases hq : s.run P w with
  | ok r w2 => rw [hq] at hr; exact hf r w2 v w1 hr
  | halt x w2 => rw [hq] at hr; cases hr
theorem NoOk.halt {α : Type} (x : Halt) : NoOk P (Sem.halt x : Sem α) := fun w v w1 h => by simp [Sem.run] at h
theorem WL.boundsPanic {α : Type} (k : IntKind) (x y : Int) (c : BoundsCode) : WL P (Go.boundsPanic k x y c : Sem α) := by
  refine .bad ?_
  have key : ∀ s : Bool, NoOk P (Go.runtimePanic (.bounds (IntKind.i64.wrap x) y s c) : Sem α) := fun s => by
    unfold Go.runtimePanic
    exact NoOk.bind fun p => NoOk.halt _
  unfold Go.boundsPanic
  simp only
  split
  · exact NoOk.bind fun s => key s
  · exact NoOk.bind fun s => key s
theorem WL.indexAt (t : TypeId) (x i : Value) : WL P (Instr.indexAt t x i) := by
  unfold Instr.indexAt
  refine WL.bind (.asIntOf _) fun ki => WL.bind (.underlying _) fun d => ?_
  have key : ∀ q : Option Addr × Nat × TypeId, WL P (match q with
    | (base, len, elem) => do
      let __do_lift ← Go.underlying t
      have tiny : Bool := decide (len ≤ 1) && match __do_lift with | TypeDesc.array len elem => true | x => false
      match base with
      | some a =>
            if 0 ≤ ki.snd ∧ ki.snd < ↑len then do
              let __do_lift ← Go.sizeOf elem
              Pure.pure (Value.pointer (some (a.add (ki.snd.toNat * __do_lift))))
            else
              if tiny = true then
                unsupported
                  (Unsupported.noEntry "op/indexAddr.an index out of range at an array of length 0 or 1 (ledger 616)")
              else Go.boundsPanic ki.fst ki.snd (↑len) BoundsCode.index
      | none => Go.boundsPanic ki.fst ki.snd 0 BoundsCode.index) := fun q => by
    refine WL.bind (.underlying _) fun d2 => ?_
    simp only
    split
    · split
      · exact WL.bind (.sizeOf _) fun _ => .pure _
      · split
        · split <;> first | exact .halt _ | exact .boundsPanic _ _ _ _
        · split <;> first | exact .halt _ | exact .boundsPanic _ _ _ _
    · exact .boundsPanic _ _ _ _
  split
  · exact WL.bind (.sureAddr _) fun _ => WL.bind (.pure _) key
  · exact WL.bind (.pure _) key
  · exact .halt _
theorem WL.extract (t : Value) (i : Nat) : WL P (Instr.extract t i) := by
  unfold Instr.extract
  split
  · split <;> first | exact .pure _ | exact .halt _
  · exact .halt _
theorem evFieldAddr_wl {tab : Tab} (tk : TabOK P tab) {s f : Nat} {v : Value} {x : T} {K : T → Prop} (hv : RepT w N θ v x) (h : evFieldAddr tab s x f K) :
    ∃ u r, (∀ w', (Instr.fieldAt s v f).run P w' = .ok u w') ∧ RepT w N θ u r ∧ K r := by
  unfold evFieldAddr at h
  cases ht : tab.ty s with
  | none => simp [ht] at h
  | some i =>
    simp only [ht] at h
    cases hk : i.k <;> simp only [hk] at h <;> try exact h.elim
    rename_i fs
    obtain ⟨fields, f1, f2⟩ := tab.struct_of tk ht hk
    cases hf : nth fs f with
    | none => simp [hf] at h
    | some p =>
      obtain ⟨o, ft⟩ := p
      simp only [hf] at h
      obtain ⟨g, g1, g2, g3⟩ := f2 f o ft hf
      cases hj : tab.ty ft with
      | none => simp [hj] at h
      | some j =>
        simp only [hj] at h
        obtain ⟨info, d, i1, i2, i3, i4, _⟩ := tk.ty ft j hj
        cases hz : Nat.beq j.size 0 with
        | true => simp [hz] at h
        | false =>
          simp only [hz] at h
          have hz' : ¬ info.size = 0 := fun e => by rw [i4] at e; rw [e] at hz; simp at hz
          have hrun : ∀ (ad : Addr) (w : World), (Instr.fieldAt s (.pointer (some ad)) f).run P w = .ok (.pointer (some (ad.add o))) w := by
            intro ad w
            rw [← g3] at i1
            simp only [Instr.fieldAt, Sem.run_bind, run_underlying' f1, Result.andThen_ok, g1, Instr.sureAddr, Sem.run_pure, fieldPlace, run_sizeOf i1, hz', if_false, g2]
          split at h
          · cases hv with
            | ref id i' o' l hθ b hb =>
              refine ⟨_, _, hrun _, ?_, h⟩
              rw [add_off, Nat.add_assoc]
              exact .ref _ _ _ l hθ b hb
          · rename_i cs
            cases hv with
            | cref ad _ c hb hc hr =>
              refine ⟨_, _, hrun _, ?_, h⟩
              rw [dropN_eq]
              by_cases hne : cs = []
              · subst hne
                simp only [List.drop_nil]
                exact .cref _ [] c (fun hh => absurd rfl hh) (fun j x hx => by simp at hx) (fun j x hx => by simp at hx)
              · obtain ⟨b1, b2, b3⟩ := hb hne
                rw [add_off' b1]
                refine .cref _ _ (fun j => c (o + j)) (fun _ => ⟨rfl, b2, b3⟩) (fun j x hx => ?_) (fun j x hx => ?_)
                · rw [List.getElem?_drop] at hx
                  simp only [Nat.add_assoc]
                  exact hc _ x hx
                · rw [List.getElem?_drop] at hx
                  exact hr _ x hx
          · exact h.elim

/-- Operations that need no world. -/
def mobOp : Op → Bool
  | .move _ | .assign _ | .fieldAddr _ _ _ | .indexAddr _ _ _ | .extract _ _ => true
  | _ => false

theorem evOp_mob {tab : Tab} (tk : TabOK P tab) {o : Oper} {K : St → Prop} (hq : mobOp o.op = true) (hs : Sat P X O w0 θ st a w) (h : evOp P tab o K st) :
    ∃ v, (∀ w', (execOp a.eval o).run P w' = .ok (.value v) w') ∧ PostS P X O w0 θ K w (a.put o.dst v) := by
  have wrap : ∀ {s : Sem Value} {v : Value}, (∀ w', s.run P w' = .ok v w') → ∀ w', ((do pure (.value (← s)) : Sem Next)).run P w' = .ok (.value v) w' := fun hr w' => by
    simp only [Sem.run_bind, hr, Result.andThen_ok, Sem.run_pure]
  unfold evOp at h
  unfold execOp
  obtain ⟨dst, op, type, pos, after, guard⟩ := o
  simp only at h hq ⊢
  cases op with
  | move x => exact ⟨_, fun w' => rfl, putK_postS h hs (hs.val x)⟩
  | assign x => exact ⟨_, fun w' => rfl, putK_postS h hs (hs.val x)⟩
  | fieldAddr s x f =>
    obtain ⟨u, r, h1, h2, h3⟩ := evFieldAddr_wl tk (hs.val x) h
    exact ⟨u, wrap h1, putK_postS h3 hs h2⟩
  | indexAddr t x i =>
    simp only at h
    cases ht : tab.ty t with
    | none => simp [ht] at h
    | some ti =>
      simp only [ht] at h
      split at h
      case h_2 => exact h.elim
      rename_i e hk
      obtain ⟨u, r, h1, h2, h3⟩ := evIndex_sound tk hs.hp ht hk (hs.val x) (hs.val i) h
      exact ⟨u, wrap (WL.run (.indexAt _ _ _) h1), putK_postS h3 hs h2⟩
  | extract x i =>
    simp only at h ⊢
    split at h
    case h_2 => exact h.elim
    rename_i l hx
    rw [nth_eq] at h
    cases hi : l[i]? with
    | none => simp [hi] at h
    | some r =>
      simp only [hi] at h
      have hv := hs.val x
      rw [hx] at hv
      generalize a.eval x = v at hv ⊢
      cases hv with
      | tup vs _ hl hc =>
        have hr := hc i r hi
        have hlt : i < vs.size := by rw [hl]; exact (List.getElem?_eq_some_iff.mp hi).1
        have hg : vs[i]? = some (vs.getD i undef) := by simp [Array.getD_eq_getD_getElem?, hlt]
        exact ⟨_, wrap (fun w' => by simp only [Instr.extract, hg, Sem.run_pure]), putK_postS h hs hr⟩
  | _ => simp [mobOp] at hq

/-- One order, and the others. -/
def Both (A B : Prop) : Prop := A ∧ B
/-- In which order: an operation that is taken as soon as it may be, or whichever of those that may come up. -/
inductive Sch where
  | done
  | mob (i : Nat) (r : Sch)
  | alt (l : List (Nat × Sch))

def stepOp (P : Program) (tab : Tab) (ops : List Oper) (i : Nat) (K : St → Prop) (st : St) : Prop := match nth ops i with
  | some o => grd ops st o (evOp P tab o K st) (putK o.dst .dead K st)
  | none => False
mutual
def evSch (P : Program) (tab : Tab) (ops : List Oper) (K : St → Prop) : Sch → St → Prop
  | .done, st => K st
  | .mob i r, st => stepOp P tab ops i (evSch P tab ops K r) st
  | .alt l, st => evAlt P tab ops K l st
def evAlt (P : Program) (tab : Tab) (ops : List Oper) (K : St → Prop) : List (Nat × Sch) → St → Prop
  | [], _ => True
  | [(i, r)], st => stepOp P tab ops i (evSch P tab ops K r) st
  | (i, r) :: l, st => Both (stepOp P tab ops i (evSch P tab ops K r) st) (evAlt P tab ops K l st)
end
mutual
def okSch (ops : Array Oper) : Nat → Array Bool → Sch → Bool
  | _, listed, .done => (Region.ready .any ops listed).isEmpty
  | n + 1, listed, .mob i r => (Region.ready .any ops listed).contains i && Region.free .any ops listed i && (match ops[i]? with | some o => mobOp o.op | none => false) && okSch ops n (listed.setIfInBounds i true) r
  | n + 1, listed, .alt l => !l.isEmpty && (Region.ready .any ops listed == l.map (·.1)) && okAlt ops n listed l
  | 0, _, _ => false
def okAlt (ops : Array Oper) : Nat → Array Bool → List (Nat × Sch) → Bool
  | _, _, [] => true
  | n, listed, (i, r) :: l => okSch ops n (listed.setIfInBounds i true) r && okAlt ops n listed l
end

theorem evAlt_mem {tab : Tab} {ops : List Oper} {K : St → Prop} : ∀ {l : List (Nat × Sch)}, evAlt P tab ops K l st → ∀ p ∈ l, stepOp P tab ops p.1 (evSch P tab ops K p.2) st
  | [], _, p, hp => by simp at hp
  | [(i, r)], h, p, hp => by
    simp only [List.mem_singleton] at hp
    subst hp
    simpa only [evAlt] using h
  | (i, r) :: q :: l, h, p, hp => by
    simp only [evAlt] at h
    rcases List.mem_cons.mp hp with rfl | hp
    · exact h.1
    · exact evAlt_mem (l := q :: l) h.2 p hp
theorem okAlt_mem {ops : Array Oper} {n : Nat} {listed : Array Bool} : ∀ {l : List (Nat × Sch)}, okAlt ops n listed l = true → ∀ p ∈ l, okSch ops n (listed.setIfInBounds p.1 true) p.2 = true
  | [], _, p, hp => by simp at hp
  | (i, r) :: l, h, p, hp => by
    simp only [okAlt, Bool.and_eq_true] at h
    rcases List.mem_cons.mp hp with rfl | hp
    · exact h.1
    · exact okAlt_mem h.2 p hp

theorem evSch_sound {tab : Tab} (tk : TabOK P tab) {ops : Array Oper} {Q : Exit → Act → World → Prop} {K : St → Prop} (hsel : Region.noSelect ops = true) (hp : ∀ c a w, ¬ Q (.panic c) a w) (hQ : ∀ st θ' a w, Sub θ0 θ' → Sat P X O w0 θ' st a w → K st → Q .normal a w) :
    ∀ (n : Nat) (s : Sch) (listed : Array Bool) (st : St) (θ : Th) (a : Act) (w : World), okSch ops n listed s = true → Sub θ0 θ → Sat P X O w0 θ st a w → evSch P tab ops.toList K s st → wpAny P .any ops Q n listed a w := by
  intro n
  induction n with
  | zero =>
    intro s listed st θ a w hok hsub hs h
    cases s with
    | done =>
      have hr : Region.ready .any ops listed = [] := by unfold okSch at hok; simpa using hok
      exact ⟨hr, hQ st θ a w hsub hs (by simpa only [evSch] using h)⟩
    | mob i r => simp [okSch] at hok
    | alt l => simp [okSch] at hok
  | succ n ih =>
    intro s listed st θ a w hok hsub hs h
    cases s with
    | done =>
      have hr : Region.ready .any ops listed = [] := by unfold okSch at hok; simpa using hok
      exact ⟨fun _ => hQ st θ a w hsub hs (by simpa only [evSch] using h), fun i hi => by rw [hr] at hi; cases hi⟩
    | mob i r =>
      simp only [okSch, Bool.and_eq_true] at hok
      obtain ⟨⟨⟨h1, h2⟩, h3⟩, h4⟩ := hok
      cases hi : ops[i]? with
      | none => simp [hi] at h3
      | some o =>
        simp only [hi] at h3
        simp only [evSch, stepOp, nth_eq, Array.getElem?_toList, hi] at h
        rcases grd_sound hs h with ⟨g1, g2⟩ | ⟨g1, g2⟩
        · obtain ⟨v, k1, st', k2, k3⟩ := evOp_mob tk h3 hs g2
          exact wpAny_take hi hsel h2 h1 (fun c a w hq => (hp _ _ _ hq).elim) (.inl ⟨g1, k1⟩) (ih r _ st' θ _ w h4 hsub k2 k3)
        · obtain ⟨st', k2, k3⟩ := putK_postS g2 hs (.dead undef)
          exact wpAny_take hi hsel h2 h1 (fun c a w hq => (hp _ _ _ hq).elim) (.inr ⟨g1, rfl⟩) (ih r _ st' θ _ w h4 hsub k2 k3)
    | alt l =>
      simp only [okSch, Bool.and_eq_true, beq_iff_eq] at hok
      obtain ⟨⟨h3, h1⟩, h2⟩ := hok
      simp only [evSch] at h
      refine ⟨fun h0 => ?_, fun i hi => ?_⟩
      · rw [h1] at h0
        cases l <;> simp at h0 h3
      · rw [h1, List.mem_map] at hi
        obtain ⟨p, hp1, rfl⟩ := hi
        have hst := evAlt_mem h p hp1
        have hok := okAlt_mem h2 p hp1
        unfold wpOp
        unfold stepOp at hst
        rw [nth_eq, Array.getElem?_toList] at hst
        cases ho : ops[p.1]? with
        | none => simp [ho] at hst
        | some o =>
          simp only [ho] at hst ⊢
          rcases grd_sound hs hst with ⟨g1, g2⟩ | ⟨g1, g2⟩
          · rw [if_pos g1]
            refine .inl (evOp_sound tk hs (fun a' w' ⟨st', θ', k1, k2, k3⟩ => ?_) g2)
            exact ih p.2 _ st' θ' a' w' hok (hsub.trans k1) k2 k3
          · rw [if_neg (by rw [g1]; simp)]
            obtain ⟨st', k2, k3⟩ := putK_postS g2 hs (.dead undef)
            exact ih p.2 _ st' θ _ w hok hsub k2 k3

theorem WP.sch {tab : Tab} (tk : TabOK P tab) (hm : P.follows .mixedOrders = true) (s : Sch) {B id : Nat} {ops : Array Oper} {Q : Ex → St → Prop} (hB : (Region.noSelect ops && okSch ops ops.size (Array.replicate ops.size false) s) = true)
    (h : evSch P tab ops.toList (Q .normal) s st) : WP P B (.region id ops true) Q st := fun X O w0 θ a w hs => by
  rw [Bool.and_eq_true] at hB
  refine wp_region_any hm ?_
  exact evSch_sound (θ0 := θ) tk hB.1 (fun c a w ⟨e, st', θ', he, _⟩ => by cases e <;> cases he) (fun st' θ' a' w' k1 k2 k3 => ⟨.normal, st', θ', rfl, k3, fun id l _ hl => k1 id l hl, k2⟩) ops.size s _ st θ a _ hB.2 (Sub.refl θ) (hs.drew _) h
end Go.VL
