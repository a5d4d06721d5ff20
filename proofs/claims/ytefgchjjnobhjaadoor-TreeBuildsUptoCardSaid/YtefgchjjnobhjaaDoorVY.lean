/- Loops and functions. -/
import Derived.Test.YtefgchjjnobhjaaDoorVX2
set_option linter.unusedVariables false
set_option linter.unusedSimpArgs false
namespace Go.VL
open Go Go.RowKit

variable {P : Program} {X O : Nat → Prop} {w0 w w' : World} {θ θ' θ0 : Th} {st : St} {a : Act} {N : Nat → Prop}

/-- Behind a round: again a state of the loop, nearer to the end. -/
def lpQ {α : Type} (B : Nat) (I : α → Prop) (S : α → St) (μ : α → Nat) (x : α) (Q : Ex → St → Prop) : Ex → St → Prop
  | .normal, st => ∃ y, I y ∧ μ y < μ x ∧ into B st (S y)
  | e, st => Q e st

theorem least {p : Nat → Prop} (h : ∃ n, p n) : ∃ n, p n ∧ ∀ m, p m → n ≤ m := by
  obtain ⟨n, hn⟩ := h
  induction n using Nat.strongRecOn with
  | _ n ih =>
    by_cases hm : ∃ m, p m ∧ m < n
    · obtain ⟨m, h1, h2⟩ := hm
      exact ih m h2 h1
    · exact ⟨n, hn, fun m h => Nat.le_of_not_lt fun hlt => hm ⟨m, h, hlt⟩⟩

theorem WP.loop {tab : Tab} (tk : TabOK P tab) {B : Nat} {c : Code} {Q : Ex → St → Prop} {α : Type} (I : α → Prop) (S : α → St) (μ : α → Nat) (x0 : α) (hI : I x0) (h0 : into B st (S x0))
    (round : ∀ x, I x → ev P tab B c (lpQ B I S μ x Q) (S x)) : WP P B (.loop c) Q st := fun X O w0 θ a w hs => by
  let J : Nat → Act → World → Prop := fun n a' w' => ∃ x θ', I x ∧ μ x = n ∧ (∀ id l, id < B → θ id = some l → θ' id = some l) ∧ Sat P X O w0 θ' (S x) a' w'
  obtain ⟨θ1, h1, h2⟩ := hs.into h0
  refine wp_loop (fun a' w' => ∃ n, J n a' w') (fun a' w' => open Classical in if h : ∃ n, J n a' w' then (least h).choose else 0) ⟨μ x0, x0, θ1, hI, rfl, h1, h2⟩ ?_
  rintro a' w' hJ
  obtain ⟨x, θ', k1, k2, k3, k4⟩ := (least hJ).choose_spec.1
  refine wp_mono (ev_sound tk c _ (S x) (round x k1) X O w0 θ' a' w' k4) fun e a2 w2 ⟨e', st', θ2, m1, m2, m3, m4⟩ => ?_
  cases e' with
  | normal =>
    subst m1
    obtain ⟨y, q2, q3, q1⟩ := m2
    obtain ⟨θ3, r1, r2⟩ := m4.into q1
    have hJ2 : J (μ y) a2 w2 := ⟨y, θ3, q2, rfl, fun id l hb hl => r1 id l hb (m3 id l hb (k3 id l hb hl)), r2⟩
    refine ⟨⟨_, hJ2⟩, ?_⟩
    rw [dif_pos ⟨_, hJ2⟩, dif_pos hJ]
    refine Nat.lt_of_le_of_lt ((least ⟨_, hJ2⟩).choose_spec.2 _ hJ2) ?_
    rw [← k2]; exact q3
  | exit id => subst m1; exact ⟨.exit id, st', θ2, rfl, m2, fun id l hb hl => m3 id l hb (k3 id l hb hl), m4⟩
  | ret => subst m1; exact ⟨.ret, st', θ2, rfl, m2, fun id l hb hl => m3 id l hb (k3 id l hb hl), m4⟩

def enumT : Nat → List T → Env
  | _, [] => []
  | i, x :: r => (i, x) :: enumT (i + 1) r
theorem enumT_get {i : Nat} : ∀ {l : List T} {k : Nat}, get (enumT k l) i = if k ≤ i then (match l[i - k]? with | some x => x | none => .dead) else .dead
  | [], k => by simp [enumT, get]
  | x :: r, k => by
    rw [enumT, get_cons, enumT_get (l := r)]
    by_cases hk : k = i
    · subst hk; simp
    · rw [if_neg hk]
      by_cases hk2 : k ≤ i
      · rw [if_pos (by omega), if_pos hk2]
        rw [show i - k = (i - (k + 1)) + 1 by omega, List.getElem?_cons_succ]
      · rw [if_neg (by omega), if_neg hk2]

def evResL (tab : Tab) : List ResultVar → St → (List T → Prop) → Prop
  | [], _, K => K []
  | .tmp t :: r, st, K => evResL tab r st fun xs => K (get st.t t :: xs)
  | .cell a t :: r, st, K => evLoad tab t (get st.t a) st fun x => evResL tab r st fun xs => K (x :: xs)
/-- What is handed back: the value, with the objects that it leads to, under new names. -/
def gcR (B : Nat) (r : T) (st : St) (Q : T → Hp → Prop) : Prop :=
  forceT r fun r => forceL (lowIds B st.h) fun low => addLK low r.ids fun roots => reachK st.h 4 roots fun ids => forceL (newIds B ids) fun new =>
  match closN st.h ids ids, subN r.ids ids with
  | true, true => forceT (r.tr (renF (gcNm B new))) fun r => forceH (subH st.h (gcNm B new) ids) fun h => Q r h
  | _, _ => False
def one : List T → T
  | [x] => x
  | xs => .tup xs
def evRet (tab : Tab) (rs : List ResultVar) (B : Nat) (Q : T → Hp → Prop) : Ex → St → Prop
  | .exit _, _ => False
  | _, st => evResL tab rs st fun xs => gcR B (one xs) st Q

def resOne (tmps : Array Value) : ResultVar → Sem Value
  | .tmp t => pure (tmps.getD t undef)
  | .cell a t => do loadVar t (← asAddr (tmps.getD a undef))
theorem results_eq (fn : Func) (tmps : Array Value) : results fn tmps = (do let vs ← fn.results.mapM (resOne tmps); pure (if h : vs.size = 1 then vs[0] else .tuple vs)) := rfl

theorem evResL_sound {tab : Tab} (tk : TabOK P tab) (hs : Sat P X O w0 θ st a w) : ∀ {rs : List ResultVar} {K : List T → Prop}, evResL tab rs st K →
    ∃ (vs : List Value) (xs : List T), (rs.mapM (m := Sem) (resOne a.tmps)).run P w = .ok vs w ∧ vs.length = xs.length ∧
      (∀ (i : Nat) (x : T), xs[i]? = some x → RepT w (Nn X θ st.h) θ (vs.getD i undef) x) ∧ K xs
  | [], K, h => ⟨[], [], rfl, rfl, by simp, h⟩
  | .tmp t :: r, K, h => by
    obtain ⟨vs, xs, h1, h2, h3, h4⟩ := evResL_sound tk hs (rs := r) h
    refine ⟨a.tmps.getD t undef :: vs, get st.t t :: xs, ?_, by simp [h2], fun i x hx => ?_, h4⟩
    · simp only [List.mapM_cons, resOne, Sem.run_bind, Sem.run_pure, Result.andThen_ok, h1]
    · cases i with
      | zero => simp at hx; subst hx; exact hs.tm t
      | succ i => exact h3 i x (by simpa using hx)
  | .cell b t :: r, K, h => by
    have h : evLoad tab t (get st.t b) st fun x => evResL tab r st fun xs => K (x :: xs) := h
    obtain ⟨u, x, g1, g2, g3⟩ := evLoad_sound tk hs.hp (hs.tm b) h
    obtain ⟨vs, xs, h1, h2, h3, h4⟩ := evResL_sound tk hs (rs := r) g3
    have hv := hs.tm b
    have g1' : (do loadVar t (← asAddr (a.tmps.getD b undef)) : Sem Value).run P w = .ok u w := by
      generalize get st.t b = q at h hv
      generalize a.tmps.getD b undef = v at g1 hv ⊢
      unfold evLoad at h
      split at h
      · cases hv; simpa [Instr.loadAt, Instr.sureAddr, asAddr] using g1
      · cases hv; simpa [Instr.loadAt, Instr.sureAddr, asAddr] using g1
      · exact h.elim
    refine ⟨u :: vs, x :: xs, ?_, by simp [h2], fun i y hy => ?_, h4⟩
    · simp only [List.mapM_cons, resOne, Sem.run_bind] at g1' ⊢
      simp only [g1', Sem.run_pure, Result.andThen_ok, h1]
    · cases i with
      | zero => simp at hy; subst hy; exact g2
      | succ i => exact h3 i y (by simpa using hy)

theorem gcR_sound (hs : Sat P X O w0 θ st a w) {B : Nat} {r : T} {v : Value} {Q : T → Hp → Prop} (hv : RepT w (Nn X θ st.h) θ v r) (h : gcR B r st Q) :
    ∃ r' h' θ', Q r' h' ∧ (∀ id l, id < B → θ id = some l → θ' id = some l) ∧ RepT w (Nn X θ' h') θ' v r' ∧ HpS P X O w0.heap.size θ' h' w := by
  unfold gcR at h
  simp only [forceT_eq, addLK_eq, reachK_eq, forceL_eq, forceH_eq] at h
  rw [show reach st.h 4 (addL (lowIds B st.h) r.ids) = gcIds B r.ids st.h from rfl] at h
  split at h
  case h_2 => exact h.elim
  rename_i h1 h2
  have hcl := closN_spec h1
  have hsb := subN_iff.mp h2
  obtain ⟨k1, k2⟩ := hs.hp.ren (θ' := gcTh θ B (newIds B (gcIds B r.ids st.h))) (fun i hi => gcTh_at hi) hcl
  exact ⟨_, _, _, h, fun id l hid hl => by simp only [gcTh, if_pos hid]; exact hl, k2 hv hsb, k1⟩

theorem CallWP.introW {tab : Tab} (tk : TabOK P tab) {f : Nat} {fn : Func} {c : Code} {nt : Nat} {rs : List ResultVar} {args : List T} {h : Hp} {Q : T → Hp → Prop} (hf : P.funcs[f]? = some fn) (hb : fn.body = some c)
    (hnt : fn.ntmps = nt) (hrs : fn.results.toList = rs) (hev : WP P (bndH h) c (evRet tab rs (bndH h) Q) ⟨enumT 0 args, h, bndH h, args.length + (nt - args.length)⟩) : CallWP P f args h Q := by
  intro X O w θ vs hl hv hp hX hθ hG
  subst hnt; subst hrs
  refine calls_of_wp hf hb ?_
  have hs : Sat P X O w θ ⟨enumT 0 args, h, bndH h, args.length + (fn.ntmps - args.length)⟩ { tmps := vs ++ Array.replicate (fn.ntmps - vs.size) undef, defers := [] } w := by
    refine ⟨fun i => ?_, hp, hθ, rfl, by simp [hl], ⟨rfl, rfl, rfl, Nat.le_refl _, fun _ _ _ => rfl, Szp.refl w⟩, hX, hG⟩
    simp only
    rw [enumT_get, if_pos (Nat.zero_le i)]
    simp only [Nat.sub_zero]
    cases hx : args[i]? with
    | none => exact .dead _
    | some x =>
      have hi : i < vs.size := by rw [hl]; exact (List.getElem?_eq_some_iff.mp hx).1
      have := hv i x hx
      simpa [Array.getD_eq_getD_getElem?, Array.getElem?_append, hi] using this
  have hend : ∀ {st' : St} {θ' : Th} {a' : Act} {w' : World}, (∀ id l, id < bndH h → θ id = some l → θ' id = some l) → Sat P X O w θ' st' a' w' → (evResL tab fn.results.toList st' fun xs => gcR (bndH h) (one xs) st' Q) →
      a'.defers = [] ∧ ∃ v, (results fn a'.tmps).run P w' = .ok v w' ∧ ∃ v' r h' θ', Ending.returned v = .returned v' ∧ Q r h' ∧ (∀ id l, θ id = some l → θ' id = some l) ∧ RepT w' (Nn X θ' h') θ' v' r ∧ HpS P X O w.heap.size θ' h' w' ∧ Kp O w w' := by
    intro st' θ' a' w' hsub hs' hr
    obtain ⟨us, xs, g1, g2, g3, g4⟩ := evResL_sound tk hs' hr
    refine ⟨hs'.dfr, (if h : us.toArray.size = 1 then us.toArray[0] else .tuple us.toArray), ?_, ?_⟩
    · rw [results_eq, Sem.run_bind]
      have : (fn.results.mapM (m := Sem) (resOne a'.tmps)).run P w' = .ok us.toArray w' := by
        rw [Array.mapM_eq_mapM_toList]
        simp only [Sem.run_map, g1]
        rfl
      rw [this]
      rfl
    · have hone : RepT w' (Nn X θ' st'.h) θ' (if h : us.toArray.size = 1 then us.toArray[0] else .tuple us.toArray) (one xs) := by
        match us, xs, g2, g3 with
        | [u], [x], _, g3 => simpa [one] using g3 0 x rfl
        | [], [], _, g3 => exact .tup _ _ rfl (by simp)
        | u1 :: u2 :: us, x1 :: x2 :: xs, g2, g3 =>
          rw [dif_neg (by simp)]
          refine .tup _ _ (by simpa using g2) fun i x hx => ?_
          have := g3 i x hx
          simpa [Array.getD_eq_getD_getElem?, List.getD] using this
      obtain ⟨r', h', θ2, q1, q2, q3, q4⟩ := gcR_sound hs' hone g4
      refine ⟨_, r', h', θ2, rfl, q1, fun id l hl => ?_, q3, q4, hs'.kp⟩
      have hlt : id < bndH h := Nat.lt_of_not_le fun hle => by rw [hθ id hle] at hl; cases hl
      exact q2 id l hlt (hsub id l hlt hl)
  refine wp_mono (hev X O w θ _ w hs) fun e a' w' ⟨e', st', θ', m1, m2, m3, m4⟩ => ?_
  subst m1
  cases e' with
  | normal => exact hend m3 m4 m2
  | exit id => exact m2.elim
  | ret => exact hend m3 m4 m2

theorem CallWP.intro {tab : Tab} (tk : TabOK P tab) {f : Nat} {fn : Func} {c : Code} {nt : Nat} {rs : List ResultVar} {args : List T} {h : Hp} {Q : T → Hp → Prop} (hf : P.funcs[f]? = some fn) (hb : fn.body = some c)
    (hnt : fn.ntmps = nt) (hrs : fn.results.toList = rs) (hev : ev P tab (bndH h) c (evRet tab rs (bndH h) Q) ⟨enumT 0 args, h, bndH h, args.length + (nt - args.length)⟩) : CallWP P f args h Q :=
  CallWP.introW tk hf hb hnt hrs (ev_sound tk c _ _ hev)

theorem CallWP.start {tab : Tab} (tk : TabOK P tab) {f : Nat} {fn : Func} {c : Code} {rs : List ResultVar} {args : List T} {h : Hp} {Q : T → Hp → Prop} (hf : P.funcs[f]? = some fn) (B nt : Nat) (env : Env) (hb : fn.body = some c)
    (hrs : fn.results.toList = rs) (he : enumT 0 args = env) (hB : bndH h = B) (hnt : args.length + (fn.ntmps - args.length) = nt) (hev : ev P tab B c (evRet tab rs B Q) ⟨env, h, B, nt⟩) : CallWP P f args h Q := by
  subst hB; subst hnt; subst he
  exact CallWP.intro tk hf hb rfl hrs hev

theorem CallWP.mono {f : Nat} {args : List T} {h : Hp} {Q Q' : T → Hp → Prop} (hc : CallWP P f args h Q) (hq : ∀ r h, Q r h → Q' r h) : CallWP P f args h Q' := fun X O w θ vs h1 h2 h3 h4 h5 h6 =>
  (hc X O w θ vs h1 h2 h3 h4 h5 h6).mono fun _ _ ⟨v, r, h', θ', k1, k2, k3⟩ => ⟨v, r, h', θ', k1, hq _ _ k2, k3⟩
/-- What is handed back, told by value. -/
theorem CallWP.val {f : Nat} {args : List T} {h : Hp} {Q Q' : T → Hp → Prop} (hc : CallWP P f args h Q) (hq : ∀ r h, Q r h → Q' (r.tr (valF h)) (remL h r.rws)) : CallWP P f args h Q' := fun X O w θ vs h1 h2 h3 h4 h5 h6 =>
  (hc X O w θ vs h1 h2 h3 h4 h5 h6).mono fun _ _ ⟨v, r, h', θ', k1, k2, k3, k4, k5, k6⟩ => ⟨v, _, _, θ', k1, hq r h' k2, k3, k4.byval k5 (fun _ hi => hi), k5.remL, k6⟩
end Go.VL
