/- A function's proof begins with some of its objects under new names (those that it will replace). -/
import Derived.Test.YtefgchjjnobhjaaDoorVNc
set_option linter.unusedVariables false
set_option linter.unusedSimpArgs false
namespace Go.VL
open Go Go.RowKit

variable {P : Program} {X O : Nat → Prop} {w0 w w' : World} {θ θ' θ0 : Th} {st : St} {a : Act} {N : Nat → Prop}

def keysH : Hp → List Nat
  | [] => []
  | (i, _) :: r => i :: keysH r
def mvN (i n k : Nat) : Nat := match Nat.beq i k with | true => n | false => k
def mapE (ρ : Nat → Nat) : Env → Env
  | [] => []
  | (i, x) :: r => (i, x.tr (renF ρ)) :: mapE ρ r
def idsE : Env → List Nat
  | [] => []
  | (_, x) :: r => x.ids ++ idsE r
def mvS (i : Nat) (K : St → Prop) : St → Prop
  | ⟨t, h, n, nt⟩ => match closN h (keysH h) (keysH h), subN (idsE t) (keysH h), memN (keysH h) i with
    | true, true, true => forceS ⟨mapE (mvN i n) t, subH h (mvN i n) (keysH h), n + 1, nt⟩ K
    | _, _, _ => False
def mvL : List Nat → (St → Prop) → St → Prop
  | [], K, st => K st
  | i :: r, K, st => mvS i (mvL r K) st

theorem get_mapE {ρ : Nat → Nat} : ∀ {e : Env} {i : Nat}, get (mapE ρ e) i = (get e i).tr (renF ρ)
  | [], i => by simp [mapE, get, T.tr, renF]
  | (k, x) :: r, i => by
    rw [mapE, get_cons, get_cons]
    by_cases hk : k = i
    · simp [hk]
    · rw [if_neg hk, if_neg hk]; exact get_mapE
theorem idsE_get : ∀ {e : Env} {i : Nat}, ∀ k ∈ (get e i).ids, k ∈ idsE e
  | [], i, k, h => by simp [get, T.ids] at h
  | (j, x) :: r, i, k, h => by
    rw [get_cons] at h
    rw [idsE, List.mem_append]
    by_cases hj : j = i
    · rw [if_pos hj] at h; exact .inl h
    · rw [if_neg hj] at h; exact .inr (idsE_get k h)
theorem keysH_look {h : Hp} {i : Nat} {o : Ob} (hl : look h i = some o) : i ∈ keysH h := by
  induction h with
  | nil => simp [look] at hl
  | cons p r ih =>
    obtain ⟨k, x⟩ := p
    rw [look_cons] at hl
    by_cases hk : k = i
    · simp [keysH, hk]
    · rw [if_neg hk] at hl; simp [keysH, ih hl]

theorem mvS_sound {i B : Nat} {K : St → Prop} (hs : Sat P X O w0 θ st a w) (hB : B ≤ st.n) (h : mvS i K st) : ∃ st' θ', (∀ id l, id < B → θ id = some l → θ' id = some l) ∧ B ≤ st'.n ∧ Sat P X O w0 θ' st' a w ∧ K st' := by
  obtain ⟨t, hp, n, nt⟩ := st
  unfold mvS at h
  simp only at h
  split at h
  case h_2 => exact h.elim
  rename_i h1 h2 h3
  rw [forceS_eq] at h
  have hcl := closN_spec h1
  have hsb := subN_iff.mp h2
  have hmem := memN_iff.mp h3
  have hfresh := hs.fresh
  obtain ⟨oi, hoi, _⟩ := hcl i hmem
  obtain ⟨li, hli, _⟩ := hs.hp.ob i oi hoi
  have hin : ∀ k ∈ keysH hp, k ≠ n := fun k hk e => by
    obtain ⟨ok, hok, _⟩ := hcl k hk
    obtain ⟨lk, hlk, _⟩ := hs.hp.ob k ok hok
    have := hfresh k (by simp [e])
    rw [hlk] at this; cases this
  have hmv : ∀ k ∈ keysH hp, (θ.set n li) (mvN i n k) = θ k := fun k hk => by
    unfold mvN
    cases hb : Nat.beq i k with
    | true =>
      have := Nat.eq_of_beq_eq_true hb
      subst this
      simp only [Th.set_self]; exact hli.symm
    | false =>
      simp [Th.set, hin k hk]
  obtain ⟨k1, k2⟩ := hs.hp.ren (θ' := θ.set n li) (ρ := mvN i n) (l := keysH hp) hmv hcl
  refine ⟨⟨mapE (mvN i n) t, subH hp (mvN i n) (keysH hp), n + 1, nt⟩, θ.set n li, fun id l hid hl => ?_, ?_, ⟨fun j => ?_, k1, fun id hid => ?_, hs.dfr, hs.nts, hs.kp, hs.xb, hs.gl⟩, h⟩
  · have : id ≠ n := by simp only at hB; omega
    simp [Th.set, this, hl]
  · simp only at hB ⊢; omega
  · simp only
    rw [get_mapE]
    exact k2 (hs.tm j) (fun k hk => hsb k (idsE_get k hk))
  · simp only at hid
    have : id ≠ n := by omega
    simp only [Th.set, this, if_false]
    exact hfresh id (by simp only; omega)

theorem mvL_sound {B : Nat} : ∀ {l : List Nat} {K : St → Prop} {st : St} {θ : Th}, Sat P X O w0 θ st a w → B ≤ st.n → mvL l K st → ∃ st' θ', (∀ id l, id < B → θ id = some l → θ' id = some l) ∧ Sat P X O w0 θ' st' a w ∧ K st'
  | [], K, st, θ, hs, hB, h => ⟨st, θ, fun _ _ _ hl => hl, hs, h⟩
  | i :: r, K, st, θ, hs, hB, h => by
    obtain ⟨st1, θ1, h1, h2, h3, h4⟩ := mvS_sound hs hB h
    obtain ⟨st2, θ2, k1, k2, k3⟩ := mvL_sound h3 h2 h4
    exact ⟨st2, θ2, fun id l hid hl => k1 id l hid (h1 id l hid hl), k2, k3⟩

theorem WP.mv {B : Nat} {c : Code} {Q : Ex → St → Prop} {tab : Tab} (tk : TabOK P tab) (l : List Nat) (hB : B ≤ st.n) (h : mvL l (fun st => ev P tab B c Q st) st) : WP P B c Q st := fun X O w0 θ a w hs => by
  obtain ⟨st', θ', h1, h2, h3⟩ := mvL_sound hs hB h
  exact wp_mono (ev_sound tk c Q st' h3 X O w0 θ' a w h2) fun e a' w' ⟨e', st2, θ2, k1, k2, k3, k4⟩ => ⟨e', st2, θ2, k1, k2, fun id l hid hl => k3 id l hid (h1 id l hid hl), k4⟩

/-- The proof of a function begins; the objects l get new names. -/
theorem CallWP.goM {tab : Tab} (tk : TabOK P tab) (l : List Nat) {f : Nat} {fn : Func} {c : Code} {rs : List ResultVar} {args : List T} {h : Hp} {Q : T → Hp → Prop} (hf : P.funcs[f]? = some fn) (B nt : Nat) (hb : fn.body = some c)
    (hrs : fn.results.toList = rs) (hB : bndH h = B) (hnt : args.length + (fn.ntmps - args.length) = nt) (hev : forceS ⟨enumT 0 args, h, B, nt⟩ fun st => mvL l (fun st => ev P tab B c (evRet tab rs B Q) st) st) : CallWP P f args h Q := by
  rw [forceS_eq] at hev
  subst hB; subst hnt
  exact CallWP.introW tk hf hb rfl hrs (WP.mv tk l (Nat.le_refl _) hev)
end Go.VL
