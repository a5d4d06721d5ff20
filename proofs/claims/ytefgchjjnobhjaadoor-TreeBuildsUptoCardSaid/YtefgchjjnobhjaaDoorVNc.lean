/- A nil slice in a variable is as good as an empty row of its own. -/
import Derived.Test.YtefgchjjnobhjaaDoorVAu
import Derived.Test.YtefgchjjnobhjaaDoorVX
set_option linter.unusedVariables false
set_option linter.unusedSimpArgs false
namespace Go.VL
open Go Go.RowKit

variable {P : Program} {X O : Nat → Prop} {w0 w w' : World} {θ θ' θ0 : Th} {st : St} {a : Act} {N : Nat → Prop}

theorem RepT.nils_full {v : Value} {e n : Nat} (h : RepT w N θ v .nils) (hθ : θ n = some ⟨none, 0, P.cellsOf e, 0⟩) : RepT w N θ v (.full n) := by
  cases h; exact .full0 n _ hθ rfl

theorem look_snoc {h : Hp} {n i : Nat} {o : Ob} (hn : look h n = none) : look (h ++ [(n, o)]) i = if n = i then some o else look h i := by
  induction h with
  | nil =>
    show look [(n, o)] i = _
    rw [look_cons]
  | cons p r ih =>
    obtain ⟨k, x⟩ := p
    rw [look_cons] at hn
    split at hn
    · cases hn
    · rename_i hk
      show look ((k, x) :: (r ++ [(n, o)])) i = _
      rw [look_cons, ih hn, look_cons]
      by_cases h1 : n = i
      · subst h1; simp [hk]
      · simp [h1]

theorem look_free {h : Hp} {n : Nat} (hn : bndH h ≤ n) : look h n = none := by
  cases hl : look h n with
  | none => rfl
  | some o => have := (bndH_lt hl).1; omega

theorem CallWP.nilCell {f : Nat} {args : List T} {h : Hp} {Q : T → Hp → Prop} (e i j : Nat) {t : Nat} {cs : List T} (hl : look h i = some (.var t cs)) (hc : cs[j]? = some .nils)
    (hq : CallWP P f args (upd h i (.var t (cs.set j (.full (bndH h)))) ++ [(bndH h, .row e [])]) Q) (hb : bndH (upd h i (.var t (cs.set j (.full (bndH h)))) ++ [(bndH h, .row e [])]) = bndH h + 1) : CallWP P f args h Q := by
  intro X O w θ vs h1 h2 h3 h4 h5 hG
  generalize hn : bndH h = n at *
  have hfree := h5 n (Nat.le_refl _)
  have hlk : look h n = none := look_free (by omega)
  have hin : i ≠ n := fun e => by rw [e, hlk] at hl; cases hl
  have hsub := Th.set_sub (l := ⟨none, 0, P.cellsOf e, 0⟩) hfree
  have hlu : look (upd h i (.var t (cs.set j (.full n)))) n = none := by
    rw [look_upd, if_neg hin, hlk]
  have hlook : ∀ k, look (upd h i (.var t (cs.set j (.full n))) ++ [(n, .row e [])]) k = if n = k then some (.row e []) else if i = k then some (.var t (cs.set j (.full n))) else look h k := fun k => by
    rw [look_snoc hlu, look_upd]
    by_cases hk : n = k
    · simp [hk]
    · rw [if_neg hk, if_neg hk]
      by_cases hik : i = k
      · subst hik; rw [if_pos rfl, if_pos rfl, hl]; rfl
      · rw [if_neg hik, if_neg hik]
  have hset : ∀ {id l'}, id ≠ n → (θ.set n ⟨none, 0, P.cellsOf e, 0⟩) id = some l' → θ id = some l' := fun {id l'} hi h2 => by simpa [Th.set, hi] using h2
  have hN : ∀ b, Nn X (θ.set n ⟨none, 0, P.cellsOf e, 0⟩) (upd h i (.var t (cs.set j (.full n))) ++ [(n, .row e [])]) b → Nn X θ h b := fun b hb => by
    rcases hb with hx | ⟨k, o, l, q1, q2, q3⟩
    · exact .inl hx
    · rw [hlook] at q1
      by_cases hk : n = k
      · subst hk; rw [Th.set_self] at q2; cases q2; cases q3
      · rw [if_neg hk] at q1
        have q2 := hset (fun e => hk e.symm) q2
        by_cases hik : i = k
        · subst hik; exact .inr ⟨i, _, l, hl, q2, q3⟩
        · rw [if_neg hik] at q1; exact .inr ⟨k, o, l, q1, q2, q3⟩
  have hE : Ext w (Nn X θ h) w (Nn X (θ.set n ⟨none, 0, P.cellsOf e, 0⟩) (upd h i (.var t (cs.set j (.full n))) ++ [(n, .row e [])])) := Ext.shrink hN
  refine (hq X O w (θ.set n ⟨none, 0, P.cellsOf e, 0⟩) vs h1 (fun k x hx => (h2 k x hx).ext hE (Szp.refl w) hsub) ⟨fun id ob hlb => ?_, fun id id' o1 o2 l1 l2 b g1 g2 g3 g4 g5 g6 => ?_, fun id ob l b g1 g2 g3 => ?_⟩ h4 (fun id hid => ?_) hG).mono
    fun _ _ ⟨v, r, h', θ', k1, k2, k3, k4, k5, k6⟩ => ⟨v, r, h', θ', k1, k2, fun id l hl => k3 id l (hsub id l hl), k4, k5, k6⟩
  · rw [hlook] at hlb
    by_cases hk : n = id
    · subst hk
      rw [if_pos rfl] at hlb
      cases hlb
      exact ⟨_, Th.set_self _ _ _, rfl, rfl, by simp, rfl⟩
    · rw [if_neg hk] at hlb
      by_cases hik : i = id
      · subst hik
        rw [if_pos rfl] at hlb
        cases hlb
        obtain ⟨l, m1, m2⟩ := h3.ob i _ hl
        obtain ⟨z1, z0, b, ds, fr, y0, y1, y2, y3, y4⟩ := m2.ext hE (Szp.refl w) hsub (fun _ _ => rfl)
        refine ⟨l, hsub i l m1, z1, z0, b, ds, fr, y0, y1, y2, by rw [y3]; simp, fun k x hx => ?_⟩
        rw [List.getElem?_set] at hx
        split at hx
        · rename_i hjk
          subst hjk
          split at hx
          · cases hx
            obtain ⟨u, u1, u2⟩ := y4 j _ hc
            exact ⟨u, u1, u2.nils_full (Th.set_self _ _ _)⟩
          · cases hx
        · exact y4 k x hx
      · rw [if_neg hik] at hlb
        obtain ⟨l, m1, m2⟩ := h3.ob id ob hlb
        exact ⟨l, hsub id l m1, m2.ext hE (Szp.refl w) hsub (fun _ _ => rfl)⟩
  · have key : ∀ {k : Nat} {o : Ob} {l : Lay}, look (upd h i (.var t (cs.set j (.full n))) ++ [(n, .row e [])]) k = some o → (θ.set n ⟨none, 0, P.cellsOf e, 0⟩) k = some l → l.blk = some b → ∃ o', look h k = some o' ∧ θ k = some l := fun {k o l} q1 q2 q3 => by
      rw [hlook] at q1
      by_cases hk : n = k
      · subst hk; rw [Th.set_self] at q2; cases q2; cases q3
      · rw [if_neg hk] at q1
        have q2 := hset (fun e => hk e.symm) q2
        by_cases hik : i = k
        · subst hik; exact ⟨_, hl, q2⟩
        · rw [if_neg hik] at q1; exact ⟨o, q1, q2⟩
    obtain ⟨o1', q1, q2⟩ := key g1 g3 g5
    obtain ⟨o2', q3, q4⟩ := key g2 g4 g6
    exact h3.inj id id' o1' o2' l1 l2 b q1 q3 q2 q4 g5 g6
  · rw [hlook] at g1
    by_cases hk : n = id
    · subst hk; rw [Th.set_self] at g2; cases g2; cases g3
    · rw [if_neg hk] at g1
      have g2 := hset (fun e => hk e.symm) g2
      by_cases hik : i = id
      · subst hik; exact h3.rng i _ l b hl g2 g3
      · rw [if_neg hik] at g1; exact h3.rng id ob l b g1 g2 g3
  · rw [hb] at hid
    have : id ≠ n := by omega
    simp only [Th.set, this, if_false]
    exact h5 id (by omega)
end Go.VL

/- A nil slice in a variable at hand is as good as an empty row of its own. -/
namespace Go.VL
open Go Go.RowKit

variable {P : Program} {X O : Nat → Prop} {w0 w w' : World} {θ θ' θ0 : Th} {st : St} {a : Act} {N : Nat → Prop}

theorem Sat.nilCell (hs : Sat P X O w0 θ st a w) (e i j : Nat) {t : Nat} {cs : List T} (hl : look st.h i = some (.var t cs)) (hc : cs[j]? = some .nils) :
    Sat P X O w0 (θ.set st.n ⟨none, 0, P.cellsOf e, 0⟩) ⟨st.t, (st.n, .row e []) :: upd st.h i (.var t (cs.set j (.full st.n))), st.n + 1, st.nt⟩ a w := by
  obtain ⟨te, h, n, nt⟩ := st
  simp only at hl
  have hfree := hs.fresh n (Nat.le_refl _)
  have hlk : look h n = none := by
    cases hk : look h n with
    | none => rfl
    | some o =>
      obtain ⟨l, h1, _⟩ := hs.hp.ob n o hk
      rw [hfree] at h1; cases h1
  have hin : i ≠ n := fun e => by rw [e, hlk] at hl; cases hl
  have hsub := Th.set_sub (l := ⟨none, 0, P.cellsOf e, 0⟩) hfree
  have hlook : ∀ k, look ((n, .row e []) :: upd h i (.var t (cs.set j (.full n)))) k = if n = k then some (.row e []) else if i = k then some (.var t (cs.set j (.full n))) else look h k := fun k => by
    rw [look_cons, look_upd]
    by_cases hk : n = k
    · simp [hk]
    · rw [if_neg hk, if_neg hk]
      by_cases hik : i = k
      · subst hik; rw [if_pos rfl, if_pos rfl, hl]; rfl
      · rw [if_neg hik, if_neg hik]
  have hset : ∀ {id l'}, id ≠ n → (θ.set n ⟨none, 0, P.cellsOf e, 0⟩) id = some l' → θ id = some l' := fun {id l'} hi h2 => by simpa [Th.set, hi] using h2
  have hN : ∀ b, Nn X (θ.set n ⟨none, 0, P.cellsOf e, 0⟩) ((n, .row e []) :: upd h i (.var t (cs.set j (.full n)))) b → Nn X θ h b := fun b hb => by
    rcases hb with hx | ⟨k, o, l, q1, q2, q3⟩
    · exact .inl hx
    · rw [hlook] at q1
      by_cases hk : n = k
      · subst hk; rw [Th.set_self] at q2; cases q2; cases q3
      · rw [if_neg hk] at q1
        have q2 := hset (fun e => hk e.symm) q2
        by_cases hik : i = k
        · subst hik; exact .inr ⟨i, _, l, hl, q2, q3⟩
        · rw [if_neg hik] at q1; exact .inr ⟨k, o, l, q1, q2, q3⟩
  have hE : Ext w (Nn X θ h) w (Nn X (θ.set n ⟨none, 0, P.cellsOf e, 0⟩) ((n, .row e []) :: upd h i (.var t (cs.set j (.full n))))) := Ext.shrink hN
  refine ⟨fun k => (hs.tm k).ext hE (Szp.refl w) hsub, ⟨fun id ob hlb => ?_, fun id id' o1 o2 l1 l2 b g1 g2 g3 g4 g5 g6 => ?_, fun id ob l b g1 g2 g3 => ?_⟩, fun id hid => ?_, hs.dfr, hs.nts, hs.kp, hs.xb, hs.gl⟩
  · rw [hlook] at hlb
    by_cases hk : n = id
    · subst hk
      rw [if_pos rfl] at hlb
      cases hlb
      exact ⟨_, Th.set_self _ _ _, rfl, rfl, by simp, rfl⟩
    · rw [if_neg hk] at hlb
      by_cases hik : i = id
      · subst hik
        rw [if_pos rfl] at hlb
        cases hlb
        obtain ⟨l, m1, m2⟩ := hs.hp.ob i _ hl
        obtain ⟨z1, z0, b, ds, fr, y0, y1, y2, y3, y4⟩ := m2.ext hE (Szp.refl w) hsub (fun _ _ => rfl)
        refine ⟨l, hsub i l m1, z1, z0, b, ds, fr, y0, y1, y2, by rw [y3]; simp, fun k x hx => ?_⟩
        rw [List.getElem?_set] at hx
        split at hx
        · rename_i hjk
          subst hjk
          split at hx
          · cases hx
            obtain ⟨u, u1, u2⟩ := y4 j _ hc
            exact ⟨u, u1, u2.nils_full (Th.set_self _ _ _)⟩
          · cases hx
        · exact y4 k x hx
      · rw [if_neg hik] at hlb
        obtain ⟨l, m1, m2⟩ := hs.hp.ob id ob hlb
        exact ⟨l, hsub id l m1, m2.ext hE (Szp.refl w) hsub (fun _ _ => rfl)⟩
  · have key : ∀ {k : Nat} {o : Ob} {l : Lay}, look ((n, .row e []) :: upd h i (.var t (cs.set j (.full n)))) k = some o → (θ.set n ⟨none, 0, P.cellsOf e, 0⟩) k = some l → l.blk = some b → ∃ o', look h k = some o' ∧ θ k = some l := fun {k o l} q1 q2 q3 => by
      rw [hlook] at q1
      by_cases hk : n = k
      · subst hk; rw [Th.set_self] at q2; cases q2; cases q3
      · rw [if_neg hk] at q1
        have q2 := hset (fun e => hk e.symm) q2
        by_cases hik : i = k
        · subst hik; exact ⟨_, hl, q2⟩
        · rw [if_neg hik] at q1; exact ⟨o, q1, q2⟩
    obtain ⟨o1', q1, q2⟩ := key g1 g3 g5
    obtain ⟨o2', q3, q4⟩ := key g2 g4 g6
    exact hs.hp.inj id id' o1' o2' l1 l2 b q1 q3 q2 q4 g5 g6
  · rw [hlook] at g1
    by_cases hk : n = id
    · subst hk; rw [Th.set_self] at g2; cases g2; cases g3
    · rw [if_neg hk] at g1
      have g2 := hset (fun e => hk e.symm) g2
      by_cases hik : i = id
      · subst hik; exact hs.hp.rng i _ l b hl g2 g3
      · rw [if_neg hik] at g1; exact hs.hp.rng id ob l b g1 g2 g3
  · simp only at hid
    have : id ≠ n := by omega
    simp only [Th.set, this, if_false]
    exact hs.fresh id (by simp only; omega)

theorem WP.nilCell {B : Nat} {c : Code} {Q : Ex → St → Prop} (e i j : Nat) {t : Nat} {cs : List T} {te : Env} {h : Hp} {n nt : Nat} (hl : look h i = some (.var t cs)) (hc : cs[j]? = some .nils)
    (hw : WP P B c Q ⟨te, (n, .row e []) :: upd h i (.var t (cs.set j (.full n))), n + 1, nt⟩) : WP P B c Q ⟨te, h, n, nt⟩ := fun X O w0 θ a w hs => by
  have hsub := Th.set_sub (l := ⟨none, 0, P.cellsOf e, 0⟩) (hs.fresh n (Nat.le_refl _))
  refine Code.wp_mono ?_ (hw X O w0 _ a w (hs.nilCell e i j hl hc))
  intro e' a' w' ⟨e2, st', θ', h1, h2, h3, h4⟩
  exact ⟨e2, st', θ', h1, h2, fun id l hid hl => h3 id l hid (hsub id l hl), h4⟩
end Go.VL
namespace Go.VL
open Go Go.RowKit
/-- A piece of code ends normally, in a state that is told as S. -/
def cutQ (B : Nat) (S : St) : Ex → St → Prop
  | .normal, s => into B s S
  | _, _ => False
theorem WP.cut {P : Program} {B : Nat} {c : Code} {Q : Ex → St → Prop} {st : St} (S : St) (h1 : WP P B c (cutQ B S) st) (h2 : Q .normal S) : WP P B c Q st := fun X O w0 θ a w hs => by
  refine wp_mono (h1 X O w0 θ a w hs) fun e a' w' ⟨e', st', θ', m1, m2, m3, m4⟩ => ?_
  cases e' with
  | normal =>
    obtain ⟨θ3, r1, r2⟩ := m4.into m2
    exact ⟨.normal, S, θ3, m1, h2, fun id l hb hl => r1 id l hb (m3 id l hb hl), r2⟩
  | exit id => exact m2.elim
  | ret => exact m2.elim
end Go.VL
