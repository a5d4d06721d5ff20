/- Changes of trees: what one does, on both sides, in plain Lean. -/
import Derived.Test.YtpkgjkoijeapjaaVTree
import Derived.Test.YtpkgjkoijeapjaaVTy3
set_option linter.unusedVariables false
set_option linter.unusedSimpArgs false
set_option linter.unusedVariables false
namespace Go.VL
open Go Go.RowKit
/-- A change: its kind, path and node. -/
structure Chg where
  kind : Int
  path : List Int
  node : Nd
def Chg.d (c : Chg) : List D := [.int .i64 c.kind, .sl (c.path.map iI), .str c.node.name, .sl (c.node.attrs.map Attr.d), .str c.node.text, .sl (nds c.node.ps)]
theorem len_chg (l : List Chg) : l.length ≤ szLL (l.map Chg.d) := len_map_sz (fun x => by simp only [Chg.d, szL, szD]; omega) l
end Go.VL
namespace Go.VL.VWalk
open Go Go.VL
def zero : Nd := .mk [] [] [] []
def nthO (l : List Nd) (p : Int) : Option Nd := if p < 0 then none else l[p.toNat]?
def at_ : List Nd → List Int → Nd × Int
  | _, [] => (zero, 7)
  | l, p :: r => match nthO l p with
    | none => (zero, 7)
    | some n => match r with
      | [] => (n, 0)
      | q :: t => if n.name = [] then (zero, 7) else at_ n.ps (q :: t)
theorem at_none {l : List Nd} {p : Int} {r : List Int} (h : nthO l p = none) : at_ l (p :: r) = (zero, 7) := by cases r <;> simp [at_, h]
theorem at_one {l : List Nd} {p : Int} {n : Nd} (h : nthO l p = some n) : at_ l [p] = (n, 0) := by rw [at_, h]
theorem at_stop {l : List Nd} {p q : Int} {t : List Int} {n : Nd} (h : nthO l p = some n) (hn : n.name = []) : at_ l (p :: q :: t) = (zero, 7) := by rw [at_, h]; exact if_pos hn
theorem at_more {l : List Nd} {p q : Int} {t : List Int} {n : Nd} (h : nthO l p = some n) (hn : ¬ n.name = []) : at_ l (p :: q :: t) = at_ n.ps (q :: t) := by rw [at_, h]; exact if_neg hn
theorem nthO_none {l : List Nd} {p : Int} (h : p < 0 ∨ p ≥ l.length) : nthO l p = none := by
  unfold nthO
  split
  · rfl
  · rw [List.getElem?_eq_none (by omega)]
theorem nthO_some {l : List Nd} {p : Int} {n : Nd} (h0 : ¬ p < 0) (h : l[p.toNat]? = some n) : nthO l p = some n := by
  unfold nthO; rw [if_neg h0, h]
theorem zero_inv {a b c ps e} (h : (VWalk.zero, (7 : Int)) = (Nd.mk a b c ps, e)) : a = [] ∧ b = [] ∧ c = [] ∧ ps = [] ∧ e = 7 := by
  simp only [zero, Prod.mk.injEq, Nd.mk.injEq] at h
  obtain ⟨⟨rfl, rfl, rfl, rfl⟩, rfl⟩ := h
  exact ⟨rfl, rfl, rfl, rfl, rfl⟩
/-- What is left of a path, behind so many places and a node. -/
def cont (i : Nat) (n : Nd) (l : List Nd) : List Int → Nd × Int
  | [] => (n, 0)
  | q :: t => if 0 < i ∧ n.name = [] then (zero, 7) else at_ l (q :: t)
theorem cont_stop {i n l q t} (h : 0 < i ∧ n.name = []) : cont i n l (q :: t) = (zero, 7) := if_pos h
theorem cont_go {i n l q t} (h : ¬ (0 < i ∧ n.name = [])) : cont i n l (q :: t) = at_ l (q :: t) := if_neg h
def withPs (l : List Nd) (i : Nat) (m : Nd) (ps : List Nd) : List Nd := l.set i (.mk m.name m.attrs m.text ps)
def nthD (l : List Nd) (p : Int) : Nd := l.getD p.toNat zero
def err (k : Int) : List Nd × (Int × Nd) × Int := ([], (k, zero), 7)
/-- A change in the list itself. -/
def chg1 (k : Int) (n : Nd) (l : List Nd) (p : Int) : List Nd × (Int × Nd) × Int :=
  if p < 0 ∨ p ≥ (l.length : Int) + (if k = 1 then 1 else 0) then err k
  else if k = 1 then (l.take p.toNat ++ n :: l.drop p.toNat, (2, zero), 0)
  else if k = 2 then (l.take p.toNat ++ l.drop (p.toNat + 1), (1, nthD l p), 0)
  else (l.set p.toNat n, (k, nthD l p), 0)
def chg (k : Int) (n : Nd) : List Int → List Nd → List Nd × (Int × Nd) × Int
  | [], _ => err k
  | p :: [], l => chg1 k n l p
  | p :: q :: t, l => if p < 0 ∨ p ≥ (l.length : Int) then err k else if (nthD l p).name = [] then err k else
      (withPs l p.toNat (nthD l p) (chg k n (q :: t) (nthD l p).ps).1, (chg k n (q :: t) (nthD l p).ps).2)
theorem err_inv {k kb e out a b c ps} (h : err k = (out, (kb, Nd.mk a b c ps), e)) : out = [] ∧ kb = k ∧ a = [] ∧ b = [] ∧ c = [] ∧ ps = [] ∧ e = 7 := by
  simp only [err, Prod.mk.injEq, zero, Nd.mk.injEq] at h
  obtain ⟨rfl, ⟨rfl, rfl, rfl, rfl, rfl⟩, rfl⟩ := h
  exact ⟨rfl, rfl, rfl, rfl, rfl, rfl, rfl⟩

/-- The list in which a path's last place is. -/
def la : List Int → List Nd → Option (List Nd)
  | [], _ => none
  | _ :: [], l => some l
  | p :: q :: t, l => if p < 0 ∨ p ≥ (l.length : Int) then none else if (nthD l p).name = [] then none else la (q :: t) (nthD l p).ps
/-- The nodes, with another list there. -/
def wl (list : List Nd) : List Int → List Nd → List Nd
  | [], l => l
  | _ :: [], _ => list
  | p :: q :: t, l => if p < 0 ∨ p ≥ (l.length : Int) then l else withPs l p.toNat (nthD l p) (wl list (q :: t) (nthD l p).ps)
def lastD : List Int → Int
  | [] => 0
  | p :: [] => p
  | _ :: q :: t => lastD (q :: t)
theorem chg_none (k : Int) (n : Nd) : ∀ (path : List Int) (l : List Nd), la path l = none → (chg k n path l).2.2 = 7
  | [], _, _ => rfl
  | p :: [], l, h => by simp [la] at h
  | p :: q :: t, l, h => by
    rw [la] at h
    rw [chg]
    split
    · rfl
    · rename_i h1
      rw [if_neg h1] at h
      split
      · rfl
      · rename_i h2
        rw [if_neg h2] at h
        exact chg_none k n (q :: t) _ h
theorem chg_some (k : Int) (n : Nd) : ∀ (path : List Int) (l list : List Nd), la path l = some list → (chg k n path l).2 = (chg1 k n list (lastD path)).2 ∧ (chg k n path l).1 = wl (chg1 k n list (lastD path)).1 path l
  | [], _, _, h => by simp [la] at h
  | p :: [], l, list, h => by
    simp only [la, Option.some.injEq] at h
    subst h
    exact ⟨rfl, rfl⟩
  | p :: q :: t, l, list, h => by
    rw [la] at h
    rw [chg]
    split at h
    · cases h
    rename_i h1
    rw [if_neg h1]
    split at h
    · cases h
    rename_i h2
    rw [if_neg h2]
    obtain ⟨g1, g2⟩ := chg_some k n (q :: t) _ _ h
    refine ⟨by rw [lastD]; exact g1, ?_⟩
    rw [wl, if_neg h1, lastD]
    simp only [g2]
theorem nth_in {l : List Nd} {p : Int} (h : ¬ (p < 0 ∨ p ≥ (l.length : Int))) : nthO l p = some (nthD l p) := by
  have hp : p.toNat < l.length := by omega
  rw [nthO, if_neg (by omega)]
  simp [nthD, List.getD, List.getElem?_eq_getElem hp]
/-- What is at a path, of its last list. -/
theorem at_some : ∀ (path : List Int) (l list : List Nd), la path l = some list → ¬ (lastD path < 0 ∨ lastD path ≥ (list.length : Int)) → at_ l path = (nthD list (lastD path), 0)
  | [], _, _, h, _ => by simp [la] at h
  | p :: [], l, list, h, h2 => by
    simp only [la, Option.some.injEq] at h
    subst h
    exact at_one (nth_in h2)
  | p :: q :: t, l, list, h, h2 => by
    rw [la] at h
    split at h
    · cases h
    rename_i h1
    split at h
    · cases h
    rename_i h3
    rw [at_more (nth_in h1) h3]
    exact at_some (q :: t) _ _ h h2
/-- The list at a path, as the reference finds it. -/
def laR (l : List Nd) (path : List Int) : List Nd × Bool :=
  if path.length = 1 then (l, true) else ((at_ l path.dropLast).1.ps, decide ((at_ l path.dropLast).2 = 0) && !decide ((at_ l path.dropLast).1.name = []))
theorem la_laR : ∀ (path : List Int) (l : List Nd), path ≠ [] → la path l = if (laR l path).2 = true then some (laR l path).1 else none
  | [], _, h => absurd rfl h
  | p :: [], l, _ => by simp [la, laR]
  | p :: q :: t, l, _ => by
    have ih := la_laR (q :: t) (nthD l p).ps (by simp)
    rw [la]
    by_cases h1 : p < 0 ∨ p ≥ (l.length : Int)
    · rw [if_pos h1]
      have : at_ l (p :: q :: t).dropLast = (zero, 7) := by
        rw [List.dropLast_cons_cons]
        exact at_none (nthO_none h1)
      simp only [laR, this]
      simp
    · rw [if_neg h1]
      have hn := nth_in h1
      cases t with
      | nil =>
        have : at_ l [p, q].dropLast = (nthD l p, 0) := at_one hn
        simp only [laR, this]
        by_cases h2 : (nthD l p).name = []
        · simp [h2]
        · simp [h2, la]
      | cons r t =>
        by_cases h2 : (nthD l p).name = []
        · rw [if_pos h2]
          have : at_ l (p :: q :: r :: t).dropLast = (zero, 7) := by
            rw [List.dropLast_cons_cons, List.dropLast_cons_cons]
            exact at_stop hn h2
          simp only [laR, this]
          simp
        · rw [if_neg h2, ih]
          have : at_ l (p :: q :: r :: t).dropLast = at_ (nthD l p).ps (q :: r :: t).dropLast := by
            rw [List.dropLast_cons_cons, List.dropLast_cons_cons]
            exact at_more hn h2
          simp only [laR, this]
          simp
end Go.VL.VWalk
namespace Go.VL.VWalk
open Go Go.VL
def emptyN (n : Nd) : Bool := decide (n.name = []) && decide (n.text = []) && decide (n.attrs = []) && decide (n.ps = [])
def bad (c : Chg) : Int := if c.kind < 1 ∨ c.kind > 3 then 3 else if c.kind = 2 ∧ emptyN c.node = false then 4 else 0
def stepE (l : List Nd) (c : Chg) : Int := if bad c ≠ 0 then bad c else (chg c.kind c.node c.path l).2.2
def stepL (l : List Nd) (c : Chg) : List Nd := (chg c.kind c.node c.path l).1
def stepB (l : List Nd) (c : Chg) : Chg := ⟨(chg c.kind c.node c.path l).2.1.1, c.path, (chg c.kind c.node c.path l).2.1.2⟩
def playA : List Nd → List Chg → List Chg → List Nd × List Chg × Int
  | l, bs, [] => (l, bs, 0)
  | l, bs, c :: cs => if stepE l c ≠ 0 then ([], [], stepE l c) else playA (stepL l c) (bs ++ [stepB l c]) cs
def playedA : List (List Nd) → List Nd → List Chg → List (List Nd) × Int
  | all, _, [] => (all, 0)
  | all, l, c :: cs => if stepE l c ≠ 0 then ([], stepE l c) else playedA (all ++ [stepL l c]) (stepL l c) cs
def errs : List Nd → List Chg → Int
  | _, [] => 0
  | l, c :: cs => if stepE l c ≠ 0 then stepE l c else errs (stepL l c) cs
def states : List Nd → List Chg → List (List Nd)
  | _, [] => []
  | l, c :: cs => stepL l c :: states (stepL l c) cs
def final : List Nd → List Chg → List Nd
  | l, [] => l
  | l, c :: cs => final (stepL l c) cs
def backs : List Nd → List Chg → List Chg
  | _, [] => []
  | l, c :: cs => stepB l c :: backs (stepL l c) cs
theorem playA_eq : ∀ (cs : List Chg) (l : List Nd) (bs : List Chg), playA l bs cs = if errs l cs ≠ 0 then ([], [], errs l cs) else (final l cs, bs ++ backs l cs, 0)
  | [], l, bs => by simp [playA, errs, final, backs]
  | c :: cs, l, bs => by
    rw [playA, errs]
    by_cases h : stepE l c ≠ 0
    · rw [if_pos h, if_pos h, if_pos h]
    · rw [if_neg h, if_neg h, playA_eq cs]
      simp only [final, backs, List.append_assoc, List.singleton_append]
theorem playedA_eq : ∀ (cs : List Chg) (l : List Nd) (all : List (List Nd)), playedA all l cs = if errs l cs ≠ 0 then ([], errs l cs) else (all ++ states l cs, 0)
  | [], l, all => by simp [playedA, errs, states]
  | c :: cs, l, all => by
    rw [playedA, errs]
    by_cases h : stepE l c ≠ 0
    · rw [if_pos h, if_pos h, if_pos h]
    · rw [if_neg h, if_neg h, playedA_eq cs]
      simp only [states, List.append_assoc, List.singleton_append]
theorem states_len : ∀ (cs : List Chg) (l : List Nd), (states l cs).length = cs.length
  | [], _ => rfl
  | c :: cs, l => by simp [states, states_len cs]
theorem backs_len : ∀ (cs : List Chg) (l : List Nd), (backs l cs).length = cs.length
  | [], _ => rfl
  | c :: cs, l => by simp [backs, backs_len cs]
theorem final_at : ∀ (cs : List Chg) (l : List Nd), (l :: states l cs)[cs.length]? = some (final l cs)
  | [], _ => rfl
  | c :: cs, l => by
    rw [List.length_cons, List.getElem?_cons_succ]
    exact final_at cs (stepL l c)
/-- What the reference says of a change taken back. -/
def invB (l : List Nd) (c : Chg) : Chg := if c.kind = 1 then ⟨2, c.path, zero⟩ else ⟨if c.kind = 2 then 1 else c.kind, c.path, (at_ l c.path).1⟩
theorem inv_eq {l : List Nd} {c : Chg} (h : stepE l c = 0) : stepB l c = invB l c := by
  unfold stepE at h
  split at h
  · rename_i h1; exact absurd h h1
  rename_i h1
  cases hla : la c.path l with
  | none => rw [chg_none _ _ _ _ hla] at h; cases h
  | some list =>
    obtain ⟨g1, _⟩ := chg_some c.kind c.node c.path l list hla
    rw [g1] at h
    unfold stepB invB
    rw [g1]
    by_cases h2 : lastD c.path < 0 ∨ lastD c.path ≥ (list.length : Int) + (if c.kind = 1 then 1 else 0)
    · rw [chg1, if_pos h2] at h; cases h
    rw [chg1, if_neg h2]
    by_cases hk : c.kind = 1
    · simp [hk]
    · rw [if_neg hk] at h2
      have hat := at_some c.path l list hla (by omega)
      rw [if_neg hk, if_neg hk, hat]
      by_cases hk2 : c.kind = 2
      · simp [hk2]
      · simp [hk2]
theorem back_at : ∀ (cs : List Chg) (l : List Nd) (i : Nat) (c : Chg), errs l cs = 0 → cs[i]? = some c → ∃ s, (l :: states l cs)[i]? = some s ∧ (backs l cs)[i]? = some (invB s c)
  | [], _, _, _, _, h => by simp at h
  | c0 :: cs, l, 0, c, he, h => by
    simp at h; subst h
    rw [errs] at he
    split at he
    · rename_i h1; exact absurd he h1
    · rename_i h1
      exact ⟨l, rfl, by rw [backs, ← inv_eq (by simpa using h1)]; rfl⟩
  | c0 :: cs, l, i + 1, c, he, h => by
    rw [errs] at he
    split at he
    · rename_i h1; exact absurd he h1
    · obtain ⟨s, g1, g2⟩ := back_at cs (stepL l c0) i c he (by simpa using h)
      exact ⟨s, by rw [List.getElem?_cons_succ]; exact g1, by rw [backs, List.getElem?_cons_succ]; exact g2⟩
/-! the list that the reference makes, place by place -/
def piece (k : Int) (n : Nd) (list : List Nd) (i : Int) (j : Nat) : List Nd :=
  (if (j : Int) = i ∧ k ≠ 2 then [n] else []) ++ (match list[j]? with | some m => (if (j : Int) ≠ i ∨ k = 1 then [m] else []) | none => [])
def nxt (k : Int) (n : Nd) (list : List Nd) (i : Int) : Nat → List Nd
  | 0 => []
  | j + 1 => nxt k n list i j ++ piece k n list i j
theorem nxt_low {k : Int} {n : Nd} {list : List Nd} {i : Nat} : ∀ j, j ≤ i → i ≤ list.length → nxt k n list i j = list.take j
  | 0, _, _ => by simp [nxt]
  | j + 1, h, hi => by
    rw [nxt, nxt_low j (by omega) hi, List.take_add_one]
    have : list[j]? = some list[j] := List.getElem?_eq_getElem (by omega)
    have hne : ¬ ((j : Int) = (i : Int)) := by omega
    simp [piece, this, hne]
theorem nxt_high {k : Int} {n : Nd} {list : List Nd} {i : Nat} (hi : i ≤ list.length) (hk : k = 1 ∨ i < list.length) : ∀ j, i < j → nxt k n list i j = list.take i ++ (if k ≠ 2 then [n] else []) ++ (list.drop (if k = 1 then i else i + 1)).take (j - (if k = 1 then i else i + 1))
  | 0, h => by omega
  | j + 1, h => by
    rw [nxt]
    by_cases hj : j = i
    · subst hj
      rw [nxt_low j (Nat.le_refl _) hi]
      unfold piece
      by_cases h1 : k = 1
      · subst h1
        have e : j + 1 - j = 1 := by omega
        simp only [if_true, e]
        cases hx : list[j]? with
        | none =>
          have : list.length ≤ j := List.getElem?_eq_none_iff.mp hx
          simp [List.drop_eq_nil_of_le this]
        | some m =>
          obtain ⟨h2, h3⟩ := List.getElem?_eq_some_iff.mp hx
          rw [List.drop_eq_getElem_cons h2, h3]
          simp
      · have hx : list[j]? = some list[j] := List.getElem?_eq_getElem (by omega)
        simp [h1, hx]
    · have hij : i < j := by omega
      rw [nxt_high hi hk j hij]
      have hne : ¬ ((j : Int) = (i : Int)) := by omega
      unfold piece
      simp only [hne, false_and, if_false, List.nil_append, ne_eq, not_false_eq_true, true_or, if_true, List.append_assoc]
      congr 2
      have hd : (if k = 1 then i else i + 1) ≤ j := by split <;> omega
      generalize (if k = 1 then i else i + 1) = d at *
      rw [show j + 1 - d = (j - d) + 1 by omega, List.take_add_one, List.getElem?_drop, show d + (j - d) = j by omega]
      congr 1
      cases list[j]? <;> rfl
theorem nxt_eq {k : Int} {n : Nd} {list : List Nd} {i : Int} (h : ¬ (i < 0 ∨ i ≥ (list.length : Int) + (if k = 1 then 1 else 0))) : nxt k n list i (list.length + 1) = (chg1 k n list i).1 := by
  obtain ⟨i, rfl⟩ : ∃ m : Nat, i = m := ⟨i.toNat, by omega⟩
  have hi : i ≤ list.length := by split at h <;> omega
  rw [nxt_high hi (by by_cases hk : k = 1; exact .inl hk; rw [if_neg hk] at h; exact .inr (by omega)) _ (by omega), chg1, if_neg h, Int.toNat_natCast]
  by_cases h1 : k = 1
  · subst h1
    simp only [if_true]
    have ht : (list.drop i).take (list.length + 1 - i) = list.drop i := List.take_of_length_le (by simp; omega)
    rw [ht]
    simp
  · rw [if_neg h1, if_neg h1] at *
    have hlt : i < list.length := by omega
    have ht : (list.drop (i + 1)).take (list.length + 1 - (i + 1)) = list.drop (i + 1) := List.take_of_length_le (by simp; omega)
    rw [ht]
    by_cases h2 : k = 2
    · subst h2; simp
    · rw [if_neg h2]
      simp only [ne_eq, h2, not_false_eq_true, if_true]
      rw [List.set_eq_take_append_cons_drop, if_pos hlt]
      simp
end Go.VL.VWalk
namespace Go.VL.VWalk
open Go Go.VL
/-- So many places from both ends turned round. -/
def rv {α : Type} (l : List α) (i : Nat) : List α := l.mapIdx fun t x => if t < i ∨ l.length ≤ t + i then l.getD (l.length - 1 - t) x else x
theorem rv_len {α : Type} (l : List α) (i : Nat) : (rv l i).length = l.length := by simp [rv]
theorem rv_get {α : Type} (l : List α) (i t : Nat) : (rv l i)[t]? = if t < l.length then (if t < i ∨ l.length ≤ t + i then l[l.length - 1 - t]? else l[t]?) else none := by
  unfold rv
  rw [List.getElem?_mapIdx]
  by_cases h : t < l.length
  · rw [if_pos h, List.getElem?_eq_getElem h]
    simp only [Option.map_some]
    split
    · rw [List.getElem?_eq_getElem (by omega : l.length - 1 - t < l.length)]
      simp [List.getD, List.getElem?_eq_getElem (by omega : l.length - 1 - t < l.length)]
    · rfl
  · rw [if_neg h, List.getElem?_eq_none (by omega)]
    rfl
theorem rv_zero {α : Type} (l : List α) : rv l 0 = l := by
  apply List.ext_getElem?
  intro t
  rw [rv_get]
  by_cases h : t < l.length
  · rw [if_pos h, if_neg (by omega)]
  · rw [if_neg h, List.getElem?_eq_none (by omega)]
theorem rv_end {α : Type} (l : List α) (i : Nat) (h : l.length ≤ i + i + 1) : rv l i = l.reverse := by
  apply List.ext_getElem?
  intro t
  rw [rv_get]
  by_cases ht : t < l.length
  · rw [if_pos ht, List.getElem?_reverse ht]
    by_cases h2 : t < i ∨ l.length ≤ t + i
    · rw [if_pos h2]
    · rw [if_neg h2]
      congr 1; omega
  · rw [if_neg ht, List.getElem?_eq_none (by simp; omega)]
theorem rv_step {α : Type} (l : List α) (i : Nat) (x y : α) (h : i + i + 1 < l.length) (hx : l[i]? = some x) (hy : l[l.length - 1 - i]? = some y) : ((rv l i).set i y).set (l.length - 1 - i) x = rv l (i + 1) := by
  apply List.ext_getElem?
  intro t
  rw [List.getElem?_set, List.length_set, rv_len, List.getElem?_set, rv_len, rv_get, rv_get]
  by_cases h1 : l.length - 1 - i = t
  · rw [if_pos h1, if_pos (by omega), if_pos (by omega), if_pos (by omega), ← hx]
    congr 1; omega
  · rw [if_neg h1]
    by_cases h2 : i = t
    · rw [if_pos h2, if_pos (by omega), if_pos (by omega), if_pos (by omega), ← hy]
      congr 1; omega
    · rw [if_neg h2]
      by_cases h3 : t < l.length
      · rw [if_pos h3, if_pos h3]
        by_cases h4 : t < i ∨ l.length ≤ t + i
        · rw [if_pos h4, if_pos (by omega)]
        · rw [if_neg h4, if_neg (by omega)]
      · rw [if_neg h3, if_neg h3]
theorem szLL_take (l : List Nd) (i : Nat) : szLL (nds (l.take i)) + szLL (nds (l.drop i)) = szLL (nds l) := by
  rw [← szLL_app, ← nds_app, List.take_append_drop]
theorem szLL_cons (n : Nd) (l : List Nd) : szLL (nds (n :: l)) = szL n.d + szLL (nds l) := by simp [nds, szLL]
theorem szLL_drop1 (l : List Nd) (i : Nat) : szLL (nds (l.drop (i + 1))) ≤ szLL (nds (l.drop i)) := by
  rw [← List.drop_drop]
  cases l.drop i with
  | nil => simp
  | cons x r => rw [List.drop_one, List.tail_cons, szLL_cons]; omega
theorem szLL_set (l : List Nd) (i : Nat) (n : Nd) : szLL (nds (l.set i n)) + szL ((l.getD i zero)).d ≤ szLL (nds l) + szL n.d + 4 ∧ (i < l.length → szLL (nds (l.set i n)) + szL ((l.getD i zero)).d = szLL (nds l) + szL n.d) := by
  by_cases h : i < l.length
  · have e : szLL (nds (l.set i n)) + szL ((l.getD i zero)).d = szLL (nds l) + szL n.d := by
      rw [List.set_eq_take_append_cons_drop, if_pos h, nds_app, szLL_app, szLL_cons]
      have h1 := szLL_take l i
      have h2 : szLL (nds (l.drop i)) = szL (l.getD i zero).d + szLL (nds (l.drop (i + 1))) := by
        rw [List.drop_eq_getElem_cons h, szLL_cons]
        simp [List.getD, List.getElem?_eq_getElem h]
      omega
    exact ⟨by omega, fun _ => e⟩
  · rw [List.set_eq_of_length_le (by omega)]
    refine ⟨?_, fun h' => absurd h' h⟩
    have : l.getD i zero = zero := by simp [List.getD, List.getElem?_eq_none (by omega : l.length ≤ i)]
    rw [this]
    simp [zero, Nd.d, szL, szD, nds, szLL]
theorem szL_nd (a : Str) (b : List Attr) (c : Str) (ps : List Nd) : szL (Nd.mk a b c ps).d = szL [.str a, .sl (b.map Attr.d), .str c] + szLL (nds ps) + 1 := by
  simp only [Nd.d, szL, szD]; omega
theorem chg1_sz (k : Int) (n : Nd) (l : List Nd) (p : Int) : szLL (nds (chg1 k n l p).1) ≤ szLL (nds l) + szL n.d ∧ szL (chg1 k n l p).2.1.2.d ≤ szLL (nds l) + 4 := by
  have hz : szL zero.d = 4 := rfl
  by_cases hp : p < 0 ∨ p ≥ (l.length : Int) + (if k = 1 then 1 else 0)
  · rw [chg1, if_pos hp]
    simp only [err, nds, szLL, hz]; omega
  rw [chg1, if_neg hp]
  by_cases hk : k = 1
  · rw [if_pos hk]
    refine ⟨?_, by simp only [hz]; omega⟩
    have := szLL_take l p.toNat
    simp only [nds_app, szLL_app, szLL_cons]
    omega
  rw [if_neg hk] at hp ⊢
  have hlt : p.toNat < l.length := by omega
  obtain ⟨h1, h2⟩ := szLL_set l p.toNat n
  have h3 : szL (nthD l p).d ≤ szLL (nds l) := by
    have := szLL_mem (es := nds l) (c := (nthD l p).d) (by
      rw [nds_eq, nthD, List.getD, List.getElem?_eq_getElem hlt]
      exact List.mem_map_of_mem (List.getElem_mem hlt))
    exact this
  split
  · refine ⟨?_, by simp only; omega⟩
    have e1 := szLL_take l p.toNat
    have e2 := szLL_drop1 l p.toNat
    simp only [nds_app, szLL_app]
    omega
  · have := h2 hlt
    refine ⟨by simp only; omega, by simp only; omega⟩
theorem chg_sz (k : Int) (n : Nd) : ∀ (path : List Int) (l : List Nd), szLL (nds (chg k n path l).1) ≤ szLL (nds l) + szL n.d ∧ szL (chg k n path l).2.1.2.d ≤ szLL (nds l) + 4
  | [], l => by
    have hz : szL zero.d = 4 := rfl
    simp only [chg, err, nds, szLL, hz]; omega
  | p :: [], l => chg1_sz k n l p
  | p :: q :: t, l => by
    have hz : szL zero.d = 4 := rfl
    have he : szLL (nds (err k).1) ≤ szLL (nds l) + szL n.d ∧ szL (err k).2.1.2.d ≤ szLL (nds l) + 4 := by
      simp only [err, nds, szLL, hz]; omega
    rw [chg]
    split
    · exact he
    rename_i hp
    split
    · exact he
    obtain ⟨g1, g2⟩ := chg_sz k n (q :: t) (nthD l p).ps
    have hlt : p.toNat < l.length := by omega
    rcases hm : nthD l p with ⟨a, b, c, ps⟩
    rw [hm] at g1 g2
    simp only [Nd.ps] at g1 g2 ⊢
    obtain ⟨_, h2⟩ := szLL_set l p.toNat (.mk a b c (chg k n (q :: t) ps).1)
    have h2 := h2 hlt
    have hm' : l.getD p.toNat zero = .mk a b c ps := hm
    rw [hm', szL_nd, szL_nd] at h2
    have h3 : szL (Nd.mk a b c ps).d ≤ szLL (nds l) := by
      have := szLL_mem (es := nds l) (c := (nthD l p).d) (by
        rw [nds_eq, nthD, List.getD, List.getElem?_eq_getElem hlt]
        exact List.mem_map_of_mem (List.getElem_mem hlt))
      rwa [hm] at this
    rw [szL_nd] at h3
    refine ⟨?_, by omega⟩
    simp only [withPs, Nd.name, Nd.attrs, Nd.text]
    omega
theorem szL_ps (n : Nd) : szLL (nds n.ps) ≤ szL n.d := by
  obtain ⟨a, b, c, ps⟩ := n
  rw [szL_nd]; simp only [Nd.ps]; omega
theorem nthD_sz (l : List Nd) (p : Int) (h : ¬ (p < 0 ∨ p ≥ (l.length : Int))) : szL (nthD l p).d ≤ szLL (nds l) := by
  have hlt : p.toNat < l.length := by omega
  exact szLL_mem (es := nds l) (c := (nthD l p).d) (by
    rw [nds_eq, nthD, List.getD, List.getElem?_eq_getElem hlt]
    exact List.mem_map_of_mem (List.getElem_mem hlt))
theorem la_sz : ∀ (path : List Int) (l list : List Nd), la path l = some list → szLL (nds list) ≤ szLL (nds l)
  | [], _, _, h => by simp [la] at h
  | p :: [], l, list, h => by
    simp only [la, Option.some.injEq] at h
    subst h; exact Nat.le_refl _
  | p :: q :: t, l, list, h => by
    rw [la] at h
    split at h
    · cases h
    rename_i h1
    split at h
    · cases h
    have := la_sz (q :: t) _ _ h
    have := szL_ps (nthD l p)
    have := nthD_sz l p h1
    omega
theorem lastD_at : ∀ (path : List Int), path ≠ [] → path[path.length - 1]? = some (lastD path)
  | [], h => absurd rfl h
  | p :: [], _ => rfl
  | p :: q :: t, _ => by
    have := lastD_at (q :: t) (by simp)
    simpa [lastD] using this
/-- What a change comes to where it can be made. -/
theorem step_ok {l list : List Nd} {c : Chg} (hb : bad c = 0) (hla : la c.path l = some list) (h : ¬ (lastD c.path < 0 ∨ lastD c.path ≥ (list.length : Int) + (if c.kind = 1 then 1 else 0))) :
    stepE l c = 0 ∧ stepL l c = wl (nxt c.kind c.node list (lastD c.path) (list.length + 1)) c.path l := by
  obtain ⟨g1, g2⟩ := chg_some c.kind c.node c.path l list hla
  refine ⟨?_, by rw [stepL, g2, nxt_eq h]⟩
  rw [stepE, if_neg (by simp [hb]), g1, chg1, if_neg h]
  split
  · rfl
  · split <;> rfl
theorem step_out {l list : List Nd} {c : Chg} (hb : bad c = 0) (hla : la c.path l = some list) (h : lastD c.path < 0 ∨ lastD c.path ≥ (list.length : Int) + (if c.kind = 1 then 1 else 0)) : stepE l c = 7 := by
  obtain ⟨g1, g2⟩ := chg_some c.kind c.node c.path l list hla
  rw [stepE, if_neg (by simp [hb]), g1, chg1, if_pos h]
  rfl
theorem step_none {l : List Nd} {c : Chg} (hb : bad c = 0) (hla : la c.path l = none) : stepE l c = 7 := by
  rw [stepE, if_neg (by simp [hb])]; exact chg_none _ _ _ _ hla
theorem szL_chg (c : Chg) : szL c.d = szL c.node.d + szLL (c.path.map iI) + 2 := by
  obtain ⟨k, p, ⟨a, b, x, ps⟩⟩ := c
  simp only [Chg.d, Nd.d, szL, szD, Nd.name, Nd.attrs, Nd.text, Nd.ps]
  omega
end Go.VL.VWalk
namespace Go.VL
open Go Go.RowKit
variable {P : Program}
theorem ty_changes {t n i is nd s as a ns : Nat} {fs gs hs : Array Field} (h1 : P.underlying t = some (.slice n)) (h2 : P.underlying n = some (.struct fs)) (hf : fts fs = [i, is, nd]) (hi : P.underlying i = some (.int .i64)) (his : P.underlying is = some (.slice i))
    (hnd : P.underlying nd = some (.struct gs)) (hg : fts gs = [s, as, s, ns]) (has : P.underlying as = some (.slice a)) (ha : P.underlying a = some (.struct hs)) (hh : fts hs = [s, s]) (hst : P.underlying s = some .string) (hns : P.underlying ns = some (.slice nd)) {l : List D} (h : TyD P t l) : ∃ xs : List Chg, l = [.sl (xs.map Chg.d)] := by
  obtain ⟨es, rfl, he⟩ := h.sl_inv h1
  obtain ⟨xs, rfl⟩ := list_of' (f := Chg.d) fun c hc => by
    obtain ⟨parts, rfl, hp⟩ := (he c hc).fields h2 hf
    cases hp with | cons q1 hp => cases hp with | cons q2 hp => cases hp with | cons q3 hp => cases hp with | nil =>
    obtain ⟨k, rfl, hk⟩ := q1.int_inv hi
    obtain ⟨p, rfl, _⟩ := ty_ints his hi q2
    obtain ⟨x, rfl⟩ := (ty_nodes hns hnd hg has ha hh hst q3).2 rfl
    exact ⟨⟨k, p, x⟩, by obtain ⟨a, b, c, ps⟩ := x; rfl⟩
  exact ⟨xs, rfl⟩
end Go.VL
namespace Go.VL.VWalk
open Go Go.VL
theorem stepL_sz (l : List Nd) (c : Chg) : szLL (nds (stepL l c)) ≤ szLL (nds l) + szL c.d := by
  have := (chg_sz c.kind c.node c.path l).1
  have := szL_chg c
  unfold stepL
  omega
theorem states_sz : ∀ (cs : List Chg) (l : List Nd) (i : Nat) (s : List Nd), (l :: states l cs)[i]? = some s → szLL (nds s) ≤ szLL (nds l) + szLL (cs.map Chg.d)
  | [], l, 0, s, h => by simp at h; subst h; omega
  | [], l, i + 1, s, h => by simp [states] at h
  | c :: cs, l, 0, s, h => by simp at h; subst h; omega
  | c :: cs, l, i + 1, s, h => by
    rw [List.getElem?_cons_succ] at h
    have := states_sz cs (stepL l c) i s h
    have := stepL_sz l c
    simp only [List.map_cons, szLL]
    omega
theorem backs_sz : ∀ (cs : List Chg) (l : List Nd), ∀ b ∈ backs l cs, szL b.node.d ≤ szLL (nds l) + szLL (cs.map Chg.d) + 4 ∧ b.path.length ≤ szLL (cs.map Chg.d)
  | [], _, b, h => by simp [backs] at h
  | c :: cs, l, b, h => by
    simp only [List.map_cons, szLL]
    rw [backs, List.mem_cons] at h
    rcases h with rfl | h
    · have h1 := (chg_sz c.kind c.node c.path l).2
      have h2 := szL_chg c
      have h3 := len_iI c.path
      exact ⟨by simp only [stepB]; omega, by simp only [stepB]; omega⟩
    · obtain ⟨h1, h2⟩ := backs_sz cs (stepL l c) b h
      have := stepL_sz l c
      exact ⟨by omega, by omega⟩
end Go.VL.VWalk
