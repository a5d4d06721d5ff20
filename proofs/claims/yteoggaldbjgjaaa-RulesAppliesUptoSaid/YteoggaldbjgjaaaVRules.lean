/- Rules: nodes made in one go, and nodes made first and joined afterwards. -/
import Derived.Test.YteoggaldbjgjaaaVName
import Derived.Test.YteoggaldbjgjaaaVShow
set_option linter.unusedVariables false
set_option linter.unusedSimpArgs false
namespace Go.VL
open Go
theorem snocCases {α : Type} (o : List α) : o = [] ∨ ∃ o' n, o = o' ++ [n] := by
  rcases List.eq_nil_or_concat o with h | ⟨a, b, h⟩
  · exact .inl h
  · exact .inr ⟨a, b, by rw [h, List.concat_eq_append]⟩
theorem nameB_len {s : Str} (h : nameB s = true) : s ≠ [] ∧ s.length ≤ 12 := by
  cases s with
  | nil => simp [nameB] at h
  | cons c r =>
    simp only [nameB, Bool.and_eq_true, decide_eq_true_eq] at h
    exact ⟨by simp, by simp; omega⟩
theorem nds_snoc' (o : List Nd) (n : Nd) : nds (o ++ [n]) = nds o ++ [n.d] := by rw [nds_app]; rfl
/-- One node behind others: a text behind a text is one with it. -/
def join (o : List Nd) : Nd → List Nd
  | .mk a b c ps => if a = [] then (match o.getLast? with | some (.mk [] b' t ps') => o.dropLast ++ [.mk [] b' (t ++ c) ps'] | _ => o ++ [.mk a b c ps]) else o ++ [.mk a b c ps]
def joined (o m : List Nd) : List Nd := m.foldl join o
theorem join_elem (o : List Nd) {a b c ps} (h : a ≠ []) : join o (.mk a b c ps) = o ++ [.mk a b c ps] := by simp [join, h]
theorem join_nil (b c ps) : join [] (.mk [] b c ps) = [.mk [] b c ps] := by simp [join]
theorem join_text (o : List Nd) (b' t ps' b c ps) : join (o ++ [.mk [] b' t ps']) (.mk [] b c ps) = o ++ [.mk [] b' (t ++ c) ps'] := by simp [join]
theorem join_behind (o : List Nd) {a'} (b' t ps' b c ps) (h : a' ≠ []) : join (o ++ [.mk a' b' t ps']) (.mk [] b c ps) = o ++ [.mk a' b' t ps'] ++ [.mk [] b c ps] := by
  cases a' with
  | nil => exact absurd rfl h
  | cons x y => simp [join]
def tx (c : Str) : Nd := .mk [] [] c []
def step (o : List Nd) : Nd → List Nd
  | .mk a b c ps => if a = [] then (if c = [] then o else join o (tx c)) else o ++ [.mk a b c ps]
theorem joined_step (o m : List Nd) (n : Nd) : joined o (step m n) = step (joined o m) n := by
  obtain ⟨a, b, c, ps⟩ := n
  by_cases ha : a = []
  · by_cases hc : c = []
    · simp [step, ha, hc]
    · subst ha
      simp only [step, if_neg hc, if_true]
      rcases snocCases m with rfl | ⟨m, ⟨a', b', t, ps'⟩, rfl⟩
      · simp [tx, join_nil, joined]
      · by_cases ha' : a' = []
        · subst ha'
          rw [tx, join_text]
          simp only [joined, List.foldl_append, List.foldl_cons, List.foldl_nil]
          generalize List.foldl join o m = O
          rcases snocCases O with rfl | ⟨O, ⟨a2, b2, t2, p2⟩, rfl⟩
          · rw [join_nil, join_nil]; exact (join_text [] b' t ps' [] c []).symm
          · by_cases h2 : a2 = []
            · subst h2; rw [join_text, join_text, join_text]; simp
            · rw [join_behind _ _ _ _ _ _ _ h2, join_behind _ _ _ _ _ _ _ h2, join_text]
        · rw [tx, join_behind _ _ _ _ _ _ _ ha']
          simp only [joined, List.foldl_append, List.foldl_cons, List.foldl_nil]
  · simp only [step, if_neg ha, joined, List.foldl_append, List.foldl_cons, List.foldl_nil]
    rw [join_elem _ ha]
theorem joined_steps (o : List Nd) : ∀ (x m : List Nd), joined o (x.foldl step m) = x.foldl step (joined o m)
  | [], m => rfl
  | n :: r, m => by rw [List.foldl_cons, joined_steps o r, joined_step, List.foldl_cons]
def fl (t : Str) : List Nd := if t = [] then [] else [tx t]
def mg : Str → List Nd → List Nd
  | t, [] => fl t
  | t, .mk a b c ps :: r => if a = [] then mg (t ++ c) r else fl t ++ .mk a b c ps :: mg [] r
/-- No text at the end. -/
def noT (o : List Nd) : Prop := ∀ o' b t ps, o ≠ o' ++ [.mk [] b t ps]
theorem mg_steps : ∀ (x : List Nd) (t : Str) (o : List Nd), noT o → x.foldl step (o ++ fl t) = o ++ mg t x
  | [], t, o, h => rfl
  | .mk a b c ps :: r, t, o, h => by
    rw [List.foldl_cons, mg]
    by_cases ha : a = []
    · subst ha
      simp only [if_true]
      rw [← mg_steps r (t ++ c) o h]
      congr 1
      simp only [step, if_true]
      by_cases hc : c = []
      · simp [hc]
      · rw [if_neg hc]
        by_cases ht : t = []
        · subst ht
          simp only [fl, if_true, List.append_nil, List.nil_append, if_neg hc]
          rcases snocCases o with rfl | ⟨o, ⟨a', b', t', ps'⟩, rfl⟩
          · simp [tx, join_nil]
          · have ha' : a' ≠ [] := fun e => h o b' t' ps' (by rw [e])
            rw [tx, join_behind _ _ _ _ _ _ _ ha']
        · have : t ++ c ≠ [] := by simp [ht]
          simp only [fl, if_neg ht, if_neg this, tx]
          rw [join_text]
    · rw [if_neg ha]
      have e : step (o ++ fl t) (.mk a b c ps) = (o ++ fl t ++ [.mk a b c ps]) ++ fl [] := by simp [step, ha, fl]
      rw [e, mg_steps r [] _ (fun o' b' t' ps' e => ha (by have := List.append_inj_right' e rfl; simp at this; exact this.1))]
      simp
theorem mg_eq (x : List Nd) : mg [] x = x.foldl step [] := by
  have := mg_steps x [] [] (fun o' b t ps e => by simp at e)
  simpa [fl] using this.symm
/-- What is done with a name, by the first rule of it. -/
def act (l : List Rule) (s : Str) : Int × Str := match l.find? (fun r => r.name == s) with | some r => (r.do_, r.to) | none => (2, [])
mutual
def ofN (l : List Rule) : Nd → List Nd → List Nd
  | .mk a b c ps, o => if a = [] then (if c = [] then o else join o (tx c))
    else if (act l a).1 = 1 then o ++ [.mk (act l a).2 b [] (ofL l ps [])] else if (act l a).1 = 2 then joined o (ofL l ps []) else o
def ofL (l : List Rule) : List Nd → List Nd → List Nd
  | [], o => o
  | n :: r, o => ofL l r (ofN l n o)
end
mutual
def ruN (l : List Rule) : Nd → List Nd
  | .mk a b c ps => if a = [] then [tx c] else if (act l a).1 = 1 then [.mk (act l a).2 b [] (mg [] (ruL l ps))] else if (act l a).1 = 2 then ruL l ps else []
def ruL (l : List Rule) : List Nd → List Nd
  | [] => []
  | n :: r => ruN l n ++ ruL l r
end
def okR' (l : List Rule) : Prop := ∀ r ∈ l, r.do_ = 1 → r.to ≠ [] ∧ r.to.length ≤ 12
theorem act_ok {l : List Rule} (h : okR' l) {s : Str} (h1 : (act l s).1 = 1) : (act l s).2 ≠ [] ∧ (act l s).2.length ≤ 12 := by
  unfold act at h1 ⊢
  split at h1
  · rename_i r hr
    simp only [hr]
    exact h r (List.mem_of_find?_eq_some hr) h1
  · simp at h1
mutual
theorem ofN_eq {l : List Rule} (h : okR' l) : ∀ (n : Nd) (o : List Nd), ofN l n o = (ruN l n).foldl step o
  | .mk a b c ps, o => by
    rw [ofN, ruN]
    by_cases ha : a = []
    · subst ha; simp [step, tx]
    · rw [if_neg ha, if_neg ha]
      by_cases h1 : (act l a).1 = 1
      · rw [if_pos h1, if_pos h1, ofL_eq h ps [], mg_eq]
        simp [step, (act_ok h h1).1]
      · rw [if_neg h1, if_neg h1]
        by_cases h2 : (act l a).1 = 2
        · rw [if_pos h2, if_pos h2, ofL_eq h ps [], joined_steps]; rfl
        · rw [if_neg h2, if_neg h2]; rfl
theorem ofL_eq {l : List Rule} (h : okR' l) : ∀ (ns : List Nd) (o : List Nd), ofL l ns o = (ruL l ns).foldl step o
  | [], o => by simp [ofL, ruL]
  | n :: r, o => by rw [ofL, ruL, List.foldl_append, ofL_eq h r, ofN_eq h n]
end
theorem of_merged {l : List Rule} (h : okR' l) (ns : List Nd) : ofL l ns [] = mg [] (ruL l ns) := by rw [ofL_eq h, mg_eq]
theorem ofL_at (rl : List Rule) {l : List Nd} {i : Nat} {n : Nd} (h : l[i]? = some n) (o : List Nd) : ofL rl (l.drop i) o = ofL rl (l.drop (i + 1)) (ofN rl n o) := by rw [drop_cons h, ofL]
theorem ruL_take (rl : List Rule) : ∀ {l : List Nd} {i : Nat} {n : Nd}, l[i]? = some n → ruL rl (l.take (i + 1)) = ruL rl (l.take i) ++ ruN rl n
  | [], _, _, h => by simp at h
  | m :: r, 0, n, h => by simp at h; subst h; simp [ruL]
  | m :: r, i + 1, n, h => by
    have := ruL_take rl (l := r) (i := i) (n := n) (by simpa using h)
    simp only [List.take_succ_cons, ruL, this, List.append_assoc]
theorem join_sz (o : List Nd) (n : Nd) : szLL (nds (join o n)) ≤ szLL (nds o) + szL n.d := by
  obtain ⟨a, b, c, ps⟩ := n
  by_cases ha : a = []
  · subst ha
    rcases snocCases o with rfl | ⟨o, ⟨a', b', t, ps'⟩, rfl⟩
    · rw [join_nil]; simp [nds, szLL]
    · by_cases ha' : a' = []
      · subst ha'
        rw [join_text, nds_snoc', nds_snoc', szLL_app, szLL_app]
        simp [Nd.d, szL, szLL, szD, nds]; omega
      · rw [join_behind _ _ _ _ _ _ _ ha', nds_snoc', szLL_app]
        simp [szLL]
  · rw [join_elem _ ha, nds_snoc', szLL_app]; simp [szLL]
theorem joined_sz : ∀ (m o : List Nd), szLL (nds (joined o m)) ≤ szLL (nds o) + szLL (nds m)
  | [], o => by simp [joined]
  | n :: r, o => by
    have h1 := join_sz o n
    have h2 := joined_sz r (join o n)
    simp only [joined, List.foldl_cons] at h2 ⊢
    simp only [nds, szLL]; omega
mutual
theorem ofN_sz {l : List Rule} (h : okR' l) : ∀ (n : Nd) (o : List Nd), szLL (nds (ofN l n o)) ≤ szLL (nds o) + 8 * szL n.d
  | .mk a b c ps, o => by
    have h1 := ofL_sz h ps []
    have h2 := join_sz o (tx c)
    have h3 := joined_sz (ofL l ps []) o
    simp only [nds, szLL] at h1
    simp only [tx, Nd.d, szL, szD, nds, szLL, List.map_nil, List.length_nil] at h2
    rw [ofN]
    simp only [Nd.d, szL, szD]
    split
    · split
      · omega
      · simp only [tx]; omega
    · split
      · have h4 := (act_ok h (by assumption)).2
        rw [nds_snoc', szLL_app]
        simp only [Nd.d, szL, szD, szLL, List.length_nil]; omega
      · split
        · omega
        · omega
theorem ofL_sz {l : List Rule} (h : okR' l) : ∀ (ns : List Nd) (o : List Nd), szLL (nds (ofL l ns o)) ≤ szLL (nds o) + 8 * szLL (nds ns)
  | [], o => by simp [ofL]
  | n :: r, o => by
    have h1 := ofN_sz h n o
    have h2 := ofL_sz h r (ofN l n o)
    rw [ofL]; simp only [nds, szLL]; omega
end
theorem fl_sz (t : Str) : szLL (nds (fl t)) ≤ 4 + t.length := by
  unfold fl
  split
  · simp [nds, szLL]
  · simp [tx, nds, szLL, Nd.d, szL, szD]; omega
theorem mg_sz : ∀ (x : List Nd) (t : Str), szLL (nds (mg t x)) ≤ 4 + t.length + 4 * x.length + szLL (nds x)
  | [], t => by have := fl_sz t; simp only [mg, nds, szLL]; omega
  | .mk a b c ps :: r, t => by
    have h1 := mg_sz r (t ++ c)
    have h2 := mg_sz r []
    have h3 := fl_sz t
    rw [mg]
    simp only [List.length_append, List.length_nil] at h1 h2
    split
    · simp only [nds, szLL, Nd.d, szL, szD, List.length_cons]; omega
    · rw [nds_app, szLL_app]
      simp only [nds, szLL, Nd.d, szL, szD, List.length_cons]; omega
mutual
theorem ruN_sz {l : List Rule} (h : okR' l) : ∀ n : Nd, szLL (nds (ruN l n)) ≤ 8 * szL n.d
  | .mk a b c ps => by
    have h1 := ofL_sz h ps []
    have h2 := ruL_sz h ps
    rw [of_merged h] at h1
    simp only [nds, szLL] at h1
    rw [ruN]
    simp only [Nd.d, szL, szD]
    split
    · simp [tx, nds, Nd.d, szL, szD, szLL]; omega
    · split
      · have h4 := (act_ok h (by assumption)).2
        simp only [nds, Nd.d, szL, szD, szLL, List.length_nil]; omega
      · split
        · omega
        · simp [nds, szLL]
theorem ruL_sz {l : List Rule} (h : okR' l) : ∀ ns : List Nd, szLL (nds (ruL l ns)) ≤ 8 * szLL (nds ns)
  | [] => by simp [ruL, nds, szLL]
  | n :: r => by
    have h1 := ruN_sz h n
    have h2 := ruL_sz h r
    rw [ruL, nds_app, szLL_app]; simp only [nds, szLL]; omega
end
def nmP (a : Str) (q : Rule) : Bool := q.name == a
theorem act_idx (l : List Rule) (a : Str) : (idx (nmP a) l = -1 ∧ act l a = (2, [])) ∨ ∃ (k : Nat) (r : Rule), idx (nmP a) l = k ∧ l[k]? = some r ∧ act l a = (r.do_, r.to) := by
  induction l with
  | nil => exact .inl ⟨rfl, rfl⟩
  | cons x r ih =>
    by_cases hx : (x.name == a) = true
    · exact .inr ⟨0, x, by simp [idx, nmP, hx], rfl, by simp [act, hx]⟩
    · have hf : act (x :: r) a = act r a := by simp [act, List.find?_cons, hx]
      rcases ih with ⟨h1, h2⟩ | ⟨k, q, h1, h2, h3⟩
      · exact .inl ⟨by simp [idx, nmP, hx]; omega, by rw [hf, h2]⟩
      · exact .inr ⟨k + 1, q, by simp [idx, nmP, hx]; rw [h1]; split <;> omega, by simpa using h2, by rw [hf, h3]⟩
theorem act_take {l : List Rule} {j : Nat} {r : Rule} (h : l[j]? = some r) (hd : ∀ q ∈ l.take j, q.name ≠ r.name) (a : Str) : act (l.take (j + 1)) a = if r.name = a then (r.do_, r.to) else act (l.take j) a := by
  unfold act
  rw [List.take_add_one, h, List.find?_append]
  by_cases hr : r.name = a
  · have : (l.take j).find? (fun r => r.name == a) = none := by
      rw [List.find?_eq_none]
      intro q hq
      have := hd q hq
      rw [hr] at this
      simpa using this
    rw [this, if_pos hr]
    simp [hr]
  · rw [if_neg hr]
    cases hf : (l.take j).find? (fun r => r.name == a) with
    | some q => simp
    | none => simp [hr]
end Go.VL
