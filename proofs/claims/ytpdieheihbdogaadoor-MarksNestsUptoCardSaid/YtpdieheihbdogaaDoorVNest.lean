/- Runs as nodes: by groups, and run by run. -/
import Derived.Test.YtpdieheihbdogaaDoorVTy4
set_option linter.unusedVariables false
set_option linter.unusedSimpArgs false
namespace Go.VL
open Go
/-- The reference's add, told plainly. -/
def addNd : List Nd → List Str → Str → Nat → List Nd
  | es, [], tx, _ => es ++ [.mk [] [] tx []]
  | es, n :: ns, tx, 0 => es ++ [.mk n [] [] (addNd [] ns tx 0)]
  | es, _ :: ns, tx, o + 1 => match es.getLast? with
    | some (.mk a b c ps) => es.dropLast ++ [.mk a b c (addNd ps ns tx o)]
    | none => []
theorem addNd_last (pre : List Nd) (a : Str) (b : List Attr) (c : Str) (ps : List Nd) (n : Str) (ns : List Str) (tx : Str) (o : Nat) : addNd (pre ++ [.mk a b c ps]) (n :: ns) tx (o + 1) = pre ++ [.mk a b c (addNd ps ns tx o)] := by
  simp [addNd]
/-- How many marks are alike from the first one on. -/
def cpl : List Str → List Str → Nat
  | a :: l, b :: r => if a = b then cpl l r + 1 else 0
  | _, _ => 0
theorem cpl_le : ∀ a b : List Str, cpl a b ≤ a.length ∧ cpl a b ≤ b.length
  | [], b => by simp [cpl]
  | a :: l, [] => by simp [cpl]
  | a :: l, b :: r => by
    have := cpl_le l r
    rw [cpl]
    split <;> simp <;> omega
theorem cpl_app : ∀ p a b : List Str, cpl (p ++ a) (p ++ b) = p.length + cpl a b
  | [], a, b => by simp
  | x :: p, a, b => by
    rw [List.cons_append, List.cons_append, cpl, if_pos rfl, cpl_app p a b]
    simp; omega
/-- Runs by groups: all of them begin with the marks p. -/
inductive Nst : List Str → List Run → List Nd → Prop where
  | nil (p : List Str) : Nst p [] []
  | leaf {p : List Str} {r : Run} {l : List Run} {o : List Nd} (hr : r.marks = p) (h : Nst p l o) : Nst p (r :: l) (.mk [] [] r.text [] :: o)
  | node {p : List Str} {m : Str} {l1 l2 : List Run} {o1 o2 : List Nd} (h0 : l1 ≠ []) (h1 : ∀ q ∈ l1, ∃ t, q.marks = p ++ m :: t) (h2 : ∀ q, l2.head? = some q → ∀ t, q.marks ≠ p ++ m :: t)
      (k1 : Nst (p ++ [m]) l1 o1) (k2 : Nst p l2 o2) : Nst p (l1 ++ l2) (.mk m [] [] o1 :: o2)
/-- Run by run, the first d marks left out. -/
def nstS (d : Nat) (a : List Nd × List Str) (r : Run) : List Nd × List Str := (addNd a.1 (r.marks.drop d) r.text (cpl a.2 r.marks - d), r.marks)
def nstF (d : Nat) (a : List Nd × List Str) (l : List Run) : List Nd × List Str := l.foldl (nstS d) a
theorem addNd_ne : ∀ (es : List Nd) (ns : List Str) (tx : Str) (o : Nat), (es ≠ [] ∨ o = 0) → addNd es ns tx o ≠ []
  | es, [], tx, o, _ => by simp [addNd]
  | es, n :: ns, tx, 0, _ => by simp [addNd]
  | es, n :: ns, tx, o + 1, h => by
    rcases List.eq_nil_or_concat es with rfl | ⟨pre, nd, rfl⟩
    · rcases h with h | h
      · exact absurd rfl h
      · omega
    · obtain ⟨a, b, c, ps⟩ := nd
      rw [List.concat_eq_append, addNd_last]; simp
theorem addNd_pre (pre es : List Nd) (ns : List Str) (tx : Str) (o : Nat) (h : es ≠ [] ∨ o = 0) : addNd (pre ++ es) ns tx o = pre ++ addNd es ns tx o := by
  cases ns with
  | nil => simp [addNd]
  | cons n ns =>
    cases o with
    | zero => simp [addNd]
    | succ o =>
      rcases List.eq_nil_or_concat es with rfl | ⟨q, nd, rfl⟩
      · rcases h with h | h
        · exact absurd rfl h
        · omega
      · obtain ⟨a, b, c, ps⟩ := nd
        rw [List.concat_eq_append, ← List.append_assoc, addNd_last, addNd_last, List.append_assoc]
theorem nstF_pre (d : Nat) (pre : List Nd) : ∀ (l : List Run) (es : List Nd) (last : List Str), (es ≠ [] ∨ ∀ q, l.head? = some q → cpl last q.marks - d = 0) → (nstF d (pre ++ es, last) l) = (pre ++ (nstF d (es, last) l).1, (nstF d (es, last) l).2)
  | [], es, last, h => rfl
  | r :: l, es, last, h => by
    have h1 : es ≠ [] ∨ cpl last r.marks - d = 0 := h.imp (fun h => h) (fun h => h r rfl)
    have ih := nstF_pre d pre l (addNd es (r.marks.drop d) r.text (cpl last r.marks - d)) r.marks (.inl (addNd_ne _ _ _ _ h1))
    unfold nstF at *
    rw [List.foldl_cons, List.foldl_cons, nstS, nstS]
    dsimp only
    rw [addNd_pre _ _ _ _ _ h1]
    exact ih
/-- A run that opens nothing of the last one's: what the last one was does not matter. -/
theorem nstF_last (d : Nat) (l : List Run) (es : List Nd) (a b : List Str) (h : ∀ q, l.head? = some q → cpl a q.marks - d = cpl b q.marks - d) (hl : l ≠ []) : nstF d (es, a) l = nstF d (es, b) l := by
  cases l with
  | nil => exact absurd rfl hl
  | cons r l =>
    unfold nstF
    rw [List.foldl_cons, List.foldl_cons, nstS, nstS]
    dsimp only
    rw [h r rfl]
/-- Within one mark. -/
theorem nstF_in (p : List Str) (m : Str) : ∀ (l : List Run) (es : List Nd) (last : List Str), (∀ q ∈ l, ∃ t, q.marks = p ++ m :: t) → (∃ t, last = p ++ m :: t) →
    nstF p.length ([.mk m [] [] es], last) l = ([.mk m [] [] (nstF (p.length + 1) (es, last) l).1], (nstF (p.length + 1) (es, last) l).2)
  | [], es, last, _, _ => rfl
  | r :: l, es, last, h, ⟨t, ht⟩ => by
    obtain ⟨u, hu⟩ := h r (by simp)
    have ih := nstF_in p m l (addNd es (r.marks.drop (p.length + 1)) r.text (cpl last r.marks - (p.length + 1))) r.marks (fun q hq => h q (by simp [hq])) ⟨u, hu⟩
    unfold nstF at *
    rw [List.foldl_cons, List.foldl_cons, nstS, nstS]
    dsimp only
    have e1 : r.marks.drop p.length = m :: r.marks.drop (p.length + 1) := by
      rw [hu, ← List.drop_drop]; simp
    have e2 : cpl last r.marks - p.length = (cpl last r.marks - (p.length + 1)) + 1 := by
      have : cpl last r.marks = p.length + (cpl t u + 1) := by rw [hu, ht, cpl_app, cpl, if_pos rfl]
      omega
    rw [e1, e2, show ([Nd.mk m [] [] es] : List Nd) = [] ++ [.mk m [] [] es] from rfl, addNd_last]
    exact ih
theorem nstF_lst (d : Nat) : ∀ (l : List Run) (a : List Nd × List Str), l ≠ [] → ∃ q ∈ l, (nstF d a l).2 = q.marks
  | [], a, h => absurd rfl h
  | [r], a, _ => ⟨r, by simp, rfl⟩
  | r :: q :: l, a, _ => by
    obtain ⟨x, h1, h2⟩ := nstF_lst d (q :: l) (nstS d a r) (by simp)
    exact ⟨x, List.mem_cons_of_mem _ h1, h2⟩
theorem nst_eq {p : List Str} {l : List Run} {o : List Nd} (h : Nst p l o) (hp : ∀ q ∈ l, ∃ t, q.marks = p ++ t) : (nstF p.length ([], []) l).1 = o := by
  induction h with
  | nil p => rfl
  | @leaf p r l o hr h ih =>
    have ih := ih (fun q hq => hp q (by simp [hq]))
    unfold nstF
    rw [List.foldl_cons, nstS]
    dsimp only
    have e1 : r.marks.drop p.length = [] := by rw [hr]; simp
    rw [e1]
    have e2 : addNd [] [] r.text (cpl [] r.marks - p.length) = [.mk [] [] r.text []] := by simp [addNd]
    rw [e2]
    have hz : ∀ q, l.head? = some q → cpl r.marks q.marks - p.length = 0 := fun q hq => by
      have := (cpl_le r.marks q.marks).1
      rw [hr] at this ⊢; omega
    have h3 := nstF_pre p.length [.mk [] [] r.text []] l [] r.marks (.inr hz)
    rw [List.append_nil] at h3
    show (nstF p.length ([.mk [] [] r.text []], r.marks) l).1 = _
    rw [h3]
    dsimp only
    rw [List.singleton_append, List.cons.injEq]
    refine ⟨rfl, ?_⟩
    rw [← ih]
    by_cases hl : l = []
    · subst hl; rfl
    · rw [nstF_last p.length l [] r.marks [] (fun q hq => by rw [hz q hq]; cases q.marks <;> simp [cpl]) hl]
  | @node p m l1 l2 o1 o2 h0 h1 h2 k1 k2 ih1 ih2 =>
    have ih1 := ih1 (fun q hq => by obtain ⟨t, ht⟩ := h1 q hq; exact ⟨t, by rw [ht]; simp⟩)
    have ih2 := ih2 (fun q hq => hp q (by simp [hq]))
    have hlen : (p ++ [m]).length = p.length + 1 := by simp
    rw [hlen] at ih1
    cases l1 with
    | nil => exact absurd rfl h0
    | cons r l1 =>
      obtain ⟨u, hu⟩ := h1 r (by simp)
      have e1 : r.marks.drop p.length = m :: r.marks.drop (p.length + 1) := by rw [hu, ← List.drop_drop]; simp
      have hin := nstF_in p m l1 (addNd [] (r.marks.drop (p.length + 1)) r.text 0) r.marks (fun q hq => h1 q (by simp [hq])) ⟨u, hu⟩
      have hfst : nstF p.length ([], []) (r :: l1) = ([.mk m [] [] o1], (nstF (p.length + 1) ([], []) (r :: l1)).2) := by
        rw [← ih1]
        unfold nstF at hin ⊢
        rw [List.foldl_cons, List.foldl_cons, nstS, nstS]
        dsimp only
        rw [e1, show cpl [] r.marks - p.length = 0 by simp [cpl], show cpl [] r.marks - (p.length + 1) = 0 by simp [cpl], addNd, List.nil_append]
        exact hin
      have hz : ∀ q, l2.head? = some q → ∀ z ∈ r :: l1, cpl z.marks q.marks - p.length = 0 := fun q hq z hz => by
        obtain ⟨t, ht⟩ := h1 z hz
        obtain ⟨t2, ht2⟩ := hp q (by simp [List.mem_of_mem_head? hq])
        rw [ht, ht2, cpl_app]
        cases t2 with
        | nil => simp [cpl]
        | cons x t2 =>
          rw [cpl, if_neg]
          · omega
          · rintro rfl; exact h2 q hq t2 ht2
      unfold nstF
      rw [List.foldl_append]
      show (nstF p.length (nstF p.length ([], []) (r :: l1)) l2).1 = _
      obtain ⟨z, hz1, hz2⟩ := nstF_lst (p.length + 1) (r :: l1) ([], []) (by simp)
      rw [hfst, hz2]
      have h3 := nstF_pre p.length [.mk m [] [] o1] l2 [] z.marks (.inr (fun q hq => hz q hq z hz1))
      rw [List.append_nil] at h3
      rw [h3]
      dsimp only
      rw [List.singleton_append, List.cons.injEq]
      refine ⟨rfl, ?_⟩
      rw [← ih2]
      by_cases hl : l2 = []
      · subst hl; rfl
      · rw [nstF_last p.length l2 [] z.marks [] (fun q hq => by rw [hz q hq z hz1]; cases q.marks <;> simp [cpl]) hl]
end Go.VL

/- Runs as nodes: the value and its steps. -/
namespace Go.VL
open Go
/-- How much there is to do. -/
def wtN (d : Nat) (l : List Run) : Nat := (l.map fun q => q.marks.length - d + 1).sum
theorem wtN_cons (d : Nat) (r : Run) (l : List Run) : wtN d (r :: l) = (r.marks.length - d + 1) + wtN d l := by simp [wtN]
theorem wtN_app (d : Nat) (a b : List Run) : wtN d (a ++ b) = wtN d a + wtN d b := by simp [wtN]
theorem wtN_up (d : Nat) : ∀ (l : List Run), (∀ q ∈ l, d < q.marks.length) → wtN (d + 1) l + l.length ≤ wtN d l
  | [], _ => by simp [wtN]
  | r :: l, h => by
    have := wtN_up d l (fun q hq => h q (by simp [hq]))
    have := h r (by simp)
    rw [wtN_cons, wtN_cons]; simp; omega
/-- The run goes with those of mark m. -/
def inG (d : Nat) (m : Str) (q : Run) : Bool := decide (q.marks[d]? = some m)
theorem inG_iff {p : List Str} {m : Str} {q : Run} (h : ∃ t, q.marks = p ++ t) : inG p.length m q = true ↔ ∃ t, q.marks = p ++ m :: t := by
  obtain ⟨t, ht⟩ := h
  unfold inG
  rw [ht, decide_eq_true_iff]
  rw [List.getElem?_append_right (Nat.le_refl _), Nat.sub_self]
  cases t with
  | nil => simp
  | cons x t => simp
theorem tw_all (f : Run → Bool) : ∀ (l : List Run), ∀ q ∈ l.takeWhile f, f q = true
  | [], q, h => by simp at h
  | r :: l, q, h => by
    rw [List.takeWhile_cons] at h
    split at h
    · rcases List.mem_cons.1 h with rfl | h
      · assumption
      · exact tw_all f l q h
    · simp at h
theorem nst_ex : ∀ (N : Nat) (p : List Str) (l : List Run), wtN p.length l ≤ N → (∀ q ∈ l, ∃ t, q.marks = p ++ t) → ∃ o, Nst p l o
  | N, p, [], _, _ => ⟨_, .nil p⟩
  | 0, p, r :: l, h, _ => by rw [wtN_cons] at h; omega
  | N + 1, p, r :: l, h, hp => by
    obtain ⟨t, ht⟩ := hp r (by simp)
    cases t with
    | nil =>
      obtain ⟨o, ho⟩ := nst_ex N p l (by rw [wtN_cons] at h; omega) (fun q hq => hp q (by simp [hq]))
      exact ⟨_, .leaf (by simpa using ht) ho⟩
    | cons m t =>
      have hr : inG p.length m r = true := (inG_iff ⟨_, ht⟩).2 ⟨t, ht⟩
      have hsp := List.takeWhile_append_dropWhile (p := inG p.length m) (l := r :: l)
      have h1 : ∀ q ∈ (r :: l).takeWhile (inG p.length m), ∃ t, q.marks = p ++ m :: t := fun q hq => by
        have hm : q ∈ r :: l := by rw [← hsp]; exact List.mem_append_left _ hq
        exact (inG_iff (hp q hm)).1 (tw_all _ _ q hq)
      have hne : (r :: l).takeWhile (inG p.length m) ≠ [] := by rw [List.takeWhile_cons, if_pos hr]; simp
      have hw : wtN p.length ((r :: l).takeWhile (inG p.length m)) + wtN p.length ((r :: l).dropWhile (inG p.length m)) ≤ N + 1 := by rw [← wtN_app, hsp]; exact h
      have hup := wtN_up p.length _ (fun q hq => by obtain ⟨t, ht⟩ := h1 q hq; rw [ht]; simp)
      have hl := List.length_pos_iff.mpr hne
      obtain ⟨o1, k1⟩ := nst_ex N (p ++ [m]) ((r :: l).takeWhile (inG p.length m)) (by simp only [List.length_append, List.length_cons, List.length_nil, Nat.zero_add]; omega) (fun q hq => by obtain ⟨t, ht⟩ := h1 q hq; exact ⟨t, by rw [ht]; simp⟩)
      obtain ⟨o2, k2⟩ := nst_ex N p ((r :: l).dropWhile (inG p.length m)) (by omega) (fun q hq => hp q (by rw [← hsp]; exact List.mem_append_right _ hq))
      have := Nst.node (m := m) hne h1 (fun q hq t ht => by
        have hm : q ∈ (r :: l).dropWhile (inG p.length m) := List.mem_of_mem_head? hq
        have h2 := List.head?_dropWhile_not (inG p.length m) (r :: l)
        rw [hq] at h2
        have h3 : inG p.length m q = true := (inG_iff ⟨_, ht⟩).2 ⟨t, ht⟩
        simp [h3] at h2) k1 k2
      rw [hsp] at this
      exact ⟨_, this⟩
/-- The nodes of runs of which the first d marks are done. -/
def nstV (d : Nat) (l : List Run) : List Nd := (nstF d ([], []) l).1
theorem nst_val {p : List Str} {l : List Run} (hp : ∀ q ∈ l, ∃ t, q.marks = p ++ t) : Nst p l (nstV p.length l) := by
  obtain ⟨o, ho⟩ := nst_ex _ p l (Nat.le_refl _) hp
  rw [nstV, nst_eq ho hp]; exact ho
theorem nstV_nil (d : Nat) : nstV d [] = [] := rfl
theorem nstV_leaf {p : List Str} {r : Run} {l : List Run} (hp : ∀ q ∈ r :: l, ∃ t, q.marks = p ++ t) (hr : r.marks.length = p.length) : nstV p.length (r :: l) = .mk [] [] r.text [] :: nstV p.length l := by
  obtain ⟨t, ht⟩ := hp r (by simp)
  have h0 : t = [] := by rw [ht] at hr; simpa using hr
  subst h0
  exact nst_eq (.leaf (by simpa using ht) (nst_val (fun q hq => hp q (by simp [hq])))) hp
theorem nstV_node {p : List Str} {m : Str} {l1 l2 : List Run} (hp : ∀ q ∈ l1 ++ l2, ∃ t, q.marks = p ++ t) (h0 : l1 ≠ []) (h1 : ∀ q ∈ l1, inG p.length m q = true) (h2 : ∀ q, l2.head? = some q → inG p.length m q = false) :
    nstV p.length (l1 ++ l2) = .mk m [] [] (nstV (p.length + 1) l1) :: nstV p.length l2 := by
  have k1 : ∀ q ∈ l1, ∃ t, q.marks = p ++ m :: t := fun q hq => (inG_iff (hp q (by simp [hq]))).1 (h1 q hq)
  have e := nst_val (p := p ++ [m]) (l := l1) (fun q hq => by obtain ⟨t, ht⟩ := k1 q hq; exact ⟨t, by rw [ht]; simp⟩)
  rw [show (p ++ [m]).length = p.length + 1 by simp] at e
  exact nst_eq (.node h0 k1 (fun q hq t ht => by
    have := h2 q hq
    rw [(inG_iff ⟨_, ht⟩).2 ⟨t, ht⟩] at this; cases this) e (nst_val (fun q hq => hp q (by simp [hq])))) hp
end Go.VL
