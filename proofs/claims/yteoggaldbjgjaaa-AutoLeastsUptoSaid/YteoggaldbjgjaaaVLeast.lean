/- The least word: in the order in which states are met; by how far each state is from an end. -/
import Derived.Test.YteoggaldbjgjaaaVTy3
set_option linter.unusedVariables false
set_option linter.unusedSimpArgs false
namespace Go.VL
open Go
abbrev Met := Nat × List Int
def tot (A : Nat → Nat) (q : Met) : Nat := q.2.length + A q.1
/-- The word that always takes the least letter that leads nearer. -/
def stepTo (A : Nat → Nat) (k : Nat) : Int → List Int → Option (Int × Nat)
  | _, [] => none
  | c, to :: r => if 0 ≤ to ∧ A to.toNat = k then some (c, to.toNat) else stepTo A k (c + 1) r
def gS (l : List (List Int)) (A : Nat → Nat) : Nat → Nat → List Int
  | 0, _ => []
  | k + 1, s => match stepTo A k 0 (l.getD s []) with
    | some (c, to) => c :: gS l A k to
    | none => []
structure Dist (l : List (List Int)) (b : List Bool) (A : Nat → Nat) : Prop where
  rng : ∀ s, s < l.length → ∀ to ∈ l.getD s [], to < (l.length : Int)
  fin : ∀ s, s < l.length → (A s = 0 ↔ b.getD s false = true)
  edge : ∀ s, s < l.length → ∀ to ∈ l.getD s [], 0 ≤ to → A s ≤ A to.toNat + 1
  some_ : ∀ s, s < l.length → 0 < A s → A s < 1000 → ∃ to ∈ l.getD s [], 0 ≤ to ∧ A to.toNat + 1 = A s
  small : ∀ s, s < l.length → A s < 1000 → A s < 999
/-- What is met from a row on: letters from c on. -/
def kids (w : List Int) : Int → List Int → List Bool → List Met
  | _, [], _ => []
  | c, to :: r, sn => if 0 ≤ to ∧ sn.getD to.toNat false = false then (to.toNat, w ++ [c]) :: kids w (c + 1) r (sn.set to.toNat true) else kids w (c + 1) r sn
def seenX : List Int → List Bool → List Bool
  | [], sn => sn
  | to :: r, sn => if 0 ≤ to ∧ sn.getD to.toNat false = false then seenX r (sn.set to.toNat true) else seenX r sn
def free (sn : List Bool) : Nat := sn.countP (fun x => !x)
theorem getD_set {sn : List Bool} {i j : Nat} (h : i < sn.length) : (sn.set i true).getD j false = if i = j then true else sn.getD j false := by
  simp only [List.getD_eq_getElem?_getD, List.getElem?_set]
  by_cases e : i = j
  · subst e; simp [h]
  · simp [e]
theorem free_set {sn : List Bool} {i : Nat} (h : i < sn.length) (h0 : sn.getD i false = false) : free (sn.set i true) + 1 = free sn := by
  unfold free
  induction sn generalizing i with
  | nil => simp at h
  | cons x r ih =>
    cases i with
    | zero =>
      simp at h0
      simp [h0]
    | succ i =>
      have := ih (i := i) (by simpa using h) (by simpa using h0)
      cases x <;> simp [List.set_cons_succ] <;> omega
theorem seenX_len : ∀ (r : List Int) (sn : List Bool), (seenX r sn).length = sn.length
  | [], _ => rfl
  | to :: r, sn => by rw [seenX]; split <;> simp [seenX_len r]
theorem seenX_mono : ∀ (r : List Int) (sn : List Bool) (j : Nat), (∀ to ∈ r, to < (sn.length : Int)) → sn.getD j false = true → (seenX r sn).getD j false = true
  | [], _, _, _, h => h
  | to :: r, sn, j, hr, h => by
    rw [seenX]
    split
    · refine seenX_mono r _ j (fun t ht => by simpa using hr t (by simp [ht])) ?_
      rw [getD_set (by have := hr to (by simp); omega)]
      split
      · rfl
      · exact h
    · exact seenX_mono r sn j (fun t ht => hr t (by simp [ht])) h
/-- Behind a row all that it leads to are seen. -/
theorem seenX_all : ∀ (r : List Int) (sn : List Bool), (∀ to ∈ r, to < (sn.length : Int)) → ∀ to ∈ r, 0 ≤ to → (seenX r sn).getD to.toNat false = true
  | [], _, _, to, h, _ => by simp at h
  | x :: r, sn, hr, to, h, h0 => by
    have hx := hr x (by simp)
    rw [seenX]
    rcases List.mem_cons.mp h with rfl | h
    · split
      · refine seenX_mono r _ _ (fun t ht => by simpa using hr t (by simp [ht])) ?_
        rw [getD_set (by omega)]; simp
      · rename_i hn
        refine seenX_mono r _ _ (fun t ht => hr t (by simp [ht])) ?_
        cases hs : sn.getD to.toNat false
        · exact absurd ⟨h0, hs⟩ hn
        · rfl
    · split
      · exact seenX_all r _ (fun t ht => by simpa using hr t (by simp [ht])) to h h0
      · exact seenX_all r sn (fun t ht => hr t (by simp [ht])) to h h0
/-- What is seen behind a row was seen ahead of it, or was met. -/
theorem seenX_inv (w : List Int) : ∀ (r : List Int) (c : Int) (sn : List Bool) (j : Nat), (∀ to ∈ r, to < (sn.length : Int)) → (seenX r sn).getD j false = true → sn.getD j false = true ∨ ∃ v, (j, v) ∈ kids w c r sn
  | [], _, _, _, _, h => .inl h
  | to :: r, c, sn, j, hr, h => by
    have hx := hr to (by simp)
    rw [seenX] at h
    rw [kids]
    split at h
    · rename_i hc
      rw [if_pos hc]
      rcases seenX_inv w r (c + 1) _ j (fun t ht => by simpa using hr t (by simp [ht])) h with h1 | ⟨v, h1⟩
      · rw [getD_set (by omega)] at h1
        by_cases e : to.toNat = j
        · exact .inr ⟨_, by rw [← e]; exact List.mem_cons_self ..⟩
        · rw [if_neg e] at h1; exact .inl h1
      · exact .inr ⟨v, List.mem_cons_of_mem _ h1⟩
    · rename_i hc
      rw [if_neg hc]
      exact seenX_inv w r (c + 1) sn j (fun t ht => hr t (by simp [ht])) h
theorem kids_mem (w : List Int) : ∀ (r : List Int) (c : Int) (sn : List Bool) (q : Met), q ∈ kids w c r sn → ∃ to ∈ r, 0 ≤ to ∧ q.1 = to.toNat ∧ q.2.length = w.length + 1
  | [], _, _, q, h => by simp [kids] at h
  | to :: r, c, sn, q, h => by
    rw [kids] at h
    split at h
    · rename_i hc
      rcases List.mem_cons.mp h with rfl | h
      · exact ⟨to, by simp, hc.1, rfl, by simp⟩
      · obtain ⟨t, h1, h2⟩ := kids_mem w r _ _ q h; exact ⟨t, by simp [h1], h2⟩
    · obtain ⟨t, h1, h2⟩ := kids_mem w r _ _ q h; exact ⟨t, by simp [h1], h2⟩
theorem kids_free (w : List Int) : ∀ (r : List Int) (c : Int) (sn : List Bool), (∀ to ∈ r, to < (sn.length : Int)) → free (seenX r sn) + (kids w c r sn).length = free sn
  | [], _, _, _ => by simp [kids, seenX]
  | to :: r, c, sn, hr => by
    have hx := hr to (by simp)
    rw [kids, seenX]
    split
    · rename_i hc
      have h1 := kids_free w r (c + 1) (sn.set to.toNat true) (fun t ht => by simpa using hr t (by simp [ht]))
      have h2 := free_set (sn := sn) (i := to.toNat) (by omega) hc.2
      simp only [List.length_cons]; omega
    · exact kids_free w r (c + 1) sn (fun t ht => hr t (by simp [ht]))
/-- The first letter that leads nearer is met, if nothing at that distance was seen before; those met ahead of it are not so near. -/
theorem kids_step (A : Nat → Nat) (k : Nat) (w : List Int) : ∀ (r : List Int) (c : Int) (sn : List Bool) (c' : Int) (to : Nat), (∀ t ∈ r, t < (sn.length : Int)) → stepTo A k c r = some (c', to) → (sn.getD to false = false) →
    ∃ n1 n2, kids w c r sn = n1 ++ (to, w ++ [c']) :: n2 ∧ ∀ q ∈ n1, A q.1 ≠ k
  | [], _, _, _, _, _, h, _ => by simp [stepTo] at h
  | x :: r, c, sn, c', to, hr, h, hs => by
    have hx := hr x (by simp)
    rw [stepTo] at h
    rw [kids]
    split at h
    · rename_i hc
      simp at h
      obtain ⟨rfl, rfl⟩ := h
      rw [if_pos ⟨hc.1, hs⟩]
      exact ⟨[], _, rfl, by simp⟩
    · rename_i hc
      split
      · rename_i hd
        have hA : A x.toNat ≠ k := fun e => hc ⟨hd.1, e⟩
        have hto : A to = k := by
          have : ∀ (r : List Int) (c : Int), stepTo A k c r = some (c', to) → A to = k := fun r => by
            induction r with
            | nil => intro c h; simp [stepTo] at h
            | cons y r ih =>
              intro c h
              rw [stepTo] at h
              split at h
              · rename_i hy; simp at h; rw [← h.2]; exact hy.2
              · exact ih _ h
          exact this r _ h
        have hne : x.toNat ≠ to := fun e => hA (by rw [e]; exact hto)
        obtain ⟨n1, n2, e, h1⟩ := kids_step A k w r (c + 1) (sn.set x.toNat true) c' to (fun t ht => by simpa using hr t (by simp [ht])) h (by rw [getD_set (by omega), if_neg hne]; exact hs)
        exact ⟨(x.toNat, w ++ [c]) :: n1, n2, by rw [e]; rfl, fun q hq => by
          rcases List.mem_cons.mp hq with rfl | hq
          · exact hA
          · exact h1 q hq⟩
      · exact kids_step A k w r (c + 1) sn c' to (fun t ht => hr t (by simp [ht])) h hs
theorem stepTo_some (A : Nat → Nat) (k : Nat) : ∀ (r : List Int) (c : Int), (∃ to ∈ r, 0 ≤ to ∧ A to.toNat = k) → ∃ c' to, stepTo A k c r = some (c', to) ∧ A to = k ∧ ∃ t ∈ r, 0 ≤ t ∧ t.toNat = to
  | [], _, h => by simp at h
  | x :: r, c, h => by
    rw [stepTo]
    by_cases hx : 0 ≤ x ∧ A x.toNat = k
    · rw [if_pos hx]; exact ⟨c, x.toNat, rfl, hx.2, x, by simp, hx.1, rfl⟩
    · rw [if_neg hx]
      obtain ⟨to, h1, h2⟩ := h
      have : to ∈ r := by
        rcases List.mem_cons.mp h1 with rfl | h1
        · exact absurd h2 hx
        · exact h1
      obtain ⟨c', t', e1, e2, t, e3, e4⟩ := stepTo_some A k r (c + 1) ⟨to, this, h2⟩
      exact ⟨c', t', e1, e2, t, by simp [e3], e4⟩
theorem split_cases {α : Type} {m q : α} : ∀ {Y X O1 O2 : List α}, Y ++ m :: X = O1 ++ q :: O2 → (∃ Y2, Y = O1 ++ q :: Y2 ∧ O2 = Y2 ++ m :: X) ∨ (Y = O1 ∧ m = q ∧ X = O2) ∨ (∃ Z, O1 = Y ++ m :: Z ∧ X = Z ++ q :: O2)
  | [], X, [], O2, h => by simp at h; exact .inr (.inl ⟨rfl, h.1, h.2⟩)
  | [], X, x :: O1, O2, h => by simp at h; exact .inr (.inr ⟨O1, by simp [h.1], h.2⟩)
  | y :: Y, X, [], O2, h => by simp at h; exact .inl ⟨Y, by simp [h.1], h.2.symm⟩
  | y :: Y, X, x :: O1, O2, h => by
    simp at h
    obtain ⟨rfl, h⟩ := h
    rcases split_cases h with ⟨Y2, e1, e2⟩ | ⟨e1, e2, e3⟩ | ⟨Z, e1, e2⟩
    · exact .inl ⟨Y2, by simp [e1], e2⟩
    · exact .inr (.inl ⟨by simp [e1], e2, e3⟩)
    · exact .inr (.inr ⟨Z, by simp [e1], e2⟩)
structure InvS (l : List (List Int)) (A : Nat → Nat) (X Y : List Met) (j : Nat) (sn : List Bool) : Prop where
  lx : ∀ q ∈ X, q.2.length = j
  ly : ∀ q ∈ Y, q.2.length = j + 1
  lenS : sn.length = l.length
  sts : ∀ q ∈ X ++ Y, q.1 < l.length
  done : ∀ p, p < l.length → sn.getD p false = true → (∃ v, (p, v) ∈ X ++ Y) ∨ (A p < 1000 → ∃ q ∈ X ++ Y, tot A q ≤ j + A p)
  goal : (A 0 < 1000 ∧ ∃ O1 q O2, Y ++ X = O1 ++ q :: O2 ∧ q.2 ++ gS l A (A q.1) q.1 = gS l A (A 0) 0 ∧ tot A q = A 0 ∧ (∀ p ∈ O1, A 0 < tot A p) ∧ (∀ p ∈ O2, A 0 ≤ tot A p)) ∨ (1000 ≤ A 0 ∧ ∀ q ∈ X ++ Y, 1000 ≤ A q.1)
def Inv (l : List (List Int)) (A : Nat → Nat) (Q : List Met) (sn : List Bool) : Prop := ∃ X Y j, Q = X ++ Y ∧ InvS l A X Y j sn
theorem Inv.norm {l A m Q sn} (h : Inv l A (m :: Q) sn) : ∃ X Y j, Q = X ++ Y ∧ InvS l A (m :: X) Y j sn := by
  obtain ⟨X, Y, j, e, hi⟩ := h
  cases X with
  | cons x X =>
    simp at e
    obtain ⟨rfl, rfl⟩ := e
    exact ⟨X, Y, j, rfl, hi⟩
  | nil =>
    simp at e
    subst e
    refine ⟨Q, [], j + 1, by simp, ⟨hi.ly, by simp, hi.lenS, by simpa using hi.sts, fun p hp hs => ?_, by simpa using hi.goal⟩⟩
    rcases hi.done p hp hs with h | h
    · exact .inl (by simpa using h)
    · exact .inr fun hA => by
        obtain ⟨q, h1, h2⟩ := h hA
        exact ⟨q, by simpa using h1, by omega⟩
theorem Inv.start {l : List (List Int)} {b A} (hD : Dist l b A) (hl : 1 ≤ l.length) : Inv l A [(0, [])] ((List.replicate l.length false).set 0 true) := by
  refine ⟨[(0, [])], [], 0, rfl, ⟨by simp, by simp, by simp, by simp; omega, fun p hp hs => ?_, ?_⟩⟩
  · rw [getD_set (by simp; omega)] at hs
    split at hs
    · rename_i e; subst e; exact .inl ⟨[], by simp⟩
    · simp [List.getD_eq_getElem?_getD] at hs
      cases hg : (List.replicate l.length false)[p]? <;> simp_all
  · by_cases h : A 0 < 1000
    · exact .inl ⟨h, [], (0, []), [], rfl, rfl, by simp [tot], by simp, by simp⟩
    · exact .inr ⟨by omega, by simp; omega⟩
theorem Inv.empty {l A sn} (h : Inv l A [] sn) : 1000 ≤ A 0 := by
  obtain ⟨X, Y, j, e, hi⟩ := h
  simp at e
  obtain ⟨rfl, rfl⟩ := e
  rcases hi.goal with ⟨_, O1, q, O2, e, _⟩ | h
  · simp at e
  · exact h.1
theorem Inv.mem_all {l : List (List Int)} {A : Nat → Nat} {X Y : List Met} {O1 O2 : List Met} {q : Met} (e : Y ++ X = O1 ++ q :: O2) (h0 : tot A q = A 0) (h1 : ∀ p ∈ O1, A 0 < tot A p) (h2 : ∀ p ∈ O2, A 0 ≤ tot A p) : ∀ p ∈ X ++ Y, A 0 ≤ tot A p := fun p hp => by
  have : p ∈ Y ++ X := by simp at hp ⊢; exact hp.symm
  rw [e] at this
  simp at this
  rcases this with h | rfl | h
  · have := h1 p h; omega
  · omega
  · exact h2 p h
theorem Inv.final {l b A m Q sn} (hD : Dist l b A) (h : Inv l A (m :: Q) sn) (hf : b.getD m.1 false = true) : A 0 < 1000 ∧ m.2 = gS l A (A 0) 0 := by
  obtain ⟨X, Y, j, e, hi⟩ := h.norm
  have hm := hi.sts m (by simp)
  have hA := (hD.fin m.1 hm).mpr hf
  have hj := hi.lx m (by simp)
  rcases hi.goal with ⟨hlt, O1, q, O2, e2, g, t, h1, h2⟩ | h
  · have hall := Inv.mem_all (l := l) e2 t h1 h2
    have hmt : tot A m = j := by simp [tot, hA, hj]
    have hm0 := hall m (by simp)
    have hql : j ≤ q.2.length := by
      have : q ∈ Y ++ m :: X := by rw [e2]; simp
      rcases List.mem_append.mp this with h | h
      · have := hi.ly q h; omega
      · have := hi.lx q h; omega
    rw [hmt] at hm0
    have hq2 : A q.1 = 0 := by unfold tot at t; omega
    rcases split_cases e2 with ⟨Y2, e3, _⟩ | ⟨_, rfl, _⟩ | ⟨Z, e3, _⟩
    · have := hi.ly q (by rw [e3]; simp)
      unfold tot at t; omega
    · rw [hA, gS, List.append_nil] at g
      exact ⟨hlt, g⟩
    · have := h1 m (by rw [e3]; simp)
      unfold tot at t; omega
  · have := h.2 m (by simp); omega
theorem Inv.step {l b A m Q sn} (hD : Dist l b A) (h : Inv l A (m :: Q) sn) (hf : b.getD m.1 false = false) : Inv l A (Q ++ kids m.2 0 (l.getD m.1 []) sn) (seenX (l.getD m.1 []) sn) := by
  obtain ⟨X, Y, j, rfl, hi⟩ := h.norm
  obtain ⟨s, w⟩ := m
  simp only at hf ⊢
  have hm : s < l.length := hi.sts (s, w) (by simp)
  have hA : 0 < A s := by
    have := hD.fin s hm
    rw [hf] at this
    simp at this; omega
  have hj : w.length = j := hi.lx (s, w) (by simp)
  have hr := hD.rng s hm
  have hrs : ∀ to ∈ l.getD s [], to < (sn.length : Int) := fun to ht => by rw [hi.lenS]; exact hr to ht
  have htm : tot A (s, w) = j + A s := by simp [tot, hj]
  have hkid : ∀ q ∈ kids w 0 (l.getD s []) sn, q.1 < l.length ∧ q.2.length = j + 1 ∧ A s ≤ A q.1 + 1 := fun q hq => by
    obtain ⟨to, h1, h2, h3, h4⟩ := kids_mem w _ _ _ q hq
    have := hr to h1
    exact ⟨by omega, by omega, by rw [h3]; exact hD.edge s hm to h1 h2⟩
  have hktot : ∀ q ∈ kids w 0 (l.getD s []) sn, j + A s ≤ tot A q := fun q hq => by
    obtain ⟨_, h2, h3⟩ := hkid q hq
    simp only [tot, h2]; omega
  -- what was seen, and not so near as this one, has somebody to speak for it
  have hne : ∀ {p : Nat} {v : List Int}, A p ≠ A s → (p, v) ∈ (s, w) :: X ++ Y → (p, v) ∈ X ++ Y := fun {p v} hn hp => by
    simp at hp ⊢
    rcases hp with ⟨rfl, rfl⟩ | h
    · exact absurd rfl hn
    · exact h
  have hW : A s < 1000 → ∃ q ∈ (X ++ Y) ++ kids w 0 (l.getD s []) sn, tot A q ≤ j + A s := fun hlt => by
    obtain ⟨to, t1, t2, t3⟩ := hD.some_ s hm hA hlt
    have hto := hr to t1
    rcases seenX_inv w _ 0 sn to.toNat hrs (seenX_all _ sn hrs to t1 t2) with h1 | ⟨v, h1⟩
    · rcases hi.done to.toNat (by omega) h1 with ⟨v, h2⟩ | h2
      · have h3 := hne (by omega) h2
        refine ⟨(to.toNat, v), List.mem_append_left _ h3, ?_⟩
        have : v.length ≤ j + 1 := by
          rcases List.mem_append.mp h2 with h | h
          · have := hi.lx _ h; simp only at this; omega
          · have := hi.ly _ h; simp only at this; omega
        simp only [tot]; omega
      · obtain ⟨q, h3, h4⟩ := h2 (by omega)
        have : q ≠ (s, w) := fun e => by subst e; rw [htm] at h4; omega
        refine ⟨q, List.mem_append_left _ ?_, by omega⟩
        simp at h3 ⊢
        rcases h3 with h | h
        · exact absurd h this
        · exact h
    · refine ⟨(to.toNat, v), List.mem_append_right _ h1, ?_⟩
      have := (hkid _ h1).2.1
      simp only at this
      simp only [tot]; omega
  refine ⟨X, Y ++ kids w 0 (l.getD s []) sn, j, by simp, ⟨fun q hq => hi.lx q (by simp [hq]), fun q hq => ?_, by rw [seenX_len]; exact hi.lenS, fun q hq => ?_, fun p hp hs => ?_, ?_⟩⟩
  · rcases List.mem_append.mp hq with h | h
    · exact hi.ly q h
    · exact (hkid q h).2.1
  · rw [← List.append_assoc] at hq
    rcases List.mem_append.mp hq with h | h
    · exact hi.sts q (by simp at h ⊢; exact .inr h)
    · exact (hkid q h).1
  · rw [← List.append_assoc]
    rcases seenX_inv w _ 0 sn p hrs hs with h1 | ⟨v, h1⟩
    · rcases hi.done p hp h1 with ⟨v, h2⟩ | h2
      · by_cases e : (p, v) = (s, w)
        · simp at e
          obtain ⟨rfl, rfl⟩ := e
          exact .inr fun hlt => hW hlt
        · refine .inl ⟨v, List.mem_append_left _ ?_⟩
          simp at h2 e ⊢
          rcases h2 with h | h
          · exact absurd h.2 (e h.1)
          · exact h
      · refine .inr fun hlt => ?_
        obtain ⟨q, h3, h4⟩ := h2 hlt
        by_cases e : q = (s, w)
        · subst e
          rw [htm] at h4
          obtain ⟨q', h5, h6⟩ := hW (by omega)
          exact ⟨q', h5, by omega⟩
        · refine ⟨q, List.mem_append_left _ ?_, h4⟩
          simp at h3 ⊢
          rcases h3 with h | h
          · exact absurd h e
          · exact h
    · exact .inl ⟨v, List.mem_append_right _ h1⟩
  · rcases hi.goal with ⟨hlt, O1, q, O2, e2, g, t, h1, h2⟩ | h
    · refine .inl ⟨hlt, ?_⟩
      have hall := Inv.mem_all (l := l) e2 t h1 h2
      rcases split_cases e2 with ⟨Y2, rfl, rfl⟩ | ⟨rfl, rfl, rfl⟩ | ⟨Z, rfl, rfl⟩
      · refine ⟨O1, q, Y2 ++ kids w 0 (l.getD s []) sn ++ X, by simp, g, t, h1, fun p hp => ?_⟩
        have hmm := h2 (s, w) (by simp)
        rw [htm] at hmm
        simp at hp
        rcases hp with h | h | h
        · exact h2 p (by simp [h])
        · have := hktot p h; omega
        · exact h2 p (by simp [h])
      · simp only at t g
        rw [htm] at t
        obtain ⟨k, hk⟩ : ∃ k, A s = k + 1 := ⟨A s - 1, by omega⟩
        obtain ⟨to0, t1, t2, t3⟩ := hD.some_ s hm hA (by omega)
        obtain ⟨c', to, e3, e4, tt, e5, e6, e7⟩ := stepTo_some A k (l.getD s []) 0 ⟨to0, t1, t2, by omega⟩
        have htl : to < l.length := by have := hr tt e5; omega
        have hun : sn.getD to false = false := by
          cases hs : sn.getD to false
          · rfl
          · exfalso
            rcases hi.done to htl hs with ⟨v, h3⟩ | h3
            · have h4 := hne (by omega) h3
              rcases List.mem_append.mp h4 with h | h
              · have h5 := h2 _ h
                have h6 := hi.lx (to, v) (by simp [h])
                simp only at h6
                simp only [tot, h6] at h5; omega
              · have h5 := h1 _ h
                have h6 := hi.ly _ h
                simp only at h6
                simp only [tot, h6] at h5; omega
            · obtain ⟨q, h4, h5⟩ := h3 (by omega)
              have := hall q h4
              omega
        obtain ⟨n1, n2, e8, h9⟩ := kids_step A k w (l.getD s []) 0 sn c' to hrs e3 hun
        have hk9 : ∀ p ∈ kids w 0 (l.getD s []) sn, A 0 ≤ tot A p := fun p hp => by have := hktot p hp; omega
        refine ⟨Y ++ n1, (to, w ++ [c']), n2 ++ X, by rw [e8]; simp, ?_, ?_, fun p hp => ?_, fun p hp => ?_⟩
        · rw [← g, hk, gS, e3]
          simp [e4]
        · simp only [tot, List.length_append, List.length_cons, List.length_nil]; omega
        · rcases List.mem_append.mp hp with h | h
          · exact h1 p h
          · have q1 : p ∈ kids w 0 (l.getD s []) sn := by rw [e8]; simp [h]
            obtain ⟨_, q2, q3⟩ := hkid p q1
            have q4 := h9 p h
            simp only [tot, q2]; omega
        · rcases List.mem_append.mp hp with h | h
          · exact hk9 p (by rw [e8]; simp [h])
          · exact h2 p h
      · have hmm := h1 (s, w) (by simp)
        rw [htm] at hmm
        refine ⟨Y ++ kids w 0 (l.getD s []) sn ++ Z, q, O2, by simp, g, t, fun p hp => ?_, h2⟩
        simp at hp
        rcases hp with h | h | h
        · exact h1 p (by simp [h])
        · have := hktot p h; omega
        · exact h1 p (by simp [h])
    · refine .inr ⟨h.1, fun q hq => ?_⟩
      rw [← List.append_assoc] at hq
      rcases List.mem_append.mp hq with hq | hq
      · exact h.2 q (by simp at hq ⊢; exact .inr hq)
      · have hs := h.2 (s, w) (by simp)
        simp only at hs
        obtain ⟨q1, _, q3⟩ := hkid q hq
        by_cases hlt : A q.1 < 1000
        · have := hD.small q.1 q1 hlt; omega
        · omega
end Go.VL
