/- Expressions read from a text, in plain Lean. -/
import Derived.Test.YtekmfhoppbpobaaVXp
set_option linter.unusedVariables false
set_option linter.unusedSimpArgs false
namespace Go.VL
open Go
/-- What an expression gives as parts of one of kind k. -/
def prt (k : Int) (x : Xp) : List Xp := if x.kind = k then x.ps else [x]
/-- Parts as one expression. -/
def nrm (k : Int) (L : List Xp) : Xp := match L with
  | [x] => x
  | _ => .mk k 0 L
/-- expr.together. -/
def tog (k : Int) (l : List Xp) : Xp := match l with
  | [x] => x
  | _ => nrm k (l.flatMap (prt k))
/-- bobbinetref.joined. -/
def jnd (k : Int) (a b : Xp) : Xp := nrm k (prt k a ++ prt k b)
mutual
def Xp.wf : Xp → Prop
  | .mk k t ps => ((k = 2 ∨ k = 3) → t = 0 ∧ ps.length ≠ 1 ∧ ∀ p ∈ ps, p.kind ≠ k) ∧ wfs ps
def wfs : List Xp → Prop
  | [] => True
  | x :: r => x.wf ∧ wfs r
end
theorem wfs_all : ∀ {l : List Xp}, wfs l ↔ ∀ x ∈ l, x.wf
  | [] => by simp [wfs]
  | x :: r => by simp [wfs, wfs_all (l := r)]
theorem Xp.wf_eq (x : Xp) : x.wf ↔ ((x.kind = 2 ∨ x.kind = 3) → x.ty = 0 ∧ x.ps.length ≠ 1 ∧ ∀ p ∈ x.ps, p.kind ≠ x.kind) ∧ ∀ p ∈ x.ps, p.wf := by
  cases x; rw [Xp.wf, wfs_all]; rfl
/-- Good parts of one of kind k. -/
def okL (k : Int) (L : List Xp) : Prop := ∀ p ∈ L, p.kind ≠ k ∧ p.wf
theorem okL_app {k : Int} {A B : List Xp} (ha : okL k A) (hb : okL k B) : okL k (A ++ B) := fun p hp => (List.mem_append.mp hp).elim (ha p) (hb p)
theorem okL_nil {k : Int} : okL k [] := fun p hp => by simp at hp
theorem prt_ok {k : Int} (hk : k = 2 ∨ k = 3) {x : Xp} (hx : x.wf) : okL k (prt k x) := by
  obtain ⟨h1, h2⟩ := x.wf_eq.mp hx
  unfold prt
  split
  · rename_i h
    obtain ⟨_, _, h3⟩ := h1 (by rw [h]; exact hk)
    exact fun p hp => ⟨by rw [← h]; exact h3 p hp, h2 p hp⟩
  · rename_i h
    intro p hp
    simp at hp; subst hp
    exact ⟨h, hx⟩
theorem nrm_wf {k : Int} (hk : k = 2 ∨ k = 3) {L : List Xp} (h : okL k L) : (nrm k L).wf := by
  match L, h with
  | [x], h => exact (h x (by simp)).2
  | [], h => simp [nrm, Xp.wf, wfs]
  | x :: y :: r, h =>
    have : nrm k (x :: y :: r) = .mk k 0 (x :: y :: r) := rfl
    rw [this, Xp.wf_eq]
    exact ⟨fun _ => ⟨rfl, by simp [Xp.ps], fun p hp => (h p hp).1⟩, fun p hp => (h p hp).2⟩
theorem prt_nrm {k : Int} {L : List Xp} (h : okL k L) : prt k (nrm k L) = L := by
  match L, h with
  | [x], h => simp [nrm, prt, (h x (by simp)).1]
  | [], h => simp [nrm, prt, Xp.kind, Xp.ps]
  | x :: y :: r, h => simp [nrm, prt, Xp.kind, Xp.ps]
theorem nrm_prt {k : Int} (hk : k = 2 ∨ k = 3) {x : Xp} (hx : x.wf) : nrm k (prt k x) = x := by
  obtain ⟨h1, _⟩ := x.wf_eq.mp hx
  unfold prt
  split
  · rename_i h
    obtain ⟨h2, h3, _⟩ := h1 (by rw [h]; exact hk)
    obtain ⟨k', t, ps⟩ := x
    simp only [Xp.kind, Xp.ty, Xp.ps] at h h2 h3 ⊢
    subst h; subst h2
    match ps, h3 with
    | [], _ => rfl
    | [_], h3 => simp at h3
    | _ :: _ :: _, _ => rfl
  · rfl
theorem tog_eq {k : Int} (hk : k = 2 ∨ k = 3) {l : List Xp} (h : ∀ x ∈ l, x.wf) : tog k l = nrm k (l.flatMap (prt k)) := by
  match l, h with
  | [x], h =>
    have : [x].flatMap (prt k) = prt k x := by simp
    rw [this, nrm_prt hk (h x (by simp))]; rfl
  | [], h => rfl
  | x :: y :: r, h => rfl
theorem jnd_nrm {k : Int} {L : List Xp} (h : okL k L) (b : Xp) : jnd k (nrm k L) b = nrm k (L ++ prt k b) := by rw [jnd, prt_nrm h]

/-- Signs behind an expression. -/
def sgn (c : UInt8) : Option Int := if c = 42 then some 4 else if c = 43 then some 5 else if c = 63 then some 6 else none
def sgs (x : Xp) : Str → Xp × Str
  | [] => (x, [])
  | c :: r => match sgn c with
    | some k => sgs (.mk k 0 [x]) r
    | none => (x, c :: r)
/-- One item without its signs; rd reads what stands in ( ). -/
def itm (rd : Str → Option (Xp × Str)) (c : UInt8) (r : Str) : Option (Xp × Str) :=
  if 97 ≤ c.toNat ∧ c.toNat ≤ 104 then some (.mk 1 ((c.toNat : Int) - 97) [], r)
  else if c = 40 then match rd r with
    | some (x, 41 :: r2) => some (x, r2)
    | _ => none
  else none
/-- Reads: n: more than what is left; L: parts since the last |; A: alternatives ahead of it. -/
def rdL : Nat → Str → List Xp → List Xp → Option (Xp × Str)
  | 0, _, _, _ => none
  | n + 1, left, L, A => match left with
    | [] => some (nrm 3 (A ++ prt 3 (nrm 2 L)), [])
    | c :: r => if c = 41 then some (nrm 3 (A ++ prt 3 (nrm 2 L)), c :: r)
      else if c = 124 then rdL n r [] (A ++ prt 3 (nrm 2 L))
      else match itm (fun s => rdL n s [] []) c r with
        | some (x, r2) => rdL n (sgs x r2).2 (L ++ prt 2 (sgs x r2).1) A
        | none => none
theorem rdL_end (n : Nat) (L A : List Xp) : rdL (n + 1) [] L A = some (nrm 3 (A ++ prt 3 (nrm 2 L)), []) := rfl
theorem rdL_close (n : Nat) (r : Str) (L A : List Xp) : rdL (n + 1) (41 :: r) L A = some (nrm 3 (A ++ prt 3 (nrm 2 L)), 41 :: r) := by simp [rdL]
theorem rdL_bar (n : Nat) (r : Str) (L A : List Xp) : rdL (n + 1) (124 :: r) L A = rdL n r [] (A ++ prt 3 (nrm 2 L)) := by simp [rdL]
theorem rdL_item (n : Nat) {c : UInt8} (r : Str) (L A : List Xp) (h1 : c ≠ 41) (h2 : c ≠ 124) : rdL (n + 1) (c :: r) L A = match itm (fun s => rdL n s [] []) c r with
    | some (x, r2) => rdL n (sgs x r2).2 (L ++ prt 2 (sgs x r2).1) A
    | none => none := by simp [rdL, h1, h2]
theorem sgs_le : ∀ (r : Str) (x : Xp), (sgs x r).2.length ≤ r.length
  | [], x => by simp [sgs]
  | c :: r, x => by
    unfold sgs
    split
    · rename_i k _
      have := sgs_le r (.mk k 0 [x]); simp only [List.length_cons]; omega
    · simp
theorem sgn_kind {c : UInt8} {k : Int} (h : sgn c = some k) : k = 4 ∨ k = 5 ∨ k = 6 := by
  unfold sgn at h
  split at h
  · cases h; exact .inl rfl
  · split at h
    · cases h; exact .inr (.inl rfl)
    · split at h
      · cases h; exact .inr (.inr rfl)
      · cases h
theorem sgs_wf : ∀ (r : Str) {x : Xp}, x.wf → (sgs x r).1.wf
  | [], x, h => h
  | c :: r, x, h => by
    unfold sgs
    split
    · rename_i k hk
      refine sgs_wf r ?_
      rw [Xp.wf_eq]
      have := sgn_kind hk
      refine ⟨fun h => ?_, fun p hp => ?_⟩
      · simp only [Xp.kind] at h; omega
      · simp only [Xp.ps, List.mem_singleton] at hp; subst hp; exact h
    · exact h
/-- What is read is well formed, and what is left is the end or begins with ). -/
theorem rdL_wf : ∀ (n : Nat) (left : Str) (L A : List Xp), okL 2 L → okL 3 A → ∀ x r, rdL n left L A = some (x, r) → x.wf ∧ r.length ≤ left.length ∧ (r = [] ∨ ∃ r2, r = 41 :: r2)
  | 0, left, L, A, hL, hA, x, r, h => by simp [rdL] at h
  | n + 1, left, L, A, hL, hA, x, r, h => by
    have hend : okL 3 (A ++ prt 3 (nrm 2 L)) := okL_app hA (prt_ok (.inr rfl) (nrm_wf (.inl rfl) hL))
    match left, h with
    | [], h =>
      rw [rdL_end] at h; cases h
      exact ⟨nrm_wf (.inr rfl) hend, Nat.le_refl _, .inl rfl⟩
    | c :: s, h =>
      by_cases h1 : c = 41
      · subst h1
        rw [rdL_close] at h; cases h
        exact ⟨nrm_wf (.inr rfl) hend, Nat.le_refl _, .inr ⟨_, rfl⟩⟩
      · by_cases h2 : c = 124
        · subst h2
          rw [rdL_bar] at h
          obtain ⟨k1, k2, k3⟩ := rdL_wf n s [] _ okL_nil hend x r h
          exact ⟨k1, by simp only [List.length_cons]; omega, k3⟩
        · rw [rdL_item n s L A h1 h2] at h
          cases hi : itm (fun s => rdL n s [] []) c s with
          | none => rw [hi] at h; cases h
          | some p =>
            obtain ⟨y, r2⟩ := p
            rw [hi] at h
            simp only at h
            have hy : y.wf ∧ r2.length ≤ s.length := by
              unfold itm at hi
              split at hi
              · cases hi
                exact ⟨by rw [Xp.wf_eq]; exact ⟨fun h => by simp only [Xp.kind] at h; omega, fun p hp => by simp [Xp.ps] at hp⟩, Nat.le_refl _⟩
              · split at hi
                · split at hi
                  · rename_i x' r2' hr
                    cases hi
                    obtain ⟨k1, k2, _⟩ := rdL_wf n s [] [] okL_nil okL_nil _ _ hr
                    simp only [List.length_cons] at k2
                    exact ⟨k1, by omega⟩
                  · cases hi
                · cases hi
            obtain ⟨k1, k2, k3⟩ := rdL_wf n _ _ A (okL_app hL (prt_ok (.inl rfl) (sgs_wf r2 hy.1))) hA x r h
            have := sgs_le r2 y
            exact ⟨k1, by simp only [List.length_cons]; omega, k3⟩
theorem tog_not {k : Int} {l : List Xp} (h : ¬ l.length = 1) : tog k l = nrm k (l.flatMap (prt k)) := by
  match l, h with
  | [], _ => rfl
  | [_], h => simp at h
  | _ :: _ :: _, _ => rfl
theorem nrm_one (k : Int) (x : Xp) : nrm k [x] = x := rfl
theorem nrm_not {k : Int} {L : List Xp} (h : ¬ L.length = 1) : nrm k L = .mk k 0 L := by
  match L, h with
  | [], _ => rfl
  | [_], h => simp at h
  | _ :: _ :: _, _ => rfl
theorem es_mk (k t : Int) (L : List Xp) : (Xp.mk k t L).es = L.map Xp.d := by rw [Xp.es, xps_eq]
theorem flat_succ {k : Int} {l : List Xp} {i : Nat} {x : Xp} (h : l[i]? = some x) : (l.take (i + 1)).flatMap (prt k) = (l.take i).flatMap (prt k) ++ prt k x := by
  rw [List.take_add_one, h]; simp
theorem flat_take (k : Int) (l : List Xp) (i : Nat) : ((l.take i).flatMap (prt k)).length ≤ (l.flatMap (prt k)).length := by
  have : l.flatMap (prt k) = (l.take i).flatMap (prt k) ++ (l.drop i).flatMap (prt k) := by rw [← List.flatMap_append, List.take_append_drop]
  rw [this, List.length_append]; omega
mutual
def Xp.size : Xp → Nat
  | .mk _ _ ps => sizes ps + 1
def sizes : List Xp → Nat
  | [] => 0
  | x :: r => x.size + sizes r
end
theorem sizes_app (a b : List Xp) : sizes (a ++ b) = sizes a + sizes b := by
  induction a with
  | nil => simp [sizes]
  | cons x r ih => simp [sizes, ih]; omega
theorem Xp.size_eq (x : Xp) : x.size = sizes x.ps + 1 := by cases x; rw [Xp.size]; rfl
theorem size_pos (x : Xp) : 1 ≤ x.size := by rw [x.size_eq]; omega
theorem len_sizes : ∀ l : List Xp, l.length ≤ sizes l
  | [] => by simp
  | x :: r => by have := len_sizes r; have := size_pos x; simp only [sizes, List.length_cons]; omega
theorem prt_size (k : Int) (x : Xp) : sizes (prt k x) ≤ x.size := by
  unfold prt
  split
  · rw [x.size_eq]; omega
  · simp [sizes]
theorem flat_size (k : Int) : ∀ l : List Xp, sizes (l.flatMap (prt k)) ≤ sizes l
  | [] => by simp
  | x :: r => by
    have := flat_size k r
    have := prt_size k x
    simp only [List.flatMap_cons, sizes_app, sizes]; omega
theorem nrm_size (k : Int) (L : List Xp) : (nrm k L).size ≤ sizes L + 1 := by
  by_cases h : L.length = 1
  · obtain ⟨x, rfl⟩ := List.length_eq_one_iff.mp h
    simp [nrm, sizes]
  · rw [nrm_not h, Xp.size]; omega
theorem tog_size (k : Int) (l : List Xp) : (tog k l).size ≤ sizes l + 1 := by
  by_cases h : l.length = 1
  · obtain ⟨x, rfl⟩ := List.length_eq_one_iff.mp h
    simp [tog, sizes]
  · rw [tog_not h]
    have := nrm_size k (l.flatMap (prt k))
    have := flat_size k l
    omega
theorem sizes_one (x : Xp) : sizes [x] = x.size := by simp [sizes]
theorem size_mk (k t : Int) (L : List Xp) : (Xp.mk k t L).size = sizes L + 1 := by rw [Xp.size]
theorem itm_wf {N : Nat} {c : UInt8} {r : Str} {x : Xp} {r2 : Str} (hi : itm (fun s => rdL N s [] []) c r = some (x, r2)) : x.wf ∧ r2.length ≤ r.length := by
  unfold itm at hi
  split at hi
  · cases hi
    exact ⟨by rw [Xp.wf_eq]; exact ⟨fun h => by simp only [Xp.kind] at h; omega, fun p hp => by simp [Xp.ps] at hp⟩, Nat.le_refl _⟩
  · split at hi
    · split at hi
      · rename_i x' r2' hr
        cases hi
        obtain ⟨k1, k2, _⟩ := rdL_wf N r [] [] okL_nil okL_nil _ _ hr
        simp only [List.length_cons] at k2
        exact ⟨k1, by omega⟩
      · cases hi
    · cases hi
/-- What an item is. -/
def itO (N : Nat) (c : UInt8) (r : Str) : Option (Xp × Str) := match itm (fun s => rdL N s [] []) c r with
  | some (x, r2) => some (sgs x r2)
  | none => none
theorem itO_some {N : Nat} {c : UInt8} {r : Str} {y : Xp} {l : Str} (h : itO N c r = some (y, l)) (h1 : c ≠ 41) (h2 : c ≠ 124) : y.wf ∧ l.length ≤ r.length ∧ ∀ L A, rdL (N + 1) (c :: r) L A = rdL N l (L ++ prt 2 y) A := by
  unfold itO at h
  split at h
  · rename_i x r2 hi
    obtain ⟨k1, k2⟩ := itm_wf hi
    have k3 := sgs_le r2 x
    have k4 := sgs_wf r2 k1
    cases hs : sgs x r2 with
    | mk a b =>
      rw [hs] at h k3 k4
      cases h
      refine ⟨k4, by simp only at k3; omega, fun L A => ?_⟩
      rw [rdL_item N r L A h1 h2, hi]
      simp only [hs]
  · cases h
theorem itO_none {N : Nat} {c : UInt8} {r : Str} (h : itO N c r = none) (h1 : c ≠ 41) (h2 : c ≠ 124) : ∀ L A, rdL (N + 1) (c :: r) L A = none := by
  unfold itO at h
  intro L A
  rw [rdL_item N r L A h1 h2]
  split at h
  · cases h
  · rename_i hi; first | rfl | rw [hi]
/-- Where a sequence ends. -/
def stopS (left : Str) : Prop := left = [] ∨ ∃ c r, left = c :: r ∧ (c = 124 ∨ c = 41)
/-- The items of a sequence, so far. -/
def SInv (start : Str) (N : Nat) (bad : Bool) (l : List Xp) (left : Str) (b : Bool) : Prop :=
  left.length ≤ start.length ∧ sizes l + 3 * left.length ≤ 3 * start.length ∧ (bad = true → b = true) ∧
    (bad = false → (b = false ∧ (∀ x ∈ l, x.wf) ∧ ∃ n, left.length < n ∧ ∀ A, rdL N start [] A = rdL n left (l.flatMap (prt 2)) A) ∨ (b = true ∧ ∀ A, rdL N start [] A = none))
theorem SInv.start (s : Str) (N : Nat) (bad : Bool) (h : s.length < N) : SInv s N bad [] s bad :=
  ⟨Nat.le_refl _, by simp [sizes], id, fun hb => .inl ⟨hb, by simp, N, h, fun _ => rfl⟩⟩
theorem SInv.step {s : Str} {N : Nat} {bad : Bool} {l : List Xp} {c : UInt8} {r : Str} (h : SInv s N bad l (c :: r) false) (h1 : c ≠ 41) (h2 : c ≠ 124) :
    bad = false ∧ r.length < s.length ∧ ∃ n, r.length < n ∧ ∀ (y : Xp) (left : Str) (b : Bool), left.length ≤ r.length → y.size + 3 * left.length ≤ 3 * (r.length + 1) → (b = false ∧ itO n c r = some (y, left)) ∨ (b = true ∧ itO n c r = none) → SInv s N bad (l ++ [y]) left b := by
  obtain ⟨k1, k2, k3, k4⟩ := h
  simp only [List.length_cons] at k1 k2
  have hb : bad = false := by
    cases bad with
    | false => rfl
    | true => exact absurd (k3 rfl) (by simp)
  rcases k4 hb with ⟨_, hw, n, hn, he⟩ | ⟨h, _⟩
  · simp only [List.length_cons] at hn
    obtain ⟨n, rfl⟩ : ∃ m, n = m + 1 := ⟨n - 1, by omega⟩
    refine ⟨hb, by omega, n, by omega, fun y left b g1 g2 g3 => ⟨by omega, ?_, fun h => (by rw [hb] at h; cases h), fun _ => ?_⟩⟩
    · rw [sizes_app, sizes_one]; omega
    · rcases g3 with ⟨gb, go⟩ | ⟨gb, go⟩
      · obtain ⟨w1, w2, w3⟩ := itO_some go h1 h2
        refine .inl ⟨gb, fun x hx => ?_, n, by omega, fun A => ?_⟩
        · rcases List.mem_append.mp hx with hx | hx
          · exact hw x hx
          · simp at hx; subst hx; exact w1
        · rw [he A, w3]; simp
      · exact .inr ⟨gb, fun A => by rw [he A]; exact itO_none go h1 h2 _ _⟩
  · cases h
/-- What a sequence answers. -/
def sQ (s : Str) (N : Nat) (bad : Bool) (x : Xp) (left : Str) (b : Bool) : Prop :=
  left.length ≤ s.length ∧ x.size + 3 * left.length ≤ 3 * s.length + 1 ∧ (bad = true → b = true) ∧
    (bad = false → (b = false ∧ stopS left ∧ x.wf ∧ ∃ n L, left.length < n ∧ okL 2 L ∧ x = nrm 2 L ∧ ∀ A, rdL N s [] A = rdL n left L A) ∨ (b = true ∧ ∀ A, rdL N s [] A = none))
theorem flat_ok {k : Int} (hk : k = 2 ∨ k = 3) {l : List Xp} (h : ∀ x ∈ l, x.wf) : okL k (l.flatMap (prt k)) := fun p hp => by
  obtain ⟨x, hx, hpx⟩ := List.mem_flatMap.mp hp
  exact prt_ok hk (h x hx) p hpx
theorem SInv.done {s : Str} {N : Nat} {bad : Bool} {l : List Xp} {left : Str} {b : Bool} (h : SInv s N bad l left b) (hs : b = true ∨ stopS left) : sQ s N bad (tog 2 l) left b := by
  obtain ⟨k1, k2, k3, k4⟩ := h
  have ht := tog_size 2 l
  refine ⟨k1, by omega, k3, fun hb => ?_⟩
  rcases k4 hb with ⟨h1, hw, n, hn, he⟩ | h1
  · have hst : stopS left := by
      rcases hs with h | h
      · rw [h1] at h; cases h
      · exact h
    rw [tog_eq (.inl rfl) hw]
    exact .inl ⟨h1, hst, nrm_wf (.inl rfl) (flat_ok (.inl rfl) hw), n, _, hn, flat_ok (.inl rfl) hw, rfl, he⟩
  · exact .inr h1
/-- The alternatives, so far. -/
def AInv (s : Str) (N : Nat) (bad : Bool) (l : List Xp) (left : Str) (b : Bool) : Prop :=
  left.length ≤ s.length ∧ sizes l + 3 * left.length ≤ 3 * s.length + 1 ∧ (bad = true → b = true) ∧
    (bad = false → (b = false ∧ stopS left ∧ (∀ x ∈ l, x.wf) ∧ ∃ n L A, left.length < n ∧ okL 2 L ∧ l.flatMap (prt 3) = A ++ prt 3 (nrm 2 L) ∧ rdL N s [] [] = rdL n left L A) ∨ (b = true ∧ rdL N s [] [] = none))
theorem AInv.start {s : Str} {N : Nat} {bad : Bool} {x : Xp} {left : Str} {b : Bool} (h : sQ s N bad x left b) : AInv s N bad [x] left b := by
  obtain ⟨k1, k2, k3, k4⟩ := h
  refine ⟨k1, by rw [sizes_one]; omega, k3, fun hb => ?_⟩
  rcases k4 hb with ⟨h1, h2, h3, n, L, h4, h5, h6, h7⟩ | ⟨h1, h2⟩
  · exact .inl ⟨h1, h2, by intro y hy; simp at hy; subst hy; exact h3, n, L, [], h4, h5, by simp [h6], h7 []⟩
  · exact .inr ⟨h1, h2 []⟩
theorem AInv.step {s : Str} {N : Nat} {bad : Bool} {l : List Xp} {r : Str} {b : Bool} (h : AInv s N bad l (124 :: r) b) :
    r.length < s.length ∧ ∃ n, r.length < n ∧ ∀ (x : Xp) (left : Str) (b' : Bool), sQ r n b x left b' → AInv s N bad (l ++ [x]) left b' := by
  obtain ⟨k1, k2, k3, k4⟩ := h
  simp only [List.length_cons] at k1 k2
  refine ⟨by omega, ?_⟩
  by_cases hb : bad = false
  · rcases k4 hb with ⟨h1, _, h3, n, L, A, h4, h5, h6, h7⟩ | ⟨h1, h2⟩
    · simp only [List.length_cons] at h4
      obtain ⟨n, rfl⟩ : ∃ m, n = m + 1 := ⟨n - 1, by omega⟩
      refine ⟨n, by omega, fun x left b' ⟨q1, q2, q3, q4⟩ => ⟨by omega, by rw [sizes_app, sizes_one]; omega, fun h => (by rw [hb] at h; cases h), fun _ => ?_⟩⟩
      rw [rdL_bar, ← h6] at h7
      rcases q4 h1 with ⟨g1, g2, g3, m, L', g4, g5, g6, g7⟩ | ⟨g1, g2⟩
      · refine .inl ⟨g1, g2, fun y hy => ?_, m, L', l.flatMap (prt 3), g4, g5, by simp [g6], by rw [h7, g7]⟩
        rcases List.mem_append.mp hy with hy | hy
        · exact h3 y hy
        · simp at hy; subst hy; exact g3
      · exact .inr ⟨g1, by rw [h7, g2]⟩
    · exact ⟨r.length + 1, by omega, fun x left b' ⟨q1, q2, q3, q4⟩ => ⟨by omega, by rw [sizes_app, sizes_one]; omega, fun h => (by rw [hb] at h; cases h), fun _ => .inr ⟨q3 h1, h2⟩⟩⟩
  · have hbt : bad = true := by cases bad <;> simp_all
    exact ⟨r.length + 1, by omega, fun x left b' ⟨q1, q2, q3, q4⟩ => ⟨by omega, by rw [sizes_app, sizes_one]; omega, fun _ => q3 (k3 hbt), fun h => absurd h hb⟩⟩
theorem AInv.done {s : Str} {N : Nat} {bad : Bool} {l : List Xp} {left : Str} {b : Bool} (h : AInv s N bad l left b) (hs : ∀ r, left ≠ 124 :: r) :
    left.length ≤ s.length ∧ (tog 3 l).size + 3 * left.length ≤ 3 * s.length + 2 ∧ (bad = true → b = true) ∧ (bad = false → (b = false ∧ rdL N s [] [] = some (tog 3 l, left)) ∨ (b = true ∧ rdL N s [] [] = none)) := by
  obtain ⟨k1, k2, k3, k4⟩ := h
  have ht := tog_size 3 l
  refine ⟨k1, by omega, k3, fun hb => ?_⟩
  rcases k4 hb with ⟨h1, h2, h3, n, L, A, h4, h5, h6, h7⟩ | h1
  · refine .inl ⟨h1, ?_⟩
    obtain ⟨n, rfl⟩ : ∃ m, n = m + 1 := ⟨n - 1, by omega⟩
    rw [h7, tog_eq (.inr rfl) h3, h6]
    rcases h2 with rfl | ⟨c, r, rfl, hc | hc⟩
    · exact rdL_end _ _ _
    · subst hc; exact absurd rfl (hs r)
    · subst hc; exact rdL_close _ _ _ _
  · exact .inr h1
/-- flush: what is told of the alternatives once the sequence is one of them. -/
def flx (all : Option Xp) (now : Xp) : Xp := match all with | none => now | some y => jnd 3 y now
def RInv (s : Str) (at0 N i : Nat) (now : Xp) (all : Option Xp) : Prop :=
  at0 ≤ i ∧ i ≤ s.length ∧ ∃ n L A, s.length - i < n ∧ okL 2 L ∧ okL 3 A ∧ now = nrm 2 L ∧ (match all with | none => A = [] | some y => y = nrm 3 A) ∧
    sizes L + sizes A + 3 * (s.length - i) ≤ 3 * (s.length - at0) ∧ rdL N (s.drop at0) [] [] = rdL n (s.drop i) L A
theorem RInv.start (s : Str) (at0 N : Nat) (h : at0 ≤ s.length) (hN : s.length - at0 < N) : RInv s at0 N at0 (.mk 2 0 []) none :=
  ⟨Nat.le_refl _, h, N, [], [], hN, okL_nil, okL_nil, rfl, rfl, by simp [sizes], rfl⟩
theorem flx_eq {all : Option Xp} {L A : List Xp} (hL : okL 2 L) (hA : okL 3 A) (h : match all with | none => A = [] | some y => y = nrm 3 A) : flx all (nrm 2 L) = nrm 3 (A ++ prt 3 (nrm 2 L)) := by
  cases all with
  | none =>
    simp only at h
    subst h
    rw [List.nil_append, nrm_prt (.inr rfl) (nrm_wf (.inl rfl) hL)]; rfl
  | some y =>
    simp only at h
    subst h
    exact jnd_nrm hA _
theorem drop_at {s : Str} {i : Nat} {c : UInt8} (h : s[i]? = some c) : s.drop i = c :: s.drop (i + 1) := by
  obtain ⟨h1, h2⟩ := List.getElem?_eq_some_iff.mp h
  rw [List.drop_eq_getElem_cons h1, h2]
theorem RInv.small {s : Str} {at0 N i : Nat} {now : Xp} {all : Option Xp} (h : RInv s at0 N i now all) : now.size ≤ 3 * s.length + 1 ∧ ∀ y, all = some y → y.size ≤ 3 * s.length + 1 := by
  obtain ⟨_, _, n, L, A, _, _, _, h1, h2, h3, _⟩ := h
  have := nrm_size 2 L
  refine ⟨by rw [h1]; omega, fun y hy => ?_⟩
  subst hy
  simp only at h2
  have := nrm_size 3 A
  rw [h2]; omega
theorem RInv.bar {s : Str} {at0 N i : Nat} {now : Xp} {all : Option Xp} (h : RInv s at0 N i now all) (hc : s[i]? = some 124) : RInv s at0 N (i + 1) (.mk 2 0 []) (some (flx all now)) := by
  obtain ⟨h1, h2, n, L, A, h3, h4, h5, h6, h7, h8, h9⟩ := h
  have hi := (List.getElem?_eq_some_iff.mp hc).1
  subst h6
  obtain ⟨n, rfl⟩ : ∃ m, n = m + 1 := ⟨n - 1, by omega⟩
  rw [drop_at hc, rdL_bar] at h9
  have hw := nrm_wf (.inl rfl) h4
  have hs := nrm_size 2 L
  have hp := prt_size 3 (nrm 2 L)
  refine ⟨by omega, by omega, n, [], A ++ prt 3 (nrm 2 L), by omega, okL_nil, okL_app h5 (prt_ok (.inr rfl) hw), rfl, flx_eq h4 h5 h7, ?_, h9⟩
  rw [sizes_app]; simp only [sizes]; omega
theorem RInv.item {s : Str} {at0 N i : Nat} {now : Xp} {all : Option Xp} {c : UInt8} (h : RInv s at0 N i now all) (hc : s[i]? = some c) (h1 : c ≠ 41) (h2 : c ≠ 124) :
    ∃ n, s.length - (i + 1) < n ∧ (itO n c (s.drop (i + 1)) = none → rdL N (s.drop at0) [] [] = none) ∧
      ∀ (y : Xp) (e : Nat), i + 1 ≤ e → e ≤ s.length → y.size + 3 * (s.length - e) ≤ 3 * (s.length - i) → itO n c (s.drop (i + 1)) = some (y, s.drop e) → RInv s at0 N e (jnd 2 now y) all := by
  obtain ⟨k1, k2, n, L, A, h3, h4, h5, h6, h7, h8, h9⟩ := h
  have hi := (List.getElem?_eq_some_iff.mp hc).1
  subst h6
  obtain ⟨n, rfl⟩ : ∃ m, n = m + 1 := ⟨n - 1, by omega⟩
  rw [drop_at hc] at h9
  refine ⟨n, by omega, fun hn => by rw [h9]; exact itO_none hn h1 h2 _ _, fun y e g1 g2 g3 go => ?_⟩
  obtain ⟨w1, w2, w3⟩ := itO_some go h1 h2
  have hp := prt_size 2 y
  refine ⟨by omega, g2, n, L ++ prt 2 y, A, ?_, okL_app h4 (prt_ok (.inl rfl) w1), h5, jnd_nrm h4 y, h7, ?_, by rw [h9, w3]⟩
  · omega
  · rw [sizes_app]; omega
theorem RInv.done {s : Str} {at0 N i : Nat} {now : Xp} {all : Option Xp} (h : RInv s at0 N i now all) (hs : i = s.length ∨ s[i]? = some 41) :
    rdL N (s.drop at0) [] [] = some (flx all now, s.drop i) ∧ (flx all now).size + 3 * (s.length - i) ≤ 3 * (s.length - at0) + 2 := by
  obtain ⟨k1, k2, n, L, A, h3, h4, h5, h6, h7, h8, h9⟩ := h
  subst h6
  obtain ⟨n, rfl⟩ : ∃ m, n = m + 1 := ⟨n - 1, by omega⟩
  have hz := nrm_size 3 (A ++ prt 3 (nrm 2 L))
  have hp := prt_size 3 (nrm 2 L)
  have hq := nrm_size 2 L
  rw [sizes_app] at hz
  rw [flx_eq h4 h5 h7]
  refine ⟨?_, by omega⟩
  rw [h9]
  rcases hs with h | h
  · rw [List.drop_eq_nil_of_le (by omega)]; exact rdL_end _ _ _
  · rw [drop_at h]; exact rdL_close _ _ _ _
/-- Signs, by place. -/
def GInv (s : Str) (o : Option (Xp × Str)) (i j : Nat) (x : Xp) : Prop := i + 1 ≤ j ∧ j ≤ s.length ∧ x.size + 3 * (s.length - j) ≤ 3 * (s.length - i) ∧ o = some (sgs x (s.drop j))
theorem GInv.step {s : Str} {o : Option (Xp × Str)} {i j : Nat} {x : Xp} {d : UInt8} {k : Int} (h : GInv s o i j x) (hd : s[j]? = some d) (hk : sgn d = some k) : GInv s o i (j + 1) (.mk k 0 [x]) := by
  obtain ⟨h1, h2, h3, h4⟩ := h
  have hj := (List.getElem?_eq_some_iff.mp hd).1
  refine ⟨by omega, by omega, by rw [size_mk, sizes_one]; omega, ?_⟩
  rw [h4, drop_at hd, sgs, hk]
theorem GInv.stop {s : Str} {o : Option (Xp × Str)} {i j : Nat} {x : Xp} (h : GInv s o i j x) (hs : j = s.length ∨ ∃ d, s[j]? = some d ∧ sgn d = none) : i + 1 ≤ j ∧ j ≤ s.length ∧ x.size + 3 * (s.length - j) ≤ 3 * (s.length - i) ∧ o = some (x, s.drop j) := by
  obtain ⟨h1, h2, h3, h4⟩ := h
  refine ⟨h1, h2, h3, ?_⟩
  rw [h4]
  rcases hs with h | ⟨d, hd, hn⟩
  · rw [List.drop_eq_nil_of_le (by omega)]; rfl
  · rw [drop_at hd, sgs, hn]
theorem sgn_cases (d : UInt8) : (d = 42 ∧ sgn d = some 4) ∨ (d = 43 ∧ sgn d = some 5) ∨ (d = 63 ∧ sgn d = some 6) ∨ (d ≠ 42 ∧ d ≠ 43 ∧ d ≠ 63 ∧ sgn d = none) := by
  by_cases h1 : d = 42
  · subst h1; exact .inl ⟨rfl, rfl⟩
  · by_cases h2 : d = 43
    · subst h2; exact .inr (.inl ⟨rfl, rfl⟩)
    · by_cases h3 : d = 63
      · subst h3; exact .inr (.inr (.inl ⟨rfl, rfl⟩))
      · exact .inr (.inr (.inr ⟨h1, h2, h3, by simp [sgn, h1, h2, h3]⟩))
theorem size_mem : ∀ {l : List Xp} {i : Nat} {p : Xp}, l[i]? = some p → p.size ≤ sizes l
  | [], i, p, h => by simp at h
  | x :: r, 0, p, h => by simp at h; subst h; simp only [sizes]; omega
  | x :: r, i + 1, p, h => by
    have := size_mem (l := r) (i := i) (p := p) (by simpa using h)
    simp only [sizes]; omega
theorem sgs_size : ∀ (r : Str) (x : Xp), (sgs x r).1.size + 3 * (sgs x r).2.length ≤ x.size + 3 * r.length
  | [], x => by simp [sgs]
  | c :: r, x => by
    unfold sgs
    split
    · rename_i k _
      have := sgs_size r (.mk k 0 [x])
      rw [size_mk, sizes_one] at this
      simp only [List.length_cons]; omega
    · simp
theorem rdL_size : ∀ (n : Nat) (left : Str) (L A : List Xp) (x : Xp) (r : Str), rdL n left L A = some (x, r) → x.size + 3 * r.length ≤ sizes L + sizes A + 3 * left.length + 2
  | 0, left, L, A, x, r, h => by simp [rdL] at h
  | n + 1, left, L, A, x, r, h => by
    have hz := nrm_size 3 (A ++ prt 3 (nrm 2 L))
    have hp := prt_size 3 (nrm 2 L)
    have hq := nrm_size 2 L
    rw [sizes_app] at hz
    match left, h with
    | [], h => rw [rdL_end] at h; cases h; simp only [List.length_nil]; omega
    | c :: s, h =>
      by_cases h1 : c = 41
      · subst h1
        rw [rdL_close] at h; cases h
        omega
      · by_cases h2 : c = 124
        · subst h2
          rw [rdL_bar] at h
          have := rdL_size n s [] _ x r h
          rw [sizes_app] at this
          simp only [sizes] at this
          simp only [List.length_cons]; omega
        · rw [rdL_item n s L A h1 h2] at h
          cases hi : itm (fun s => rdL n s [] []) c s with
          | none => rw [hi] at h; cases h
          | some p =>
            obtain ⟨y, r2⟩ := p
            rw [hi] at h
            simp only at h
            have hy : y.size + 3 * r2.length ≤ 3 * s.length + 3 := by
              unfold itm at hi
              split at hi
              · cases hi; simp only [size_mk, sizes]; omega
              · split at hi
                · split at hi
                  · rename_i x' r2' hr
                    cases hi
                    have := rdL_size n s [] [] _ _ hr
                    simp only [sizes, List.length_cons] at this
                    omega
                  · cases hi
                · cases hi
            have h5 := rdL_size n _ _ A x r h
            have h6 := sgs_size r2 y
            have h7 := prt_size 2 (sgs y r2).1
            rw [sizes_app] at h5
            simp only [List.length_cons]; omega
end Go.VL
