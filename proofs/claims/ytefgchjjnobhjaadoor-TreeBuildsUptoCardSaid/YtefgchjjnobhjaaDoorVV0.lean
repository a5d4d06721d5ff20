/- max and min. -/
import Derived.Test.YtefgchjjnobhjaaDoorVU
set_option linter.unusedVariables false
set_option linter.unusedSimpArgs false
namespace Go.VL
open Go Go.RowKit

variable {P : Program} {X O : Nat → Prop} {w0 w w' : World} {θ θ' : Th} {st : St} {a : Act} {N : Nat → Prop}

theorem mxI_fold : ∀ {l : List T} {vs : List Value} {k k' : IntKind} {m n : Int}, vs.length = l.length → (∀ (i : Nat) (x : T), l[i]? = some x → RepT w N θ (vs.getD i undef) x) → mxI l = some (k, n) →
    (vs.foldlM Builtin.max2 (.int k' m)).run P w = .ok (.int k' (max m n)) w
  | [], _, _, _, _, _, _, _, h => by simp [mxI] at h
  | [.d (.int k1 n1)], vs, k, k', m, n, hl, hr, h => by
    simp only [mxI, Option.some.injEq, Prod.mk.injEq] at h
    obtain ⟨rfl, rfl⟩ := h
    match vs, hl, hr with
    | [v], _, hr =>
      obtain rfl := (hr 0 _ rfl).int_inv
      simp only [List.foldlM, Builtin.max2, Sem.run_bind, Sem.run_pure, Result.andThen_ok]
      congr 2
      split <;> omega
  | .d (.int k1 n1) :: y :: r, vs, k, k', m, n, hl, hr, h => by
    simp only [mxI] at h
    cases hm : mxI (y :: r) with
    | none => simp [hm] at h
    | some p =>
      obtain ⟨k2, n2⟩ := p
      simp only [hm, Option.some.injEq, Prod.mk.injEq] at h
      obtain ⟨rfl, rfl⟩ := h
      match vs, hl, hr with
      | v :: vs, hl, hr =>
        have h0 := (hr 0 _ rfl).int_inv
        simp only [List.getD_cons_zero] at h0
        subst h0
        have ih := mxI_fold (k' := k') (m := if n1 > m then n1 else m) (by simpa using hl) (fun i x hx => hr (i + 1) x hx) hm
        simp only [List.foldlM, Builtin.max2, Sem.run_bind, Sem.run_pure, Result.andThen_ok, ih]
        congr 2
        split <;> omega
  | [.d (.bool _)], _, _, _, _, _, _, _, h => by simp [mxI] at h

theorem mnI_fold : ∀ {l : List T} {vs : List Value} {k k' : IntKind} {m n : Int}, vs.length = l.length → (∀ (i : Nat) (x : T), l[i]? = some x → RepT w N θ (vs.getD i undef) x) → mnI l = some (k, n) →
    (vs.foldlM Builtin.min2 (.int k' m)).run P w = .ok (.int k' (min m n)) w
  | [], _, _, _, _, _, _, _, h => by simp [mnI] at h
  | [.d (.int k1 n1)], vs, k, k', m, n, hl, hr, h => by
    simp only [mnI, Option.some.injEq, Prod.mk.injEq] at h
    obtain ⟨rfl, rfl⟩ := h
    match vs, hl, hr with
    | [v], _, hr =>
      obtain rfl := (hr 0 _ rfl).int_inv
      simp only [List.foldlM, Builtin.min2, Sem.run_bind, Sem.run_pure, Result.andThen_ok]
      congr 2
      split <;> omega
  | .d (.int k1 n1) :: y :: r, vs, k, k', m, n, hl, hr, h => by
    simp only [mnI] at h
    cases hm : mnI (y :: r) with
    | none => simp [hm] at h
    | some p =>
      obtain ⟨k2, n2⟩ := p
      simp only [hm, Option.some.injEq, Prod.mk.injEq] at h
      obtain ⟨rfl, rfl⟩ := h
      match vs, hl, hr with
      | v :: vs, hl, hr =>
        have h0 := (hr 0 _ rfl).int_inv
        simp only [List.getD_cons_zero] at h0
        subst h0
        have ih := mnI_fold (k' := k') (m := if n1 < m then n1 else m) (by simpa using hl) (fun i x hx => hr (i + 1) x hx) hm
        simp only [List.foldlM, Builtin.min2, Sem.run_bind, Sem.run_pure, Result.andThen_ok, ih]
        congr 2
        split <;> omega
  | [.d (.bool _)], _, _, _, _, _, _, _, h => by simp [mnI] at h


theorem max_run {vs : Array Value} {ts : Array TypeId} {ty : TypeId} {l : List T} {k : IntKind} {n : Int} (hl : vs.size = l.length) (hr : ∀ (i : Nat) (x : T), l[i]? = some x → RepT w N θ (vs.getD i undef) x) (h : mxI l = some (k, n)) :
    (Builtin.max_ ts ty vs).run P w = .ok (.int k n) w := by
  obtain ⟨vs⟩ := vs
  simp only [List.size_toArray] at hl
  have hr' : ∀ (i : Nat) (x : T), l[i]? = some x → RepT w N θ (vs.getD i undef) x := fun i x hx => by
    have := hr i x hx
    simpa [Array.getD_eq_getD_getElem?, List.getD] using this
  clear hr
  simp only [Builtin.max_]
  match l, vs, hl, hr', h with
  | [.d (.int k1 n1)], [v], _, hr, h =>
    simp only [mxI, Option.some.injEq, Prod.mk.injEq] at h
    obtain ⟨rfl, rfl⟩ := h
    obtain rfl := (hr 0 _ rfl).int_inv
    rfl
  | .d (.int k1 n1) :: y :: r, v :: vs, hl, hr, h =>
    simp only [mxI] at h
    cases hm : mxI (y :: r) with
    | none => simp [hm] at h
    | some p =>
      obtain ⟨k2, n2⟩ := p
      simp only [hm, Option.some.injEq, Prod.mk.injEq] at h
      obtain ⟨rfl, rfl⟩ := h
      have h0 := (hr 0 _ rfl).int_inv
      simp only [List.getD_cons_zero] at h0
      subst h0
      exact mxI_fold (by simpa using hl) (fun i x hx => hr (i + 1) x hx) hm

theorem min_run {vs : Array Value} {ts : Array TypeId} {ty : TypeId} {l : List T} {k : IntKind} {n : Int} (hl : vs.size = l.length) (hr : ∀ (i : Nat) (x : T), l[i]? = some x → RepT w N θ (vs.getD i undef) x) (h : mnI l = some (k, n)) :
    (Builtin.min_ ts ty vs).run P w = .ok (.int k n) w := by
  obtain ⟨vs⟩ := vs
  simp only [List.size_toArray] at hl
  have hr' : ∀ (i : Nat) (x : T), l[i]? = some x → RepT w N θ (vs.getD i undef) x := fun i x hx => by
    have := hr i x hx
    simpa [Array.getD_eq_getD_getElem?, List.getD] using this
  clear hr
  simp only [Builtin.min_]
  match l, vs, hl, hr', h with
  | [.d (.int k1 n1)], [v], _, hr, h =>
    simp only [mnI, Option.some.injEq, Prod.mk.injEq] at h
    obtain ⟨rfl, rfl⟩ := h
    obtain rfl := (hr 0 _ rfl).int_inv
    rfl
  | .d (.int k1 n1) :: y :: r, v :: vs, hl, hr, h =>
    simp only [mnI] at h
    cases hm : mnI (y :: r) with
    | none => simp [hm] at h
    | some p =>
      obtain ⟨k2, n2⟩ := p
      simp only [hm, Option.some.injEq, Prod.mk.injEq] at h
      obtain ⟨rfl, rfl⟩ := h
      have h0 := (hr 0 _ rfl).int_inv
      simp only [List.getD_cons_zero] at h0
      subst h0
      exact mnI_fold (by simpa using hl) (fun i x hx => hr (i + 1) x hx) hm
end Go.VL
