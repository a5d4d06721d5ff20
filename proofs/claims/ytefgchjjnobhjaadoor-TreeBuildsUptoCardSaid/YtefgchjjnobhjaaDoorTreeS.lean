/- A tree is the same as itself; both builders agree. -/
import Derived.Test.YtefgchjjnobhjaaDoorTreeR3
import Derived.Test.YtefgchjjnobhjaaDoorNodes
set_option linter.unusedVariables false
set_option linter.unusedSimpArgs false
namespace Go.VL.TreeS
open Go Go.Proofs Go.VL Go.VL.Nodes Go.VL.TreeR2 Go.VL.TreeR3
set_option maxRecDepth 100000
attribute [local irreducible] CallWP WP Need Br Each NilB fit Both
def okT : Nat → List Nd → Prop
  | 0, ns => ns = []
  | m + 1, ns => ns.length < 2 ^ 62 ∧ ∀ (i : Nat) (a : Str) (b : List Attr) (c : Str) (ps : List Nd), ns[i]? = some (.mk a b c ps) → b.length < 2 ^ 62 ∧ okT m ps
set_option maxHeartbeats 4000000 in
theorem sameStep (ns : List Nd) (hl : ns.length < 2 ^ 62) (hat : ∀ (i : Nat) (a : Str) (b : List Attr) (c : Str) (ps : List Nd), ns[i]? = some (.mk a b c ps) → b.length < 2 ^ 62 ∧ CallWP Tryd.prog 6 [.d (.sl (nds ps)), .d (.sl (nds ps))] [] (fun r h => r = .d (.bool true) ∧ h = [])) :
    CallWP Tryd.prog 6 [.d (.sl (nds ns)), .d (.sl (nds ns))] [] (fun r h => r = .d (.bool true) ∧ h = []) := by
  (refine CallWP.go tabOK Tryd.func6 0 69 rfl rfl rfl rfl ?_; conv => whnf)
  repeat' (first
    | (refine Br.tt ?_; conv => whnf)
    | (refine Br.ff ?_; conv => whnf)
    | (refine Both.mk ?_ ?_ <;> conv => whnf)
    | (refine Br.not ?_)
    | (refine Need.mk ?_ ?_; (focus ((first | omega | exact ⟨by omega, by omega⟩ | rfl | exact trivial | assumption | (simp only [List.length_map, List.length_append, List.length_take, List.length_drop, List.length_cons, List.length_nil, List.length_replicate, List.length_set, List.length_reverse, nds_len, numsD_length]; omega) | (simp only [List.length_map, List.length_append, List.length_take, List.length_drop, List.length_cons, List.length_nil, List.length_replicate, List.length_set, List.length_reverse, nds_len, numsD_length]; exact ⟨by omega, by omega⟩) | exact nds_each | (refine map_each ?_; intro x; rfl) | (refine first_map ?_; intro x; rfl) | exact first_nds | simp | (simp; omega)); done)); conv => whnf)
    | (refine Br.t (by assumption) ?_; conv => whnf)
    | (refine Br.f (by assumption) ?_; conv => whnf)
    | (refine Br.self ?_; conv => whnf)
    | (refine Br.decT (by assumption) ?_; conv => whnf)
    | (refine Br.decF (by assumption) ?_; conv => whnf)
    | (refine Br.eqT (by assumption) ?_; conv => whnf)
    | (refine Br.eqF (by assumption) ?_; conv => whnf)
    | (refine Br.dec (fun hc => ?_) (fun hc => ?_) <;> (try simp only [List.length_map, List.length_append, List.length_take, List.length_drop, List.length_cons, List.length_nil, List.length_replicate, List.length_set, List.length_reverse, nds_len, numsD_length] at hc) <;> first | (exfalso; omega) | exact absurd trivial hc | exact absurd rfl hc | conv => whnf)
    | (refine Br.eq (fun hc => ?_) (fun hc => ?_) <;> first | (exfalso; omega) | exact absurd trivial hc | exact absurd rfl hc | conv => whnf)
    | (refine Br.ne (fun hc => ?_) (fun hc => ?_) <;> first | (exfalso; omega) | exact absurd trivial hc | exact absurd rfl hc | conv => whnf)
    | (with_reducible refine Br.and ?_)
    | (with_reducible refine Br.or ?_)
    | (refine Br.any (fun hc => ?_) (fun hc => ?_) <;> conv => whnf)
    | (refine Fit.inl ?_ ?_; (focus ((first | omega | exact ⟨by omega, by omega⟩ | rfl | exact trivial | assumption | (simp only [List.length_map, List.length_append, List.length_take, List.length_drop, List.length_cons, List.length_nil, List.length_replicate, List.length_set, List.length_reverse, nds_len, numsD_length]; omega) | (simp only [List.length_map, List.length_append, List.length_take, List.length_drop, List.length_cons, List.length_nil, List.length_replicate, List.length_set, List.length_reverse, nds_len, numsD_length]; exact ⟨by omega, by omega⟩) | exact nds_each | (refine map_each ?_; intro x; rfl) | (refine first_map ?_; intro x; rfl) | exact first_nds | simp | (simp; omega)); done)); conv => whnf)
    | (refine Each.mapAt (by assumption) ?_; conv => whnf)
    | (refine Each.ndsAt (by assumption) ?_; conv => whnf)
    | (refine Each.at (by assumption) ?_; conv => whnf)
    | (refine Each.map (fun x hx => ?_); (try simp only [Int.toNat_natCast, Int.toNat_zero, Int.toNat_one, Int.toNat_natCast_add_one] at hx); conv => whnf)
    | (refine Each.nds (fun a b c ps hx => ?_); (try simp only [Int.toNat_natCast, Int.toNat_zero, Int.toNat_one, Int.toNat_natCast_add_one] at hx); conv => whnf)
    | (refine Each.rep ?_; conv => whnf)
    | (refine Each.drop ?_)
    | (refine Each.take (fun hi => ?_))
    | (refine Each.any (fun x hx => ?_); (try simp only [Int.toNat_natCast, Int.toNat_zero, Int.toNat_one, Int.toNat_natCast_add_one] at hx); conv => whnf)
    | (refine NilB.any (fun hn => ?_) ?_ <;> conv => whnf)
    | (refine ⟨_, bytesOfD_nums _, ?_⟩; conv => whnf)
    | (refine WP.sch (id := 6) tabOK hmix (.mob 0 (.mob 1 (.mob 2 (.mob 3 (.mob 4 (.mob 5 (.mob 6 (.mob 7 (.mob 8 (.mob 9 (.mob 10 (.mob 11 (.mob 12 (.mob 13 (.mob 14 (.mob 15 (.mob 16 (.mob 17 (.mob 18 (.mob 19 (.mob 20 (.mob 21 (.mob 22 (.mob 23 (.mob 24 (.mob 25 (.mob 26 (.mob 27 (.mob 28 (.mob 29 (.mob 30 (.mob 31 (.mob 32 (.mob 33 (.mob 34 (.alt [(35, .mob 36 (.mob 37 (.mob 38 (.mob 39 (.mob 40 (.mob 41 (.mob 42 (.mob 43 (.mob 44 (.mob 45 (.mob 46 (.mob 47 (.mob 48 (.alt [(49, .mob 50 (.mob 51 (.done)))]))))))))))))))])))))))))))))))))))))))))))))))))))) (by kernel_rfl) ?_; conv => whnf)
    | exact ⟨rfl, rfl⟩
    | (refine Fin.bool ?_ rfl)
    | (refine Fin.int ?_ rfl)
    | (refine Fin.str ?_ rfl)
    | (refine Fin.sl ?_ rfl)
    | exact trivial)
  refine WP.loop (α := Nat) tabOK (fun i => i ≤ ns.length) (fun i => ⟨[(0, (.d (.sl (nds ns)))), (1, (.d (.sl (nds ns)))), (12, (.d (.int .i64 ((nds ns).length)))), (13, (.d (.int .i64 (i))))], [], 0, 69⟩) (fun i => ns.length - i) (0) ?_ ?_ ?_
  · exact Nat.zero_le _
  · conv => whnf
    repeat (first | exact True.intro | (refine Need.mk ?_ ?_; (focus ((first | rfl | assumption | omega | (simp only [List.length_map, List.length_append, List.length_take, List.length_drop, List.length_cons, List.length_nil, List.length_replicate, List.length_set, List.length_reverse, nds_len, numsD_length]; omega) | simp); done)); conv => whnf) | ((conv => whnf); exact True.intro))
  intro i hi
  conv => whnf
  repeat' (first
    | (refine Br.tt ?_; conv => whnf)
    | (refine Br.ff ?_; conv => whnf)
    | (refine Both.mk ?_ ?_ <;> conv => whnf)
    | (refine Br.not ?_)
    | (refine Need.mk ?_ ?_; (focus ((first | omega | exact ⟨by omega, by omega⟩ | rfl | exact trivial | assumption | (simp only [List.length_map, List.length_append, List.length_take, List.length_drop, List.length_cons, List.length_nil, List.length_replicate, List.length_set, List.length_reverse, nds_len, numsD_length]; omega) | (simp only [List.length_map, List.length_append, List.length_take, List.length_drop, List.length_cons, List.length_nil, List.length_replicate, List.length_set, List.length_reverse, nds_len, numsD_length]; exact ⟨by omega, by omega⟩) | exact nds_each | (refine map_each ?_; intro x; rfl) | (refine first_map ?_; intro x; rfl) | exact first_nds | simp | (simp; omega)); done)); conv => whnf)
    | (refine Br.t (by assumption) ?_; conv => whnf)
    | (refine Br.f (by assumption) ?_; conv => whnf)
    | (refine Br.self ?_; conv => whnf)
    | (refine Br.decT (by assumption) ?_; conv => whnf)
    | (refine Br.decF (by assumption) ?_; conv => whnf)
    | (refine Br.eqT (by assumption) ?_; conv => whnf)
    | (refine Br.eqF (by assumption) ?_; conv => whnf)
    | (refine Br.dec (fun hc => ?_) (fun hc => ?_) <;> (try simp only [List.length_map, List.length_append, List.length_take, List.length_drop, List.length_cons, List.length_nil, List.length_replicate, List.length_set, List.length_reverse, nds_len, numsD_length] at hc) <;> first | (exfalso; omega) | exact absurd trivial hc | exact absurd rfl hc | conv => whnf)
    | (refine Br.eq (fun hc => ?_) (fun hc => ?_) <;> first | (exfalso; omega) | exact absurd trivial hc | exact absurd rfl hc | conv => whnf)
    | (refine Br.ne (fun hc => ?_) (fun hc => ?_) <;> first | (exfalso; omega) | exact absurd trivial hc | exact absurd rfl hc | conv => whnf)
    | (with_reducible refine Br.and ?_)
    | (with_reducible refine Br.or ?_)
    | (refine Br.any (fun hc => ?_) (fun hc => ?_) <;> conv => whnf)
    | (refine Fit.inl ?_ ?_; (focus ((first | omega | exact ⟨by omega, by omega⟩ | rfl | exact trivial | assumption | (simp only [List.length_map, List.length_append, List.length_take, List.length_drop, List.length_cons, List.length_nil, List.length_replicate, List.length_set, List.length_reverse, nds_len, numsD_length]; omega) | (simp only [List.length_map, List.length_append, List.length_take, List.length_drop, List.length_cons, List.length_nil, List.length_replicate, List.length_set, List.length_reverse, nds_len, numsD_length]; exact ⟨by omega, by omega⟩) | exact nds_each | (refine map_each ?_; intro x; rfl) | (refine first_map ?_; intro x; rfl) | exact first_nds | simp | (simp; omega)); done)); conv => whnf)
    | (refine Each.mapAt (by assumption) ?_; conv => whnf)
    | (refine Each.ndsAt (by assumption) ?_; conv => whnf)
    | (refine Each.at (by assumption) ?_; conv => whnf)
    | (refine Each.map (fun x hx => ?_); (try simp only [Int.toNat_natCast, Int.toNat_zero, Int.toNat_one, Int.toNat_natCast_add_one] at hx); conv => whnf)
    | (refine Each.nds (fun a b c ps hx => ?_); (try simp only [Int.toNat_natCast, Int.toNat_zero, Int.toNat_one, Int.toNat_natCast_add_one] at hx); conv => whnf)
    | (refine Each.rep ?_; conv => whnf)
    | (refine Each.drop ?_)
    | (refine Each.take (fun hi => ?_))
    | (refine Each.any (fun x hx => ?_); (try simp only [Int.toNat_natCast, Int.toNat_zero, Int.toNat_one, Int.toNat_natCast_add_one] at hx); conv => whnf)
    | (refine NilB.any (fun hn => ?_) ?_ <;> conv => whnf)
    | (refine CallWP.mono (sameAttrs _ (hat _ _ _ _ _ (by assumption)).1) ?_; rintro r h ⟨rfl, rfl⟩; conv => whnf)
    | (refine CallWP.mono ((hat _ _ _ _ _ (by assumption)).2) ?_; rintro r h ⟨rfl, rfl⟩; conv => whnf)
    | (refine ⟨_, bytesOfD_nums _, ?_⟩; conv => whnf)
    | (refine WP.sch (id := 6) tabOK hmix (.mob 0 (.mob 1 (.mob 2 (.mob 3 (.mob 4 (.mob 5 (.mob 6 (.mob 7 (.mob 8 (.mob 9 (.mob 10 (.mob 11 (.mob 12 (.mob 13 (.mob 14 (.mob 15 (.mob 16 (.mob 17 (.mob 18 (.mob 19 (.mob 20 (.mob 21 (.mob 22 (.mob 23 (.mob 24 (.mob 25 (.mob 26 (.mob 27 (.mob 28 (.mob 29 (.mob 30 (.mob 31 (.mob 32 (.mob 33 (.mob 34 (.alt [(35, .mob 36 (.mob 37 (.mob 38 (.mob 39 (.mob 40 (.mob 41 (.mob 42 (.mob 43 (.mob 44 (.mob 45 (.mob 46 (.mob 47 (.mob 48 (.alt [(49, .mob 50 (.mob 51 (.done)))]))))))))))))))])))))))))))))))))))))))))))))))))))) (by kernel_rfl) ?_; conv => whnf)
    | exact ⟨rfl, rfl⟩
    | (refine Fin.bool ?_ rfl)
    | (refine Fin.int ?_ rfl)
    | (refine Fin.str ?_ rfl)
    | (refine Fin.sl ?_ rfl)
    | exact trivial)
  refine ⟨i + 1, by omega, by dsimp only; omega, ?_⟩
  conv => whnf
  repeat (first | exact True.intro | (refine Need.mk ?_ ?_; (focus ((first | rfl | assumption | omega | (simp only [List.length_map, List.length_append, List.length_take, List.length_drop, List.length_cons, List.length_nil, List.length_replicate, List.length_set, List.length_reverse, nds_len, numsD_length]; omega) | simp); done)); conv => whnf) | ((conv => whnf); exact True.intro))
theorem sameT : ∀ (m : Nat) (ns : List Nd), okT m ns → CallWP Tryd.prog 6 [.d (.sl (nds ns)), .d (.sl (nds ns))] [] (fun r h => r = .d (.bool true) ∧ h = [])
  | 0, ns, h => by
    have h : ns = [] := h
    subst h
    exact sameStep [] (by simp) (fun i a b c ps h => by simp at h)
  | m + 1, ns, h => sameStep ns h.1 (fun i a b c ps hx => ⟨(h.2 i a b c ps hx).1, sameT m ps (h.2 i a b c ps hx).2⟩)
theorem okT_nodes {es : List Ent} (h1 : es.length < 2 ^ 62) (h2 : ∀ e ∈ es, e.attrs.length < 2 ^ 40) : ∀ (n : Nat) (q : Int), okT n (nodesK es n q)
  | 0, q => rfl
  | n + 1, q => by
    refine ⟨?_, fun i a b c ps hx => ?_⟩
    · rw [nodesK, List.length_map]
      unfold kidE
      have := List.length_filter_le (parIs es q) (List.range es.length)
      simp at this
      omega
    · rw [nodesK, List.getElem?_map] at hx
      cases hj : (kidE es q)[i]? with
      | none => rw [hj] at hx; cases hx
      | some j =>
        rw [hj] at hx
        obtain ⟨_, e, he, _⟩ := kidE_lt (List.mem_of_getElem? hj)
        simp only [Option.map_some, nodeAt, he, Option.some.injEq, Nd.mk.injEq] at hx
        obtain ⟨rfl, rfl, rfl, rfl⟩ := hx
        have := h2 e (List.mem_of_getElem? he)
        exact ⟨by omega, okT_nodes h1 h2 n j⟩
theorem at_start {es : List Ent} {s : List Nat} {t : TokT} (ht : t.attrs.length < 2 ^ 40) (h : ∀ e ∈ es, e.attrs.length < 2 ^ 40) : ∀ e ∈ (pstart es s t).1, e.attrs.length < 2 ^ 40 := by
  unfold pstart
  simp only
  split
  · exact h
  · intro e he
    rcases List.mem_append.1 he with he | he
    · exact h e he
    · simp at he; subst he; exact ht
theorem at_chars {es : List Ent} {s : List Nat} {mute tx : Str} (h : ∀ e ∈ es, e.attrs.length < 2 ^ 40) : ∀ e ∈ pchars es s mute tx, e.attrs.length < 2 ^ 40 := by
  have h2 : ∀ (q : Int), ∀ e ∈ es ++ [(⟨q, [], [], tx, true⟩ : Ent)], e.attrs.length < 2 ^ 40 := fun q e he => by
    rcases List.mem_append.1 he with he | he
    · exact h e he
    · simp at he; subst he; simp
  unfold pchars
  split
  · exact h
  · unfold addTx
    split
    · rename_i f hf
      split
      · intro e he
        rcases List.mem_or_eq_of_mem_set he with he | he
        · exact h e he
        · subst he
          exact h f (List.mem_of_getElem? hf)
      · exact h2 _
    · exact h2 _
theorem ok_run : ∀ (ts : List TokT) (es : List Ent) (s : List Nat) (mute : Str), (∀ t ∈ ts, t.attrs.length < 2 ^ 40) → es.length ≤ 150 → (∀ e ∈ es, e.attrs.length < 2 ^ 40) → (prun es s mute ts).1.length ≤ 150 ∧ ∀ e ∈ (prun es s mute ts).1, e.attrs.length < 2 ^ 40
  | [], es, s, mute, _, h1, h2 => ⟨h1, h2⟩
  | t :: ts, es, s, mute, ht, h1, h2 => by
    rw [prun]
    cases hp : pstep es s mute t with
    | none => exact ⟨by simp, fun e he => by simp at he⟩
    | some x =>
      obtain ⟨es', s', m'⟩ := x
      simp only
      split
      · exact ⟨by simp, fun e he => by simp at he⟩
      · refine ok_run ts es' s' m' (fun t h => ht t (by simp [h])) (by omega) ?_
        have h3 := at_start (s := s) (ht t (by simp)) h2
        have h4 := at_chars (s := s) (mute := mute) (tx := t.text) h2
        unfold pstep at hp
        split at hp
        · rw [Option.some.injEq] at hp; rw [hp] at h3; exact h3
        · split at hp
          · simp only [Option.some.injEq, Prod.mk.injEq] at hp; rw [← hp.1]; exact h2
          · split at hp
            · simp only [Option.some.injEq, Prod.mk.injEq] at hp; rw [← hp.1]; exact h4
            · split at hp
              · simp only [Option.some.injEq, Prod.mk.injEq] at hp; rw [← hp.1]; exact h2
              · cases hp
end Go.VL.TreeS
