/- The law PickFinds answers true. -/
import Derived.Test.YtekmfhoppbpobaaPickFindF
import Derived.Test.YtekmfhoppbpobaaInts
set_option linter.unusedVariables false
set_option linter.unusedSimpArgs false
namespace Go.VL.PickFinds
open Go Go.Proofs Go.VL Go.VL.PickRef Go.VL.PickFindF Go.VL.PickChk Go.VL.Ints
set_option maxRecDepth 100000
attribute [local irreducible] CallWP WP Need Br Each NilB fit Both
theorem law (l : List Pick) (ns : List Nd) (hs : szL [.sl (l.map Pick.d)] ≤ 1048576) (hs2 : szL [.sl (nds ns)] ≤ 1048576) : CallWP Try.prog 5 [.d (.sl (l.map Pick.d)), .d (.sl (nds ns))] [] (fun r h => r = .d (.bool true)) := by
  have h1 : l.length < 2 ^ 40 := by have := len_pick l; simp only [szL, szD] at hs; omega
  have h2 : ∀ p ∈ l, p.name.length < 2 ^ 40 ∧ p.attr.length < 2 ^ 40 := fun p hp => by have := mem_pick hp; simp only [szL, szD] at hs; omega
  have h3 : Nodes.attrsOk ns := by unfold Nodes.attrsOk; simp only [szL, szD] at hs2; omega
  have h4 : szs ns ≤ 1048576 := by have := nds_le ns; simp only [szL, szD] at hs2; omega
  have h5 : (resR l ns).1.length ≤ 1048576 ∧ ∀ x ∈ (resR l ns).1, x.length < 2 ^ 62 := by
    unfold resR
    split
    · rename_i hc
      have hl0 : l ≠ [] := fun e => by have := (chk_len hc).1; rw [e] at this; simp at this
      have e := found_L hl0 ns 0 [] [] _ _ (Rel.start l)
      refine ⟨by have := lL_len l ns 0 [] []; simp only; omega, fun x hx => ?_⟩
      simp only at hx
      rw [← e] at hx
      have := wL_mem l ns 0 [] _ _ x hx
      simp at this; omega
    · simp
  obtain ⟨h5, h6⟩ := h5
  generalize hR : resR l ns = R at *
  have hC := findC l ns h1 h2 h3 h4
  have hF := findR l ns h1 h2 h3 h4
  rw [hR] at hC hF
  (refine CallWP.go tabOK Try.func5 0 48 rfl rfl rfl rfl ?_; conv => whnf)
  repeat' (first
    | (refine Br.tt ?_; conv => whnf)
    | (refine Br.ff ?_; conv => whnf)
    | (refine Both.mk ?_ ?_ <;> conv => whnf)
    | (refine Br.not ?_)
    | (refine Need.mk ?_ ?_; (focus ((first | omega | exact ⟨by omega, by omega⟩ | rfl | exact trivial | assumption | (simp only [List.length_map, List.length_append, List.length_take, List.length_drop, List.length_cons, List.length_nil, List.length_replicate, List.length_set, List.length_reverse, nds_len, numsD_length]; omega) | (simp only [List.length_map, List.length_append, List.length_take, List.length_drop, List.length_cons, List.length_nil, List.length_replicate, List.length_set, List.length_reverse, nds_len, numsD_length]; exact ⟨by omega, by omega⟩) | exact nds_each | (refine map_each ?_; intro x; rfl) | (refine first_map ?_; intro x; rfl) | exact first_nds | simp | (simp; omega)); done)); conv => whnf)
    | (refine Br.t (by assumption) ?_; conv => whnf)
    | (refine Br.f (by assumption) ?_; conv => whnf)
    | (refine Br.self ?_; conv => whnf)
    | (refine Br.decT (by assumption) ?_; conv => whnf)
    | (refine Br.decF (by assumption) ?_; conv => whnf)
    | (refine Br.eqT (by assumption) ?_; conv => whnf)
    | (refine Br.eqF (by assumption) ?_; conv => whnf)
    | (refine Br.dec (fun hc => ?_) (fun hc => ?_) <;> (try simp only [List.length_map, List.length_append, List.length_take, List.length_drop, List.length_cons, List.length_nil, List.length_replicate, List.length_set, List.length_reverse, nds_len, numsD_length] at hc) <;> first | (exfalso; omega) | exact absurd trivial hc | exact absurd rfl hc | conv => whnf)
    | (refine Br.eq (fun hc => ?_) (fun hc => ?_) <;> first | (exfalso; omega) | exact absurd trivial hc | exact absurd rfl hc | conv => whnf)
    | (refine Br.ne (fun hc => ?_) (fun hc => ?_) <;> first | (exfalso; omega) | exact absurd trivial hc | exact absurd rfl hc | conv => whnf)
    | (with_reducible refine Br.and ?_)
    | (with_reducible refine Br.or ?_)
    | (refine Br.any (fun hc => ?_) (fun hc => ?_) <;> conv => whnf)
    | (refine Fit.inl ?_ ?_; (focus ((first | omega | exact ⟨by omega, by omega⟩ | rfl | exact trivial | assumption | (simp only [List.length_map, List.length_append, List.length_take, List.length_drop, List.length_cons, List.length_nil, List.length_replicate, List.length_set, List.length_reverse, nds_len, numsD_length]; omega) | (simp only [List.length_map, List.length_append, List.length_take, List.length_drop, List.length_cons, List.length_nil, List.length_replicate, List.length_set, List.length_reverse, nds_len, numsD_length]; exact ⟨by omega, by omega⟩) | exact nds_each | (refine map_each ?_; intro x; rfl) | (refine first_map ?_; intro x; rfl) | exact first_nds | simp | (simp; omega)); done)); conv => whnf)
    | (refine Each.mapAt (by assumption) ?_; conv => whnf)
    | (refine Each.ndsAt (by assumption) ?_; conv => whnf)
    | (refine Each.at (by assumption) ?_; conv => whnf)
    | (refine Each.map (fun x hx => ?_); (try simp only [Int.toNat_natCast, Int.toNat_zero, Int.toNat_one, Int.toNat_natCast_add_one] at hx); conv => whnf)
    | (refine Each.nds (fun a b c ps hx => ?_); (try simp only [Int.toNat_natCast, Int.toNat_zero, Int.toNat_one, Int.toNat_natCast_add_one] at hx); conv => whnf)
    | (refine Each.rep ?_; conv => whnf)
    | (refine Each.drop ?_)
    | (refine Each.take (fun hi => ?_))
    | (refine Each.any (fun x hx => ?_); (try simp only [Int.toNat_natCast, Int.toNat_zero, Int.toNat_one, Int.toNat_natCast_add_one] at hx); conv => whnf)
    | (refine NilB.any (fun hn => ?_) ?_ <;> conv => whnf)
    | (refine CallWP.mono (hC) ?_; rintro r h ⟨rfl, rfl⟩; conv => whnf)
    | (refine CallWP.mono (hF) ?_; rintro r h ⟨rfl, rfl⟩; conv => whnf)
    | (refine ⟨_, bytesOfD_nums _, ?_⟩; conv => whnf)
    | (refine WP.sch (id := 8) tabOK hmix (.mob 0 (.mob 1 (.mob 2 (.mob 3 (.mob 4 (.mob 5 (.mob 6 (.mob 7 (.alt [(8, .mob 9 (.done))]))))))))) (by kernel_rfl) ?_; conv => whnf)
    | exact ⟨rfl, rfl⟩
    | (refine Fin.bool ?_ rfl)
    | (refine Fin.int ?_ rfl)
    | (refine Fin.str ?_ rfl)
    | (refine Fin.sl ?_ rfl)
    | exact trivial)
  all_goals try (exfalso; omega)
  refine WP.loop (α := Nat) tabOK (fun i => i ≤ R.1.length) (fun i => ⟨[(5, (.d (.sl (R.1.map iL)))), (7, (.d (.sl (R.1.map iL)))), (9, (.d (.int .i64 (i))))], [], 0, 48⟩) (fun i => R.1.length - i) (0) ?_ ?_ ?_
  · exact Nat.zero_le _
  · conv => whnf
    repeat (first | exact True.intro | (refine Need.mk ?_ ?_; (focus ((first | rfl | assumption | omega | (simp only [List.length_map, List.length_append, List.length_take, List.length_drop, List.length_cons, List.length_nil, List.length_replicate, List.length_set, List.length_reverse, nds_len, numsD_length]; omega) | simp); done)); conv => whnf) | ((conv => whnf); exact True.intro))
  intro i hi
  by_cases hlt : i < R.1.length
  case neg =>
    conv => whnf
    repeat' (first
    | (refine Br.tt ?_; conv => whnf)
    | (refine Br.ff ?_; conv => whnf)
    | (refine Both.mk ?_ ?_ <;> conv => whnf)
    | (refine Br.not ?_)
    | (refine Need.mk ?_ ?_; (focus ((first | omega | exact ⟨by omega, by omega⟩ | rfl | exact trivial | assumption | (simp only [List.length_map, List.length_append, List.length_take, List.length_drop, List.length_cons, List.length_nil, List.length_replicate, List.length_set, List.length_reverse, nds_len, numsD_length]; omega) | (simp only [List.length_map, List.length_append, List.length_take, List.length_drop, List.length_cons, List.length_nil, List.length_replicate, List.length_set, List.length_reverse, nds_len, numsD_length]; exact ⟨by omega, by omega⟩) | exact nds_each | (refine map_each ?_; intro x; rfl) | (refine first_map ?_; intro x; rfl) | exact first_nds | simp | (simp; omega)); done)); conv => whnf)
    | (refine Br.t (by assumption) ?_; conv => whnf)
    | (refine Br.f (by assumption) ?_; conv => whnf)
    | (refine Br.self ?_; conv => whnf)
    | (refine Br.decT (by assumption) ?_; conv => whnf)
    | (refine Br.decF (by assumption) ?_; conv => whnf)
    | (refine Br.eqT (by assumption) ?_; conv => whnf)
    | (refine Br.eqF (by assumption) ?_; conv => whnf)
    | (refine Br.dec (fun hc => ?_) (fun hc => ?_) <;> (try simp only [List.length_map, List.length_append, List.length_take, List.length_drop, List.length_cons, List.length_nil, List.length_replicate, List.length_set, List.length_reverse, nds_len, numsD_length] at hc) <;> first | (exfalso; omega) | exact absurd trivial hc | exact absurd rfl hc | conv => whnf)
    | (refine Br.eq (fun hc => ?_) (fun hc => ?_) <;> first | (exfalso; omega) | exact absurd trivial hc | exact absurd rfl hc | conv => whnf)
    | (refine Br.ne (fun hc => ?_) (fun hc => ?_) <;> first | (exfalso; omega) | exact absurd trivial hc | exact absurd rfl hc | conv => whnf)
    | (with_reducible refine Br.and ?_)
    | (with_reducible refine Br.or ?_)
    | (refine Br.any (fun hc => ?_) (fun hc => ?_) <;> conv => whnf)
    | (refine Fit.inl ?_ ?_; (focus ((first | omega | exact ⟨by omega, by omega⟩ | rfl | exact trivial | assumption | (simp only [List.length_map, List.length_append, List.length_take, List.length_drop, List.length_cons, List.length_nil, List.length_replicate, List.length_set, List.length_reverse, nds_len, numsD_length]; omega) | (simp only [List.length_map, List.length_append, List.length_take, List.length_drop, List.length_cons, List.length_nil, List.length_replicate, List.length_set, List.length_reverse, nds_len, numsD_length]; exact ⟨by omega, by omega⟩) | exact nds_each | (refine map_each ?_; intro x; rfl) | (refine first_map ?_; intro x; rfl) | exact first_nds | simp | (simp; omega)); done)); conv => whnf)
    | (refine Each.mapAt (by assumption) ?_; conv => whnf)
    | (refine Each.ndsAt (by assumption) ?_; conv => whnf)
    | (refine Each.at (by assumption) ?_; conv => whnf)
    | (refine Each.map (fun x hx => ?_); (try simp only [Int.toNat_natCast, Int.toNat_zero, Int.toNat_one, Int.toNat_natCast_add_one] at hx); conv => whnf)
    | (refine Each.nds (fun a b c ps hx => ?_); (try simp only [Int.toNat_natCast, Int.toNat_zero, Int.toNat_one, Int.toNat_natCast_add_one] at hx); conv => whnf)
    | (refine Each.rep ?_; conv => whnf)
    | (refine Each.drop ?_)
    | (refine Each.take (fun hi => ?_))
    | (refine Each.any (fun x hx => ?_); (try simp only [Int.toNat_natCast, Int.toNat_zero, Int.toNat_one, Int.toNat_natCast_add_one] at hx); conv => whnf)
    | (refine NilB.any (fun hn => ?_) ?_ <;> conv => whnf)
    | (refine ⟨_, bytesOfD_nums _, ?_⟩; conv => whnf)
    | (refine WP.sch (id := 8) tabOK hmix (.mob 0 (.mob 1 (.mob 2 (.mob 3 (.mob 4 (.mob 5 (.mob 6 (.mob 7 (.alt [(8, .mob 9 (.done))]))))))))) (by kernel_rfl) ?_; conv => whnf)
    | exact ⟨rfl, rfl⟩
    | (refine Fin.bool ?_ rfl)
    | (refine Fin.int ?_ rfl)
    | (refine Fin.str ?_ rfl)
    | (refine Fin.sl ?_ rfl)
    | exact trivial)
  obtain ⟨x, hx⟩ : ∃ x, R.1[i]? = some x := ⟨R.1[i], by simp [hlt]⟩
  have hxl := h6 x (List.mem_of_getElem? hx)
  conv => whnf
  repeat' (first
    | (refine Br.tt ?_; conv => whnf)
    | (refine Br.ff ?_; conv => whnf)
    | (refine Both.mk ?_ ?_ <;> conv => whnf)
    | (refine Br.not ?_)
    | (refine Need.mk ?_ ?_; (focus ((first | omega | exact ⟨by omega, by omega⟩ | rfl | exact trivial | assumption | (simp only [List.length_map, List.length_append, List.length_take, List.length_drop, List.length_cons, List.length_nil, List.length_replicate, List.length_set, List.length_reverse, nds_len, numsD_length]; omega) | (simp only [List.length_map, List.length_append, List.length_take, List.length_drop, List.length_cons, List.length_nil, List.length_replicate, List.length_set, List.length_reverse, nds_len, numsD_length]; exact ⟨by omega, by omega⟩) | exact nds_each | (refine map_each ?_; intro x; rfl) | (refine first_map ?_; intro x; rfl) | exact first_nds | simp | (simp; omega)); done)); conv => whnf)
    | (refine Br.t (by assumption) ?_; conv => whnf)
    | (refine Br.f (by assumption) ?_; conv => whnf)
    | (refine Br.self ?_; conv => whnf)
    | (refine Br.decT (by assumption) ?_; conv => whnf)
    | (refine Br.decF (by assumption) ?_; conv => whnf)
    | (refine Br.eqT (by assumption) ?_; conv => whnf)
    | (refine Br.eqF (by assumption) ?_; conv => whnf)
    | (refine Br.dec (fun hc => ?_) (fun hc => ?_) <;> (try simp only [List.length_map, List.length_append, List.length_take, List.length_drop, List.length_cons, List.length_nil, List.length_replicate, List.length_set, List.length_reverse, nds_len, numsD_length] at hc) <;> first | (exfalso; omega) | exact absurd trivial hc | exact absurd rfl hc | conv => whnf)
    | (refine Br.eq (fun hc => ?_) (fun hc => ?_) <;> first | (exfalso; omega) | exact absurd trivial hc | exact absurd rfl hc | conv => whnf)
    | (refine Br.ne (fun hc => ?_) (fun hc => ?_) <;> first | (exfalso; omega) | exact absurd trivial hc | exact absurd rfl hc | conv => whnf)
    | (with_reducible refine Br.and ?_)
    | (with_reducible refine Br.or ?_)
    | (refine Br.any (fun hc => ?_) (fun hc => ?_) <;> conv => whnf)
    | (refine Fit.inl ?_ ?_; (focus ((first | omega | exact ⟨by omega, by omega⟩ | rfl | exact trivial | assumption | (simp only [List.length_map, List.length_append, List.length_take, List.length_drop, List.length_cons, List.length_nil, List.length_replicate, List.length_set, List.length_reverse, nds_len, numsD_length]; omega) | (simp only [List.length_map, List.length_append, List.length_take, List.length_drop, List.length_cons, List.length_nil, List.length_replicate, List.length_set, List.length_reverse, nds_len, numsD_length]; exact ⟨by omega, by omega⟩) | exact nds_each | (refine map_each ?_; intro x; rfl) | (refine first_map ?_; intro x; rfl) | exact first_nds | simp | (simp; omega)); done)); conv => whnf)
    | (refine Each.mapAt (by assumption) ?_; conv => whnf)
    | (refine Each.ndsAt (by assumption) ?_; conv => whnf)
    | (refine Each.at (by assumption) ?_; conv => whnf)
    | (refine Each.map (fun x hx => ?_); (try simp only [Int.toNat_natCast, Int.toNat_zero, Int.toNat_one, Int.toNat_natCast_add_one] at hx); conv => whnf)
    | (refine Each.nds (fun a b c ps hx => ?_); (try simp only [Int.toNat_natCast, Int.toNat_zero, Int.toNat_one, Int.toNat_natCast_add_one] at hx); conv => whnf)
    | (refine Each.rep ?_; conv => whnf)
    | (refine Each.drop ?_)
    | (refine Each.take (fun hi => ?_))
    | (refine Each.any (fun x hx => ?_); (try simp only [Int.toNat_natCast, Int.toNat_zero, Int.toNat_one, Int.toNat_natCast_add_one] at hx); conv => whnf)
    | (refine NilB.any (fun hn => ?_) ?_ <;> conv => whnf)
    | (refine CallWP.mono (sameInts _ _ hxl) ?_; rintro r h ⟨rfl, rfl⟩; conv => whnf)
    | (refine ⟨_, bytesOfD_nums _, ?_⟩; conv => whnf)
    | (refine WP.sch (id := 8) tabOK hmix (.mob 0 (.mob 1 (.mob 2 (.mob 3 (.mob 4 (.mob 5 (.mob 6 (.mob 7 (.alt [(8, .mob 9 (.done))]))))))))) (by kernel_rfl) ?_; conv => whnf)
    | exact ⟨rfl, rfl⟩
    | (refine Fin.bool ?_ rfl)
    | (refine Fin.int ?_ rfl)
    | (refine Fin.str ?_ rfl)
    | (refine Fin.sl ?_ rfl)
    | exact trivial)
  all_goals try (exfalso; simp_all; done)
  all_goals
    refine ⟨i + 1, by omega, by dsimp only; omega, ?_⟩
    conv => whnf
    repeat (first | exact True.intro | (refine Need.mk ?_ ?_; (focus ((first | rfl | assumption | omega | (simp only [List.length_map, List.length_append, List.length_take, List.length_drop, List.length_cons, List.length_nil, List.length_replicate, List.length_set, List.length_reverse, nds_len, numsD_length]; omega) | simp); done)); conv => whnf) | ((conv => whnf); exact True.intro))
end Go.VL.PickFinds
