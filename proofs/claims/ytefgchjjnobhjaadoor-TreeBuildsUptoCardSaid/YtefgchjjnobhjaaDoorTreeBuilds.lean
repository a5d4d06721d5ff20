/- The law TreeBuilds answers true. -/
import Derived.Test.YtefgchjjnobhjaaDoorTreeS
import Derived.Test.YtefgchjjnobhjaaDoorBuildP
set_option linter.unusedVariables false
set_option linter.unusedSimpArgs false
namespace Go.VL.TreeBuilds
open Go Go.Proofs Go.VL Go.VL.BtBuild Go.VL.BuildP Go.VL.TreeR3 Go.VL.TreeS
set_option maxRecDepth 100000
attribute [local irreducible] CallWP WP Need Br Each NilB fit Both
theorem build_eq (ts : List TokT) : rbuild ts = pbuild ts := by
  unfold rbuild pbuild
  split
  · rfl
  · have h := run_eq ts [] []
    have e1 : esF [] = [] := rfl
    have e2 : opens [] = [] := rfl
    rw [e1, e2] at h
    rw [← h]
    generalize rrun [] [] ts = x
    obtain ⟨l, c⟩ := x
    simp only
    by_cases hc : c = 0
    · subst hc
      simp only [esF_len]
    · split <;> split <;> simp_all
theorem okT_build (ts : List TokT) (h : ∀ t ∈ ts, t.attrs.length < 2 ^ 40) : ∃ m, okT m (pbuild ts).1 := by
  unfold pbuild
  split
  · exact ⟨0, rfl⟩
  · obtain ⟨h1, h2⟩ := ok_run ts [] [] [] h (by simp) (fun e he => by cases he)
    generalize prun [] [] [] ts = x at h1 h2 ⊢
    obtain ⟨es, c⟩ := x
    split
    · rename_i heq
      simp at heq
      obtain ⟨rfl, rfl⟩ := heq
      simp only at h1 h2
      exact ⟨_, okT_nodes (by omega) h2 _ _⟩
    · exact ⟨0, rfl⟩
theorem law (l : List Token) (_ : ∀ x ∈ l, InR .i64 x.kind) (hs : szL [.sl (l.map Token.d)] ≤ 1048576) : CallWP Tryd.prog 3 [.d (.sl (l.map Token.d))] [] (fun r h => r = .d (.bool true)) := by
  have hsz : ∀ t ∈ l, t.attrs.length < 2 ^ 40 ∧ t.text.length < 2 ^ 40 := fun t ht => by
    obtain ⟨_, h2, h3⟩ := mem_token ht
    have h4 : t.attrs.length ≤ szLL (t.attrs.map Attr.d) := len_map_sz (fun x => by simp only [Attr.d, szL, szD]; omega) t.attrs
    simp only [szL, szD] at hs
    omega
  obtain ⟨m, hm⟩ := okT_build l (fun t ht => (hsz t ht).1)
  have hr := treeR l hsz
  rw [build_eq] at hr
  (refine CallWP.go tabOK Tryd.func3 0 25 rfl rfl rfl rfl ?_; conv => whnf)
  repeat' (first
    | (refine Br.tt ?_; conv => whnf)
    | (refine Br.ff ?_; conv => whnf)
    | (refine Both.mk ?_ ?_ <;> conv => whnf)
    | (refine Br.not ?_)
    | (refine Need.mk ?_ ?_; (focus ((first | omega | exact ⟨by omega, by omega⟩ | rfl | exact trivial | assumption | (simp only [List.length_map, List.length_append, List.length_take, List.length_drop, List.length_cons, List.length_nil, List.length_replicate, List.length_set, List.length_reverse, nds_len, numsD_length]; omega) | (simp only [List.length_map, List.length_append, List.length_take, List.length_drop, List.length_cons, List.length_nil, List.length_replicate, List.length_set, List.length_reverse, nds_len, numsD_length]; exact ⟨by omega, by omega⟩) | exact nds_each | (refine map_each ?_; intro x; rfl) | (refine first_map ?_; intro x; rfl) | exact first_nds | simp | (simp; omega)); done)); conv => whnf)
    | (refine Br.t (by assumption) ?_; conv => whnf)
    | (refine Br.f (by assumption) ?_; conv => whnf)
    | (refine Br.self ?_; conv => whnf)
    | (refine Br.decT (by assumption) ?_; conv => whnf)
    | (refine Br.decF (by assumption) ?_; conv => whnf)
    | (refine Br.eqT (by assumption) ?_; conv => whnf)
    | (refine Br.eqF (by assumption) ?_; conv => whnf)
    | (refine Br.dec (fun hc => ?_) (fun hc => ?_) <;> (try simp only [List.length_map, List.length_append, List.length_take, List.length_drop, List.length_cons, List.length_nil, List.length_replicate, List.length_set, List.length_reverse, nds_len, numsD_length] at hc) <;> first | (exfalso; omega) | exact absurd trivial hc | exact absurd rfl hc | conv => whnf)
    | (refine Br.eq (fun hc => ?_) (fun hc => ?_) <;> first | (exfalso; omega) | exact absurd trivial hc | exact absurd rfl hc | conv => whnf)
    | (refine Br.ne (fun hc => ?_) (fun hc => ?_) <;> first | (exfalso; omega) | exact absurd trivial hc | exact absurd rfl hc | conv => whnf)
    | (with_reducible refine Br.and ?_)
    | (with_reducible refine Br.or ?_)
    | (refine Br.any (fun hc => ?_) (fun hc => ?_) <;> conv => whnf)
    | (refine Fit.inl ?_ ?_; (focus ((first | omega | exact ⟨by omega, by omega⟩ | rfl | exact trivial | assumption | (simp only [List.length_map, List.length_append, List.length_take, List.length_drop, List.length_cons, List.length_nil, List.length_replicate, List.length_set, List.length_reverse, nds_len, numsD_length]; omega) | (simp only [List.length_map, List.length_append, List.length_take, List.length_drop, List.length_cons, List.length_nil, List.length_replicate, List.length_set, List.length_reverse, nds_len, numsD_length]; exact ⟨by omega, by omega⟩) | exact nds_each | (refine map_each ?_; intro x; rfl) | (refine first_map ?_; intro x; rfl) | exact first_nds | simp | (simp; omega)); done)); conv => whnf)
    | (refine Each.mapAt (by assumption) ?_; conv => whnf)
    | (refine Each.ndsAt (by assumption) ?_; conv => whnf)
    | (refine Each.at (by assumption) ?_; conv => whnf)
    | (refine Each.map (fun x hx => ?_); (try simp only [Int.toNat_natCast, Int.toNat_zero, Int.toNat_one, Int.toNat_natCast_add_one] at hx); conv => whnf)
    | (refine Each.nds (fun a b c ps hx => ?_); (try simp only [Int.toNat_natCast, Int.toNat_zero, Int.toNat_one, Int.toNat_natCast_add_one] at hx); conv => whnf)
    | (refine Each.rep ?_; conv => whnf)
    | (refine Each.drop ?_)
    | (refine Each.take (fun hi => ?_))
    | (refine Each.any (fun x hx => ?_); (try simp only [Int.toNat_natCast, Int.toNat_zero, Int.toNat_one, Int.toNat_natCast_add_one] at hx); conv => whnf)
    | (refine NilB.any (fun hn => ?_) ?_ <;> conv => whnf)
    | (refine CallWP.mono (buildC l hsz) ?_; rintro r h ⟨rfl, rfl⟩; conv => whnf)
    | (refine CallWP.mono (hr) ?_; rintro r h ⟨rfl, rfl⟩; conv => whnf)
    | (refine CallWP.mono (sameT m _ hm) ?_; rintro r h ⟨rfl, rfl⟩; conv => whnf)
    | (refine ⟨_, bytesOfD_nums _, ?_⟩; conv => whnf)
    | exact ⟨rfl, rfl⟩
    | (refine Fin.bool ?_ rfl)
    | (refine Fin.int ?_ rfl)
    | (refine Fin.str ?_ rfl)
    | (refine Fin.sl ?_ rfl)
    | exact trivial)
  simp
end Go.VL.TreeBuilds
