/- The law WalkInverts answers true. -/
import Derived.Test.YtpkgjkoijeapjaaWalkP
import Derived.Test.YtpkgjkoijeapjaaWalkR
import Derived.Test.YtpkgjkoijeapjaaSameChg
set_option linter.unusedVariables false
set_option linter.unusedSimpArgs false
namespace Go.VL.WalkInverts
open Go Go.Proofs Go.VL Go.VL.Nodes Go.VL.VWalk Go.VL.WalkP Go.VL.WalkR Go.VL.SameChg
set_option maxRecDepth 100000
attribute [local irreducible] CallWP WP Need Br Each NilB fit Both
theorem inv_eq' (l : List Nd) (cs : List Chg) : (playS l cs).2.1.reverse = playB l cs ∧ (playS l cs).2.2 = playE l cs := by
  unfold playS playB playE
  split
  · simp
  · rw [playA_eq]
    split <;> simp_all
theorem law (ns : List Nd) (cs : List Chg) (hs : szL [.sl (nds ns)] ≤ 1048576) (hc : szL [.sl (cs.map Chg.d)] ≤ 1048576) : CallWP Try.prog 5 [.d (.sl (nds ns)), .d (.sl (cs.map Chg.d))] [] (fun r h => r = .d (.bool true)) := by
  have hs' : szLL (nds ns) ≤ 1048576 := by simp only [szL, szD] at hs; omega
  have hc' : szLL (cs.map Chg.d) ≤ 1048576 := by simp only [szL, szD] at hc; omega
  obtain ⟨e1, e2⟩ := inv_eq' ns cs
  have hP := InvertC ns cs hs' hc'
  rw [e1, e2] at hP
  have hlen := len_chg cs
  have hk : ∀ b ∈ playB ns cs, attrsOk [b.node] ∧ b.path.length ≤ 67108864 := fun b hb => by
    unfold playB at hb
    split at hb
    · simp at hb
    · obtain ⟨h1, h2⟩ := backs_sz cs ns b (by simpa using hb)
      exact ⟨by unfold attrsOk; simp only [nds, szLL]; omega, by omega⟩
  have hkl : (playB ns cs).length ≤ 2 ^ 30 := by
    unfold playB
    split
    · simp
    · simp [backs_len]; omega
  (refine CallWP.go tabOK Try.func5 0 29 rfl rfl rfl rfl ?_; conv => whnf)
  repeat' (first
    | (refine Br.tt ?_; conv => whnf)
    | (refine Br.ff ?_; conv => whnf)
    | (refine Both.mk ?_ ?_ <;> conv => whnf)
    | (refine Br.not ?_)
    | (refine Need.mk ?_ ?_; (focus ((first | omega | exact ⟨by omega, by omega⟩ | rfl | exact trivial | assumption | (simp only [List.length_map, List.length_append, List.length_take, List.length_drop, List.length_cons, List.length_nil, List.length_replicate, List.length_set, List.length_reverse, nds_len, numsD_length]; omega) | (simp only [List.length_map, List.length_append, List.length_take, List.length_drop, List.length_cons, List.length_nil, List.length_replicate, List.length_set, List.length_reverse, nds_len, numsD_length]; exact ⟨by omega, by omega⟩) | exact nds_each | (refine map_each ?_; intro x; rfl) | (refine first_map ?_; intro x; rfl) | exact first_nds | simp | (simp; omega)); done)); conv => whnf)
    | (refine Br.t (by assumption) ?_; conv => whnf)
    | (refine Br.f (by assumption) ?_; conv => whnf)
    | (refine Br.self ?_; conv => whnf)
    | (refine Br.decT (by assumption) ?_; conv => whnf)
    | (refine Br.decF (by assumption) ?_; conv => whnf)
    | (refine Br.eqT (by assumption) ?_; conv => whnf)
    | (refine Br.eqF (by assumption) ?_; conv => whnf)
    | (refine Br.dec (fun hc => ?_) (fun hc => ?_) <;> (try simp only [List.length_map, List.length_append, List.length_take, List.length_drop, List.length_cons, List.length_nil, List.length_replicate, List.length_set, List.length_reverse, nds_len, numsD_length] at hc) <;> first | (exfalso; omega) | exact absurd trivial hc | exact absurd rfl hc | conv => whnf)
    | (refine Br.eq (fun hc => ?_) (fun hc => ?_) <;> first | (exfalso; omega) | exact absurd trivial hc | exact absurd rfl hc | conv => whnf)
    | (refine Br.ne (fun hc => ?_) (fun hc => ?_) <;> first | (exfalso; omega) | exact absurd trivial hc | exact absurd rfl hc | conv => whnf)
    | (with_reducible refine Br.and ?_)
    | (with_reducible refine Br.or ?_)
    | (refine Br.any (fun hc => ?_) (fun hc => ?_) <;> conv => whnf)
    | (refine Fit.inl ?_ ?_; (focus ((first | omega | exact ⟨by omega, by omega⟩ | rfl | exact trivial | assumption | (simp only [List.length_map, List.length_append, List.length_take, List.length_drop, List.length_cons, List.length_nil, List.length_replicate, List.length_set, List.length_reverse, nds_len, numsD_length]; omega) | (simp only [List.length_map, List.length_append, List.length_take, List.length_drop, List.length_cons, List.length_nil, List.length_replicate, List.length_set, List.length_reverse, nds_len, numsD_length]; exact ⟨by omega, by omega⟩) | exact nds_each | (refine map_each ?_; intro x; rfl) | (refine first_map ?_; intro x; rfl) | exact first_nds | simp | (simp; omega)); done)); conv => whnf)
    | (refine Each.mapAt (by assumption) ?_; conv => whnf)
    | (refine Each.ndsAt (by assumption) ?_; conv => whnf)
    | (refine Each.at (by assumption) ?_; conv => whnf)
    | (refine Each.map (fun x hx => ?_); (try simp only [Int.toNat_natCast, Int.toNat_zero, Int.toNat_one, Int.toNat_natCast_add_one] at hx); conv => whnf)
    | (refine Each.nds (fun a b c ps hx => ?_); (try simp only [Int.toNat_natCast, Int.toNat_zero, Int.toNat_one, Int.toNat_natCast_add_one] at hx); conv => whnf)
    | (refine Each.rep ?_; conv => whnf)
    | (refine Each.drop ?_)
    | (refine Each.take (fun hi => ?_))
    | (refine Each.any (fun x hx => ?_); (try simp only [Int.toNat_natCast, Int.toNat_zero, Int.toNat_one, Int.toNat_natCast_add_one] at hx); conv => whnf)
    | (refine NilB.any (fun hn => ?_) ?_ <;> conv => whnf)
    | (refine CallWP.mono (hP) ?_; rintro r h ⟨rfl, rfl⟩; conv => whnf)
    | (refine CallWP.mono (InvertR ns cs hs' hc') ?_; rintro r h ⟨rfl, rfl⟩; conv => whnf)
    | (refine CallWP.mono (sameChg _ hkl hk) ?_; rintro r h ⟨rfl, rfl⟩; conv => whnf)
    | (refine ⟨_, bytesOfD_nums _, ?_⟩; conv => whnf)
    | exact ⟨rfl, rfl⟩
    | (refine Fin.bool ?_ rfl)
    | (refine Fin.int ?_ rfl)
    | (refine Fin.str ?_ rfl)
    | (refine Fin.sl ?_ rfl)
    | exact trivial)
  simp
end Go.VL.WalkInverts
