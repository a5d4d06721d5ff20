/- marks.Flat and bobbinetref.MarksFlat answer alike. -/
import Derived.Test.YtdiflegjgikpeaaDoorMarksNorms
import Derived.Test.YtdiflegjgikpeaaDoorVFlat
set_option linter.unusedVariables false
set_option linter.unusedSimpArgs false
namespace Go.VL.MarksFlat
open Go Go.Proofs Go.VL Go.VL.MarksCheck Go.VL.MarksNorm Go.VL.MarksRef Go.VL.Strs
set_option maxRecDepth 100000
attribute [local irreducible] CallWP WP Need Br Each NilB fit Both chkM normA flL flN
theorem cloneS (l : List Str) (hl : l.length ≤ 67108864) : CallWP Tryd.prog 43 [.d (.sl (l.map iS))] [] (fun r h => r = .full 0 ∧ h = [(0, .row 9 (l.map iS))]) := by
  refine CallWP.own (e := 9) (Q := fun r h => (r = .nils ∧ h = [] ∧ l = []) ∨ (r = .full 0 ∧ h = [(0, .row 9 (l.map iS))])) ?_ ?_
  · (refine CallWP.go tabOK Tryd.func43 0 8 rfl rfl rfl rfl ?_; conv => whnf)
    repeat' (first
    | (refine Br.tt ?_; conv => whnf)
    | (refine Br.ff ?_; conv => whnf)
    | (refine Both.mk ?_ ?_ <;> conv => whnf)
    | (refine Br.not ?_)
    | (refine Need.mk ?_ ?_; (focus ((first | omega | exact ⟨by omega, by omega⟩ | rfl | exact trivial | assumption | (simp only [List.length_map, List.length_append, List.length_take, List.length_drop, List.length_cons, List.length_nil, List.length_replicate, List.length_set, List.length_reverse, nds_len, numsD_length]; omega) | (simp only [List.length_map, List.length_append, List.length_take, List.length_drop, List.length_cons, List.length_nil, List.length_replicate, List.length_set, List.length_reverse, nds_len, numsD_length]; exact ⟨by omega, by omega⟩) | exact nds_each | (refine map_each ?_; intro x; rfl) | (refine first_map ?_; intro x; rfl) | exact first_nds | simp | (simp; omega)); done)); conv => whnf)
    | (refine Br.t (by assumption) ?_; conv => whnf)
    | (refine Br.f (by assumption) ?_; conv => whnf)
    | (refine Br.self ?_; conv => whnf)
    | (refine Br.decT (by assumption) ?_; conv => whnf)
    | (refine Br.decF (by assumption) ?_; conv => whnf)
    | (refine Br.eqT (by assumption) ?_; conv => whnf)
    | (refine Br.eqF (by assumption) ?_; conv => whnf)
    | (refine Br.dec (fun hc => ?_) (fun hc => ?_) <;> (try simp only [List.length_map, List.length_append, List.length_take, List.length_drop, List.length_cons, List.length_nil, List.length_replicate, List.length_set, List.length_reverse, nds_len, numsD_length] at hc) <;> first | (exfalso; omega) | exact absurd trivial hc | exact absurd rfl hc | conv => whnf)
    | (refine Br.eq (fun hc => ?_) (fun hc => ?_) <;> first | (exfalso; omega) | exact absurd trivial hc | exact absurd rfl hc | conv => whnf)
    | (refine Br.ne (fun hc => ?_) (fun hc => ?_) <;> first | (exfalso; omega) | exact absurd trivial hc | exact absurd rfl hc | conv => whnf)
    | (with_reducible refine Br.and ?_)
    | (with_reducible refine Br.or ?_)
    | (refine Br.any (fun hc => ?_) (fun hc => ?_) <;> conv => whnf)
    | (refine Fit.inl ?_ ?_; (focus ((first | omega | exact ⟨by omega, by omega⟩ | rfl | exact trivial | assumption | (simp only [List.length_map, List.length_append, List.length_take, List.length_drop, List.length_cons, List.length_nil, List.length_replicate, List.length_set, List.length_reverse, nds_len, numsD_length]; omega) | (simp only [List.length_map, List.length_append, List.length_take, List.length_drop, List.length_cons, List.length_nil, List.length_replicate, List.length_set, List.length_reverse, nds_len, numsD_length]; exact ⟨by omega, by omega⟩) | exact nds_each | (refine map_each ?_; intro x; rfl) | (refine first_map ?_; intro x; rfl) | exact first_nds | simp | (simp; omega)); done)); conv => whnf)
    | (refine Each.mapAt (by assumption) ?_; conv => whnf)
    | (refine Each.ndsAt (by assumption) ?_; conv => whnf)
    | (refine Each.at (by assumption) ?_; conv => whnf)
    | (refine Each.map (fun x hx => ?_); (try simp only [Int.toNat_natCast, Int.toNat_zero, Int.toNat_one, Int.toNat_natCast_add_one] at hx); conv => whnf)
    | (refine Each.nds (fun a b c ps hx => ?_); (try simp only [Int.toNat_natCast, Int.toNat_zero, Int.toNat_one, Int.toNat_natCast_add_one] at hx); conv => whnf)
    | (refine Each.rep ?_; conv => whnf)
    | (refine Each.drop ?_)
    | (refine Each.take (fun hi => ?_))
    | (refine Each.any (fun x hx => ?_); (try simp only [Int.toNat_natCast, Int.toNat_zero, Int.toNat_one, Int.toNat_natCast_add_one] at hx); conv => whnf)
    | (refine NilB.any (fun hn => ?_) ?_ <;> conv => whnf)
    | (refine ⟨_, bytesOfD_nums _, ?_⟩; conv => whnf)
    | exact ⟨rfl, rfl⟩
    | (refine Fin.bool ?_ rfl)
    | (refine Fin.int ?_ rfl)
    | (refine Fin.str ?_ rfl)
    | (refine Fin.sl ?_ rfl)
    | exact trivial)
    · exact .inl ⟨rfl, rfl, by simpa using hn⟩
    · exact .inr ⟨rfl, rfl⟩
  · rintro r h (⟨rfl, rfl, rfl⟩ | ⟨rfl, rfl⟩)
    · exact .inl ⟨rfl, rfl, rfl, rfl⟩
    · exact .inr ⟨rfl, rfl⟩
set_option maxHeartbeats 4000000 in
theorem flatC (marks : List Str) (hmk : marks.length < 2 ^ 40) (m : Nat) : ∀ (l : List Nd) (w : List Str), szs l < m → w.length + szs l ≤ 2097152 → szLL (nds l) ≤ 1048576 → CallWP Tryd.prog 31 [(.d (.sl (marks.map iS))), (.d (.sl (nds l))), (.d (.sl (w.map iS)))] [] (fun r h => r = .tup [(.d (.sl ((flL marks w l).1.map Run.d))), (.d (.int .i64 ((flL marks w l).2)))] ∧ h = []) := by
  induction m with
  | zero => intro l w h; omega
  | succ m ih =>
  intro l w hm hw hK
  have hlen := len_nds l
  refine CallWP.val (Q := fun r h => (∃ o, r = .tup [.full 0, (.d (.int .i64 (0)))] ∧ h = [(0, .row 45 (o.map Run.d))] ∧ flL marks w l = (o, 0)) ∨ (∃ e, r = .tup [.nils, (.d (.int .i64 (e)))] ∧ h = [] ∧ flL marks w l = ([], e))) ?_ (by
    rintro r h (⟨o, rfl, rfl, e⟩ | ⟨e, rfl, rfl, e'⟩)
    · rw [e]; exact ⟨rfl, rfl⟩
    · rw [e']; exact ⟨rfl, rfl⟩)
  (refine CallWP.go tabOK Tryd.func31 0 74 rfl rfl rfl rfl ?_; conv => whnf)
  refine WP.loop (α := (Nat × List Run)) tabOK (fun ⟨i, o⟩ => i ≤ l.length ∧ o.length ≤ szs (l.take i) ∧ leftM marks w l i o) (fun ⟨i, o⟩ => ⟨[(0, (.d (.sl (marks.map iS)))), (2, (.d (.sl (w.map iS)))), (8, .full 0), (13, (.d (.sl (nds l)))), (14, (.d (.int .i64 ((nds l).length)))), (15, (.d (.int .i64 (i))))], [(0, .row 45 (o.map Run.d))], 1, 74⟩) (fun ⟨i, o⟩ => l.length - i) ((0, [])) ?_ ?_ ?_
  · exact ⟨Nat.zero_le _, by simp, leftM_start marks w l⟩
  · conv => whnf
    repeat (first | exact True.intro | (refine Need.mk ?_ ?_; (focus ((first | rfl | assumption | omega | (simp only [List.length_map, List.length_append, List.length_take, List.length_drop, List.length_cons, List.length_nil, List.length_replicate, List.length_set, List.length_reverse, nds_len, numsD_length]; omega) | simp); done)); conv => whnf) | ((conv => whnf); exact True.intro))
  rintro ⟨i, o⟩ ⟨hi, hol, hL⟩
  dsimp only at hi hol hL ⊢
  have hle := szs_take_le l i
  by_cases hlt : i < l.length
  case neg =>
    have hd := leftM_done hL (by omega)
    conv => whnf
    repeat' (first
    | (refine Br.tt ?_; conv => whnf)
    | (refine Br.ff ?_; conv => whnf)
    | (refine Both.mk ?_ ?_ <;> conv => whnf)
    | (refine Br.not ?_)
    | (refine Need.mk ?_ ?_; (focus ((first | omega | exact ⟨by omega, by omega⟩ | rfl | exact trivial | assumption | (simp only [List.length_map, List.length_append, List.length_take, List.length_drop, List.length_cons, List.length_nil, List.length_replicate, List.length_set, List.length_reverse, nds_len, numsD_length]; omega) | (simp only [List.length_map, List.length_append, List.length_take, List.length_drop, List.length_cons, List.length_nil, List.length_replicate, List.length_set, List.length_reverse, nds_len, numsD_length]; exact ⟨by omega, by omega⟩) | exact nds_each | (refine map_each ?_; intro x; rfl) | (refine first_map ?_; intro x; rfl) | exact first_nds | simp | (simp; omega)); done)); conv => whnf)
    | (refine Br.t (by assumption) ?_; conv => whnf)
    | (refine Br.f (by assumption) ?_; conv => whnf)
    | (refine Br.self ?_; conv => whnf)
    | (refine Br.decT (by assumption) ?_; conv => whnf)
    | (refine Br.decF (by assumption) ?_; conv => whnf)
    | (refine Br.eqT (by assumption) ?_; conv => whnf)
    | (refine Br.eqF (by assumption) ?_; conv => whnf)
    | (refine Br.dec (fun hc => ?_) (fun hc => ?_) <;> (try simp only [List.length_map, List.length_append, List.length_take, List.length_drop, List.length_cons, List.length_nil, List.length_replicate, List.length_set, List.length_reverse, nds_len, numsD_length] at hc) <;> first | (exfalso; omega) | exact absurd trivial hc | exact absurd rfl hc | conv => whnf)
    | (refine Br.eq (fun hc => ?_) (fun hc => ?_) <;> first | (exfalso; omega) | exact absurd trivial hc | exact absurd rfl hc | conv => whnf)
    | (refine Br.ne (fun hc => ?_) (fun hc => ?_) <;> first | (exfalso; omega) | exact absurd trivial hc | exact absurd rfl hc | conv => whnf)
    | (with_reducible refine Br.and ?_)
    | (with_reducible refine Br.or ?_)
    | (refine Br.any (fun hc => ?_) (fun hc => ?_) <;> conv => whnf)
    | (refine Fit.inl ?_ ?_; (focus ((first | omega | exact ⟨by omega, by omega⟩ | rfl | exact trivial | assumption | (simp only [List.length_map, List.length_append, List.length_take, List.length_drop, List.length_cons, List.length_nil, List.length_replicate, List.length_set, List.length_reverse, nds_len, numsD_length]; omega) | (simp only [List.length_map, List.length_append, List.length_take, List.length_drop, List.length_cons, List.length_nil, List.length_replicate, List.length_set, List.length_reverse, nds_len, numsD_length]; exact ⟨by omega, by omega⟩) | exact nds_each | (refine map_each ?_; intro x; rfl) | (refine first_map ?_; intro x; rfl) | exact first_nds | simp | (simp; omega)); done)); conv => whnf)
    | (refine Each.mapAt (by assumption) ?_; conv => whnf)
    | (refine Each.ndsAt (by assumption) ?_; conv => whnf)
    | (refine Each.at (by assumption) ?_; conv => whnf)
    | (refine Each.map (fun x hx => ?_); (try simp only [Int.toNat_natCast, Int.toNat_zero, Int.toNat_one, Int.toNat_natCast_add_one] at hx); conv => whnf)
    | (refine Each.nds (fun a b c ps hx => ?_); (try simp only [Int.toNat_natCast, Int.toNat_zero, Int.toNat_one, Int.toNat_natCast_add_one] at hx); conv => whnf)
    | (refine Each.rep ?_; conv => whnf)
    | (refine Each.drop ?_)
    | (refine Each.take (fun hi => ?_))
    | (refine Each.any (fun x hx => ?_); (try simp only [Int.toNat_natCast, Int.toNat_zero, Int.toNat_one, Int.toNat_natCast_add_one] at hx); conv => whnf)
    | (refine NilB.any (fun hn => ?_) ?_ <;> conv => whnf)
    | (refine ⟨_, bytesOfD_nums _, ?_⟩; conv => whnf)
    | (refine WP.sch (id := 13) tabOK hmix (.mob 0 (.mob 1 (.mob 3 (.mob 5 (.alt [(2, .alt [(4, .alt [(6, .alt [(7, .alt [(8, .alt [(9, .mob 10 (.mob 11 (.mob 12 (.mob 13 (.mob 14 (.done))))))])])])]), (6, .alt [(4, .alt [(7, .alt [(8, .alt [(9, .mob 10 (.mob 11 (.mob 12 (.mob 13 (.mob 14 (.done))))))])])]), (7, .alt [(4, .alt [(8, .alt [(9, .mob 10 (.mob 11 (.mob 12 (.mob 13 (.mob 14 (.done))))))])])])])]), (4, .alt [(2, .alt [(6, .alt [(7, .alt [(8, .alt [(9, .mob 10 (.mob 11 (.mob 12 (.mob 13 (.mob 14 (.done))))))])])])]), (6, .alt [(2, .alt [(7, .alt [(8, .alt [(9, .mob 10 (.mob 11 (.mob 12 (.mob 13 (.mob 14 (.done))))))])])]), (7, .alt [(2, .alt [(8, .alt [(9, .mob 10 (.mob 11 (.mob 12 (.mob 13 (.mob 14 (.done))))))])]), (8, .alt [(2, .alt [(9, .mob 10 (.mob 11 (.mob 12 (.mob 13 (.mob 14 (.done))))))])])])])]), (6, .alt [(2, .alt [(4, .alt [(7, .alt [(8, .alt [(9, .mob 10 (.mob 11 (.mob 12 (.mob 13 (.mob 14 (.done))))))])])]), (7, .alt [(4, .alt [(8, .alt [(9, .mob 10 (.mob 11 (.mob 12 (.mob 13 (.mob 14 (.done))))))])])])]), (4, .alt [(2, .alt [(7, .alt [(8, .alt [(9, .mob 10 (.mob 11 (.mob 12 (.mob 13 (.mob 14 (.done))))))])])]), (7, .alt [(2, .alt [(8, .alt [(9, .mob 10 (.mob 11 (.mob 12 (.mob 13 (.mob 14 (.done))))))])]), (8, .alt [(2, .alt [(9, .mob 10 (.mob 11 (.mob 12 (.mob 13 (.mob 14 (.done))))))])])])]), (7, .alt [(2, .alt [(4, .alt [(8, .alt [(9, .mob 10 (.mob 11 (.mob 12 (.mob 13 (.mob 14 (.done))))))])])]), (4, .alt [(2, .alt [(8, .alt [(9, .mob 10 (.mob 11 (.mob 12 (.mob 13 (.mob 14 (.done))))))])]), (8, .alt [(2, .alt [(9, .mob 10 (.mob 11 (.mob 12 (.mob 13 (.mob 14 (.done))))))])])])])])]))))) (by kernel_rfl) ?_; conv => whnf)
    | exact ⟨rfl, rfl⟩
    | (refine Fin.bool ?_ rfl)
    | (refine Fin.int ?_ rfl)
    | (refine Fin.str ?_ rfl)
    | (refine Fin.sl ?_ rfl)
    | exact trivial)
    exact .inl ⟨o, rfl, rfl, hd⟩
  obtain ⟨⟨a, b, c, ps⟩, hn⟩ : ∃ x, l[i]? = some x := ⟨l[i], by simp [hlt]⟩
  obtain ⟨m1, m2, m3, m4⟩ := nds_part hn
  have hla := len_attr b
  have hlp := len_nds ps
  have h1 := szs_mem hn
  have h2 := szs_take hn
  simp only [Nd.sz] at h1 h2
  obtain ⟨k1, k2, k3⟩ := flL_len marks ps (w ++ [a])
  by_cases hodd : oddN a b c ps
  · have hst := leftM_stop hL hn (congrArg (·.2) (flN_odd (w := w) hodd)) (by decide)
    unfold oddN at hodd
    conv => whnf
    repeat' (first
    | (refine Br.tt ?_; conv => whnf)
    | (refine Br.ff ?_; conv => whnf)
    | (refine Both.mk ?_ ?_ <;> conv => whnf)
    | (refine Br.not ?_)
    | (refine Need.mk ?_ ?_; (focus ((first | omega | exact ⟨by omega, by omega⟩ | rfl | exact trivial | assumption | (simp only [List.length_map, List.length_append, List.length_take, List.length_drop, List.length_cons, List.length_nil, List.length_replicate, List.length_set, List.length_reverse, nds_len, numsD_length]; omega) | (simp only [List.length_map, List.length_append, List.length_take, List.length_drop, List.length_cons, List.length_nil, List.length_replicate, List.length_set, List.length_reverse, nds_len, numsD_length]; exact ⟨by omega, by omega⟩) | exact nds_each | (refine map_each ?_; intro x; rfl) | (refine first_map ?_; intro x; rfl) | exact first_nds | simp | (simp; omega)); done)); conv => whnf)
    | (refine Br.t (by assumption) ?_; conv => whnf)
    | (refine Br.f (by assumption) ?_; conv => whnf)
    | (refine Br.self ?_; conv => whnf)
    | (refine Br.decT (by assumption) ?_; conv => whnf)
    | (refine Br.decF (by assumption) ?_; conv => whnf)
    | (refine Br.eqT (by assumption) ?_; conv => whnf)
    | (refine Br.eqF (by assumption) ?_; conv => whnf)
    | (refine Br.dec (fun hc => ?_) (fun hc => ?_) <;> (try simp only [List.length_map, List.length_append, List.length_take, List.length_drop, List.length_cons, List.length_nil, List.length_replicate, List.length_set, List.length_reverse, nds_len, numsD_length] at hc) <;> first | (exfalso; omega) | exact absurd trivial hc | exact absurd rfl hc | conv => whnf)
    | (refine Br.eq (fun hc => ?_) (fun hc => ?_) <;> first | (exfalso; omega) | exact absurd trivial hc | exact absurd rfl hc | conv => whnf)
    | (refine Br.ne (fun hc => ?_) (fun hc => ?_) <;> first | (exfalso; omega) | exact absurd trivial hc | exact absurd rfl hc | conv => whnf)
    | (with_reducible refine Br.and ?_)
    | (with_reducible refine Br.or ?_)
    | (refine Br.any (fun hc => ?_) (fun hc => ?_) <;> conv => whnf)
    | (refine Fit.inl ?_ ?_; (focus ((first | omega | exact ⟨by omega, by omega⟩ | rfl | exact trivial | assumption | (simp only [List.length_map, List.length_append, List.length_take, List.length_drop, List.length_cons, List.length_nil, List.length_replicate, List.length_set, List.length_reverse, nds_len, numsD_length]; omega) | (simp only [List.length_map, List.length_append, List.length_take, List.length_drop, List.length_cons, List.length_nil, List.length_replicate, List.length_set, List.length_reverse, nds_len, numsD_length]; exact ⟨by omega, by omega⟩) | exact nds_each | (refine map_each ?_; intro x; rfl) | (refine first_map ?_; intro x; rfl) | exact first_nds | simp | (simp; omega)); done)); conv => whnf)
    | (refine Each.mapAt (by assumption) ?_; conv => whnf)
    | (refine Each.ndsAt (by assumption) ?_; conv => whnf)
    | (refine Each.at (by assumption) ?_; conv => whnf)
    | (refine Each.map (fun x hx => ?_); (try simp only [Int.toNat_natCast, Int.toNat_zero, Int.toNat_one, Int.toNat_natCast_add_one] at hx); conv => whnf)
    | (refine Each.nds (fun a b c ps hx => ?_); (try simp only [Int.toNat_natCast, Int.toNat_zero, Int.toNat_one, Int.toNat_natCast_add_one] at hx); conv => whnf)
    | (refine Each.rep ?_; conv => whnf)
    | (refine Each.drop ?_)
    | (refine Each.take (fun hi => ?_))
    | (refine Each.any (fun x hx => ?_); (try simp only [Int.toNat_natCast, Int.toNat_zero, Int.toNat_one, Int.toNat_natCast_add_one] at hx); conv => whnf)
    | (refine NilB.any (fun hn => ?_) ?_ <;> conv => whnf)
    | (refine ⟨_, bytesOfD_nums _, ?_⟩; conv => whnf)
    | (refine WP.sch (id := 13) tabOK hmix (.mob 0 (.mob 1 (.mob 3 (.mob 5 (.alt [(2, .alt [(4, .alt [(6, .alt [(7, .alt [(8, .alt [(9, .mob 10 (.mob 11 (.mob 12 (.mob 13 (.mob 14 (.done))))))])])])]), (6, .alt [(4, .alt [(7, .alt [(8, .alt [(9, .mob 10 (.mob 11 (.mob 12 (.mob 13 (.mob 14 (.done))))))])])]), (7, .alt [(4, .alt [(8, .alt [(9, .mob 10 (.mob 11 (.mob 12 (.mob 13 (.mob 14 (.done))))))])])])])]), (4, .alt [(2, .alt [(6, .alt [(7, .alt [(8, .alt [(9, .mob 10 (.mob 11 (.mob 12 (.mob 13 (.mob 14 (.done))))))])])])]), (6, .alt [(2, .alt [(7, .alt [(8, .alt [(9, .mob 10 (.mob 11 (.mob 12 (.mob 13 (.mob 14 (.done))))))])])]), (7, .alt [(2, .alt [(8, .alt [(9, .mob 10 (.mob 11 (.mob 12 (.mob 13 (.mob 14 (.done))))))])]), (8, .alt [(2, .alt [(9, .mob 10 (.mob 11 (.mob 12 (.mob 13 (.mob 14 (.done))))))])])])])]), (6, .alt [(2, .alt [(4, .alt [(7, .alt [(8, .alt [(9, .mob 10 (.mob 11 (.mob 12 (.mob 13 (.mob 14 (.done))))))])])]), (7, .alt [(4, .alt [(8, .alt [(9, .mob 10 (.mob 11 (.mob 12 (.mob 13 (.mob 14 (.done))))))])])])]), (4, .alt [(2, .alt [(7, .alt [(8, .alt [(9, .mob 10 (.mob 11 (.mob 12 (.mob 13 (.mob 14 (.done))))))])])]), (7, .alt [(2, .alt [(8, .alt [(9, .mob 10 (.mob 11 (.mob 12 (.mob 13 (.mob 14 (.done))))))])]), (8, .alt [(2, .alt [(9, .mob 10 (.mob 11 (.mob 12 (.mob 13 (.mob 14 (.done))))))])])])]), (7, .alt [(2, .alt [(4, .alt [(8, .alt [(9, .mob 10 (.mob 11 (.mob 12 (.mob 13 (.mob 14 (.done))))))])])]), (4, .alt [(2, .alt [(8, .alt [(9, .mob 10 (.mob 11 (.mob 12 (.mob 13 (.mob 14 (.done))))))])]), (8, .alt [(2, .alt [(9, .mob 10 (.mob 11 (.mob 12 (.mob 13 (.mob 14 (.done))))))])])])])])]))))) (by kernel_rfl) ?_; conv => whnf)
    | exact ⟨rfl, rfl⟩
    | (refine Fin.bool ?_ rfl)
    | (refine Fin.int ?_ rfl)
    | (refine Fin.str ?_ rfl)
    | (refine Fin.sl ?_ rfl)
    | exact trivial)
    all_goals first
      | exact .inr ⟨_, rfl, rfl, hst⟩
      | (exfalso; rcases hodd with h | ⟨h, h'⟩ | ⟨h, h'⟩ <;> first | omega | exact h (by assumption) | exact h' (by assumption) | exact absurd h (by assumption))
  by_cases ha : a = []
  · subst ha
    have hnx := leftM_next hL hn (flN_text hodd)
    unfold oddN at hodd
    conv => whnf
    repeat' (first
    | (refine Br.tt ?_; conv => whnf)
    | (refine Br.ff ?_; conv => whnf)
    | (refine Both.mk ?_ ?_ <;> conv => whnf)
    | (refine Br.not ?_)
    | (refine Need.mk ?_ ?_; (focus ((first | omega | exact ⟨by omega, by omega⟩ | rfl | exact trivial | assumption | (simp only [List.length_map, List.length_append, List.length_take, List.length_drop, List.length_cons, List.length_nil, List.length_replicate, List.length_set, List.length_reverse, nds_len, numsD_length]; omega) | (simp only [List.length_map, List.length_append, List.length_take, List.length_drop, List.length_cons, List.length_nil, List.length_replicate, List.length_set, List.length_reverse, nds_len, numsD_length]; exact ⟨by omega, by omega⟩) | exact nds_each | (refine map_each ?_; intro x; rfl) | (refine first_map ?_; intro x; rfl) | exact first_nds | simp | (simp; omega)); done)); conv => whnf)
    | (refine Br.t (by assumption) ?_; conv => whnf)
    | (refine Br.f (by assumption) ?_; conv => whnf)
    | (refine Br.self ?_; conv => whnf)
    | (refine Br.decT (by assumption) ?_; conv => whnf)
    | (refine Br.decF (by assumption) ?_; conv => whnf)
    | (refine Br.eqT (by assumption) ?_; conv => whnf)
    | (refine Br.eqF (by assumption) ?_; conv => whnf)
    | (refine Br.dec (fun hc => ?_) (fun hc => ?_) <;> (try simp only [List.length_map, List.length_append, List.length_take, List.length_drop, List.length_cons, List.length_nil, List.length_replicate, List.length_set, List.length_reverse, nds_len, numsD_length] at hc) <;> first | (exfalso; omega) | exact absurd trivial hc | exact absurd rfl hc | conv => whnf)
    | (refine Br.eq (fun hc => ?_) (fun hc => ?_) <;> first | (exfalso; omega) | exact absurd trivial hc | exact absurd rfl hc | conv => whnf)
    | (refine Br.ne (fun hc => ?_) (fun hc => ?_) <;> first | (exfalso; omega) | exact absurd trivial hc | exact absurd rfl hc | conv => whnf)
    | (with_reducible refine Br.and ?_)
    | (with_reducible refine Br.or ?_)
    | (refine Br.any (fun hc => ?_) (fun hc => ?_) <;> conv => whnf)
    | (refine Fit.inl ?_ ?_; (focus ((first | omega | exact ⟨by omega, by omega⟩ | rfl | exact trivial | assumption | (simp only [List.length_map, List.length_append, List.length_take, List.length_drop, List.length_cons, List.length_nil, List.length_replicate, List.length_set, List.length_reverse, nds_len, numsD_length]; omega) | (simp only [List.length_map, List.length_append, List.length_take, List.length_drop, List.length_cons, List.length_nil, List.length_replicate, List.length_set, List.length_reverse, nds_len, numsD_length]; exact ⟨by omega, by omega⟩) | exact nds_each | (refine map_each ?_; intro x; rfl) | (refine first_map ?_; intro x; rfl) | exact first_nds | simp | (simp; omega)); done)); conv => whnf)
    | (refine Each.mapAt (by assumption) ?_; conv => whnf)
    | (refine Each.ndsAt (by assumption) ?_; conv => whnf)
    | (refine Each.at (by assumption) ?_; conv => whnf)
    | (refine Each.map (fun x hx => ?_); (try simp only [Int.toNat_natCast, Int.toNat_zero, Int.toNat_one, Int.toNat_natCast_add_one] at hx); conv => whnf)
    | (refine Each.nds (fun a b c ps hx => ?_); (try simp only [Int.toNat_natCast, Int.toNat_zero, Int.toNat_one, Int.toNat_natCast_add_one] at hx); conv => whnf)
    | (refine Each.rep ?_; conv => whnf)
    | (refine Each.drop ?_)
    | (refine Each.take (fun hi => ?_))
    | (refine Each.any (fun x hx => ?_); (try simp only [Int.toNat_natCast, Int.toNat_zero, Int.toNat_one, Int.toNat_natCast_add_one] at hx); conv => whnf)
    | (refine NilB.any (fun hn => ?_) ?_ <;> conv => whnf)
    | (refine ⟨_, bytesOfD_nums _, ?_⟩; conv => whnf)
    | (refine WP.sch (id := 13) tabOK hmix (.mob 0 (.mob 1 (.mob 3 (.mob 5 (.alt [(2, .alt [(4, .alt [(6, .alt [(7, .alt [(8, .alt [(9, .mob 10 (.mob 11 (.mob 12 (.mob 13 (.mob 14 (.done))))))])])])]), (6, .alt [(4, .alt [(7, .alt [(8, .alt [(9, .mob 10 (.mob 11 (.mob 12 (.mob 13 (.mob 14 (.done))))))])])]), (7, .alt [(4, .alt [(8, .alt [(9, .mob 10 (.mob 11 (.mob 12 (.mob 13 (.mob 14 (.done))))))])])])])]), (4, .alt [(2, .alt [(6, .alt [(7, .alt [(8, .alt [(9, .mob 10 (.mob 11 (.mob 12 (.mob 13 (.mob 14 (.done))))))])])])]), (6, .alt [(2, .alt [(7, .alt [(8, .alt [(9, .mob 10 (.mob 11 (.mob 12 (.mob 13 (.mob 14 (.done))))))])])]), (7, .alt [(2, .alt [(8, .alt [(9, .mob 10 (.mob 11 (.mob 12 (.mob 13 (.mob 14 (.done))))))])]), (8, .alt [(2, .alt [(9, .mob 10 (.mob 11 (.mob 12 (.mob 13 (.mob 14 (.done))))))])])])])]), (6, .alt [(2, .alt [(4, .alt [(7, .alt [(8, .alt [(9, .mob 10 (.mob 11 (.mob 12 (.mob 13 (.mob 14 (.done))))))])])]), (7, .alt [(4, .alt [(8, .alt [(9, .mob 10 (.mob 11 (.mob 12 (.mob 13 (.mob 14 (.done))))))])])])]), (4, .alt [(2, .alt [(7, .alt [(8, .alt [(9, .mob 10 (.mob 11 (.mob 12 (.mob 13 (.mob 14 (.done))))))])])]), (7, .alt [(2, .alt [(8, .alt [(9, .mob 10 (.mob 11 (.mob 12 (.mob 13 (.mob 14 (.done))))))])]), (8, .alt [(2, .alt [(9, .mob 10 (.mob 11 (.mob 12 (.mob 13 (.mob 14 (.done))))))])])])]), (7, .alt [(2, .alt [(4, .alt [(8, .alt [(9, .mob 10 (.mob 11 (.mob 12 (.mob 13 (.mob 14 (.done))))))])])]), (4, .alt [(2, .alt [(8, .alt [(9, .mob 10 (.mob 11 (.mob 12 (.mob 13 (.mob 14 (.done))))))])]), (8, .alt [(2, .alt [(9, .mob 10 (.mob 11 (.mob 12 (.mob 13 (.mob 14 (.done))))))])])])])])]))))) (by kernel_rfl) ?_; conv => whnf)
    | exact ⟨rfl, rfl⟩
    | (refine Fin.bool ?_ rfl)
    | (refine Fin.int ?_ rfl)
    | (refine Fin.str ?_ rfl)
    | (refine Fin.sl ?_ rfl)
    | exact trivial)
    · exact absurd (.inr (.inl ⟨rfl, by omega⟩)) hodd
    · have hnl : (o ++ [(⟨c, w⟩ : Run)]).length ≤ szs (l.take (i + 1)) := by simp only [List.length_append, List.length_cons, List.length_nil]; omega
      refine ⟨(i + 1, o ++ [⟨c, w⟩]), ⟨by dsimp only; omega, hnl, hnx⟩, by dsimp only; omega, ?_⟩
      conv => whnf
      repeat (first | exact True.intro | (refine Need.mk ?_ ?_; (focus ((first | rfl | assumption | omega | (simp only [List.length_map, List.length_append, List.length_take, List.length_drop, List.length_cons, List.length_nil, List.length_replicate, List.length_set, List.length_reverse, nds_len, numsD_length]; omega) | simp [Run.d]); done)); conv => whnf) | ((conv => whnf); exact True.intro))
  cases hany : marks.any (a == ·) with
  | false =>
    have hst := leftM_stop hL hn (congrArg (·.2) (flN_none (w := w) hodd ha hany)) (by decide)
    unfold oddN at hodd
    conv => whnf
    repeat' (first
    | (refine Br.tt ?_; conv => whnf)
    | (refine Br.ff ?_; conv => whnf)
    | (refine Both.mk ?_ ?_ <;> conv => whnf)
    | (refine Br.not ?_)
    | (refine Need.mk ?_ ?_; (focus ((first | omega | exact ⟨by omega, by omega⟩ | rfl | exact trivial | assumption | (simp only [List.length_map, List.length_append, List.length_take, List.length_drop, List.length_cons, List.length_nil, List.length_replicate, List.length_set, List.length_reverse, nds_len, numsD_length]; omega) | (simp only [List.length_map, List.length_append, List.length_take, List.length_drop, List.length_cons, List.length_nil, List.length_replicate, List.length_set, List.length_reverse, nds_len, numsD_length]; exact ⟨by omega, by omega⟩) | exact nds_each | (refine map_each ?_; intro x; rfl) | (refine first_map ?_; intro x; rfl) | exact first_nds | simp | (simp; omega)); done)); conv => whnf)
    | (refine Br.t (by assumption) ?_; conv => whnf)
    | (refine Br.f (by assumption) ?_; conv => whnf)
    | (refine Br.self ?_; conv => whnf)
    | (refine Br.decT (by assumption) ?_; conv => whnf)
    | (refine Br.decF (by assumption) ?_; conv => whnf)
    | (refine Br.eqT (by assumption) ?_; conv => whnf)
    | (refine Br.eqF (by assumption) ?_; conv => whnf)
    | (refine Br.dec (fun hc => ?_) (fun hc => ?_) <;> (try simp only [List.length_map, List.length_append, List.length_take, List.length_drop, List.length_cons, List.length_nil, List.length_replicate, List.length_set, List.length_reverse, nds_len, numsD_length] at hc) <;> first | (exfalso; omega) | exact absurd trivial hc | exact absurd rfl hc | conv => whnf)
    | (refine Br.eq (fun hc => ?_) (fun hc => ?_) <;> first | (exfalso; omega) | exact absurd trivial hc | exact absurd rfl hc | conv => whnf)
    | (refine Br.ne (fun hc => ?_) (fun hc => ?_) <;> first | (exfalso; omega) | exact absurd trivial hc | exact absurd rfl hc | conv => whnf)
    | (with_reducible refine Br.and ?_)
    | (with_reducible refine Br.or ?_)
    | (refine Br.any (fun hc => ?_) (fun hc => ?_) <;> conv => whnf)
    | (refine Fit.inl ?_ ?_; (focus ((first | omega | exact ⟨by omega, by omega⟩ | rfl | exact trivial | assumption | (simp only [List.length_map, List.length_append, List.length_take, List.length_drop, List.length_cons, List.length_nil, List.length_replicate, List.length_set, List.length_reverse, nds_len, numsD_length]; omega) | (simp only [List.length_map, List.length_append, List.length_take, List.length_drop, List.length_cons, List.length_nil, List.length_replicate, List.length_set, List.length_reverse, nds_len, numsD_length]; exact ⟨by omega, by omega⟩) | exact nds_each | (refine map_each ?_; intro x; rfl) | (refine first_map ?_; intro x; rfl) | exact first_nds | simp | (simp; omega)); done)); conv => whnf)
    | (refine Each.mapAt (by assumption) ?_; conv => whnf)
    | (refine Each.ndsAt (by assumption) ?_; conv => whnf)
    | (refine Each.at (by assumption) ?_; conv => whnf)
    | (refine Each.map (fun x hx => ?_); (try simp only [Int.toNat_natCast, Int.toNat_zero, Int.toNat_one, Int.toNat_natCast_add_one] at hx); conv => whnf)
    | (refine Each.nds (fun a b c ps hx => ?_); (try simp only [Int.toNat_natCast, Int.toNat_zero, Int.toNat_one, Int.toNat_natCast_add_one] at hx); conv => whnf)
    | (refine Each.rep ?_; conv => whnf)
    | (refine Each.drop ?_)
    | (refine Each.take (fun hi => ?_))
    | (refine Each.any (fun x hx => ?_); (try simp only [Int.toNat_natCast, Int.toNat_zero, Int.toNat_one, Int.toNat_natCast_add_one] at hx); conv => whnf)
    | (refine NilB.any (fun hn => ?_) ?_ <;> conv => whnf)
    | (refine CallWP.mono (contains_ marks _ (by omega)) ?_; rintro r h ⟨rfl, rfl⟩; conv => whnf)
    | (refine ⟨_, bytesOfD_nums _, ?_⟩; conv => whnf)
    | (refine WP.sch (id := 13) tabOK hmix (.mob 0 (.mob 1 (.mob 3 (.mob 5 (.alt [(2, .alt [(4, .alt [(6, .alt [(7, .alt [(8, .alt [(9, .mob 10 (.mob 11 (.mob 12 (.mob 13 (.mob 14 (.done))))))])])])]), (6, .alt [(4, .alt [(7, .alt [(8, .alt [(9, .mob 10 (.mob 11 (.mob 12 (.mob 13 (.mob 14 (.done))))))])])]), (7, .alt [(4, .alt [(8, .alt [(9, .mob 10 (.mob 11 (.mob 12 (.mob 13 (.mob 14 (.done))))))])])])])]), (4, .alt [(2, .alt [(6, .alt [(7, .alt [(8, .alt [(9, .mob 10 (.mob 11 (.mob 12 (.mob 13 (.mob 14 (.done))))))])])])]), (6, .alt [(2, .alt [(7, .alt [(8, .alt [(9, .mob 10 (.mob 11 (.mob 12 (.mob 13 (.mob 14 (.done))))))])])]), (7, .alt [(2, .alt [(8, .alt [(9, .mob 10 (.mob 11 (.mob 12 (.mob 13 (.mob 14 (.done))))))])]), (8, .alt [(2, .alt [(9, .mob 10 (.mob 11 (.mob 12 (.mob 13 (.mob 14 (.done))))))])])])])]), (6, .alt [(2, .alt [(4, .alt [(7, .alt [(8, .alt [(9, .mob 10 (.mob 11 (.mob 12 (.mob 13 (.mob 14 (.done))))))])])]), (7, .alt [(4, .alt [(8, .alt [(9, .mob 10 (.mob 11 (.mob 12 (.mob 13 (.mob 14 (.done))))))])])])]), (4, .alt [(2, .alt [(7, .alt [(8, .alt [(9, .mob 10 (.mob 11 (.mob 12 (.mob 13 (.mob 14 (.done))))))])])]), (7, .alt [(2, .alt [(8, .alt [(9, .mob 10 (.mob 11 (.mob 12 (.mob 13 (.mob 14 (.done))))))])]), (8, .alt [(2, .alt [(9, .mob 10 (.mob 11 (.mob 12 (.mob 13 (.mob 14 (.done))))))])])])]), (7, .alt [(2, .alt [(4, .alt [(8, .alt [(9, .mob 10 (.mob 11 (.mob 12 (.mob 13 (.mob 14 (.done))))))])])]), (4, .alt [(2, .alt [(8, .alt [(9, .mob 10 (.mob 11 (.mob 12 (.mob 13 (.mob 14 (.done))))))])]), (8, .alt [(2, .alt [(9, .mob 10 (.mob 11 (.mob 12 (.mob 13 (.mob 14 (.done))))))])])])])])]))))) (by kernel_rfl) ?_; conv => whnf)
    | exact ⟨rfl, rfl⟩
    | (refine Fin.bool ?_ rfl)
    | (refine Fin.int ?_ rfl)
    | (refine Fin.str ?_ rfl)
    | (refine Fin.sl ?_ rfl)
    | exact trivial)
    · exact .inr ⟨_, rfl, rfl, hst⟩
    · exact absurd (.inr (.inr ⟨ha, by assumption⟩)) hodd
  | true =>
    have hfe := flN_elem (w := w) hodd ha hany
    unfold oddN at hodd
    have hrec := ih ps (w ++ [a]) (by omega) (by simp only [List.length_append, List.length_cons, List.length_nil]; omega) (by omega)
    rw [List.map_append] at hrec
    generalize flL marks (w ++ [a]) ps = p at *
    obtain ⟨x, e⟩ := p
    dsimp only at hrec k1 k2 k3
    conv => whnf
    repeat' (first
    | (refine Br.tt ?_; conv => whnf)
    | (refine Br.ff ?_; conv => whnf)
    | (refine Both.mk ?_ ?_ <;> conv => whnf)
    | (refine Br.not ?_)
    | (refine Need.mk ?_ ?_; (focus ((first | omega | exact ⟨by omega, by omega⟩ | rfl | exact trivial | assumption | (simp only [List.length_map, List.length_append, List.length_take, List.length_drop, List.length_cons, List.length_nil, List.length_replicate, List.length_set, List.length_reverse, nds_len, numsD_length]; omega) | (simp only [List.length_map, List.length_append, List.length_take, List.length_drop, List.length_cons, List.length_nil, List.length_replicate, List.length_set, List.length_reverse, nds_len, numsD_length]; exact ⟨by omega, by omega⟩) | exact nds_each | (refine map_each ?_; intro x; rfl) | (refine first_map ?_; intro x; rfl) | exact first_nds | simp | (simp; omega)); done)); conv => whnf)
    | (refine Br.t (by assumption) ?_; conv => whnf)
    | (refine Br.f (by assumption) ?_; conv => whnf)
    | (refine Br.self ?_; conv => whnf)
    | (refine Br.decT (by assumption) ?_; conv => whnf)
    | (refine Br.decF (by assumption) ?_; conv => whnf)
    | (refine Br.eqT (by assumption) ?_; conv => whnf)
    | (refine Br.eqF (by assumption) ?_; conv => whnf)
    | (refine Br.dec (fun hc => ?_) (fun hc => ?_) <;> (try simp only [List.length_map, List.length_append, List.length_take, List.length_drop, List.length_cons, List.length_nil, List.length_replicate, List.length_set, List.length_reverse, nds_len, numsD_length] at hc) <;> first | (exfalso; omega) | exact absurd trivial hc | exact absurd rfl hc | conv => whnf)
    | (refine Br.eq (fun hc => ?_) (fun hc => ?_) <;> first | (exfalso; omega) | exact absurd trivial hc | exact absurd rfl hc | conv => whnf)
    | (refine Br.ne (fun hc => ?_) (fun hc => ?_) <;> first | (exfalso; omega) | exact absurd trivial hc | exact absurd rfl hc | conv => whnf)
    | (with_reducible refine Br.and ?_)
    | (with_reducible refine Br.or ?_)
    | (refine Br.any (fun hc => ?_) (fun hc => ?_) <;> conv => whnf)
    | (refine Fit.inl ?_ ?_; (focus ((first | omega | exact ⟨by omega, by omega⟩ | rfl | exact trivial | assumption | (simp only [List.length_map, List.length_append, List.length_take, List.length_drop, List.length_cons, List.length_nil, List.length_replicate, List.length_set, List.length_reverse, nds_len, numsD_length]; omega) | (simp only [List.length_map, List.length_append, List.length_take, List.length_drop, List.length_cons, List.length_nil, List.length_replicate, List.length_set, List.length_reverse, nds_len, numsD_length]; exact ⟨by omega, by omega⟩) | exact nds_each | (refine map_each ?_; intro x; rfl) | (refine first_map ?_; intro x; rfl) | exact first_nds | simp | (simp; omega)); done)); conv => whnf)
    | (refine Each.mapAt (by assumption) ?_; conv => whnf)
    | (refine Each.ndsAt (by assumption) ?_; conv => whnf)
    | (refine Each.at (by assumption) ?_; conv => whnf)
    | (refine Each.map (fun x hx => ?_); (try simp only [Int.toNat_natCast, Int.toNat_zero, Int.toNat_one, Int.toNat_natCast_add_one] at hx); conv => whnf)
    | (refine Each.nds (fun a b c ps hx => ?_); (try simp only [Int.toNat_natCast, Int.toNat_zero, Int.toNat_one, Int.toNat_natCast_add_one] at hx); conv => whnf)
    | (refine Each.rep ?_; conv => whnf)
    | (refine Each.drop ?_)
    | (refine Each.take (fun hi => ?_))
    | (refine Each.any (fun x hx => ?_); (try simp only [Int.toNat_natCast, Int.toNat_zero, Int.toNat_one, Int.toNat_natCast_add_one] at hx); conv => whnf)
    | (refine NilB.any (fun hn => ?_) ?_ <;> conv => whnf)
    | (refine CallWP.mono (contains_ marks _ (by omega)) ?_; rintro r h ⟨rfl, rfl⟩; conv => whnf)
    | (refine CallWP.mono (cloneS w (by omega)) ?_; rintro r h ⟨rfl, rfl⟩; conv => whnf)
    | (refine CallWP.mono (hrec) ?_; rintro r h ⟨rfl, rfl⟩; conv => whnf)
    | (refine ⟨_, bytesOfD_nums _, ?_⟩; conv => whnf)
    | (refine WP.sch (id := 13) tabOK hmix (.mob 0 (.mob 1 (.mob 3 (.mob 5 (.alt [(2, .alt [(4, .alt [(6, .alt [(7, .alt [(8, .alt [(9, .mob 10 (.mob 11 (.mob 12 (.mob 13 (.mob 14 (.done))))))])])])]), (6, .alt [(4, .alt [(7, .alt [(8, .alt [(9, .mob 10 (.mob 11 (.mob 12 (.mob 13 (.mob 14 (.done))))))])])]), (7, .alt [(4, .alt [(8, .alt [(9, .mob 10 (.mob 11 (.mob 12 (.mob 13 (.mob 14 (.done))))))])])])])]), (4, .alt [(2, .alt [(6, .alt [(7, .alt [(8, .alt [(9, .mob 10 (.mob 11 (.mob 12 (.mob 13 (.mob 14 (.done))))))])])])]), (6, .alt [(2, .alt [(7, .alt [(8, .alt [(9, .mob 10 (.mob 11 (.mob 12 (.mob 13 (.mob 14 (.done))))))])])]), (7, .alt [(2, .alt [(8, .alt [(9, .mob 10 (.mob 11 (.mob 12 (.mob 13 (.mob 14 (.done))))))])]), (8, .alt [(2, .alt [(9, .mob 10 (.mob 11 (.mob 12 (.mob 13 (.mob 14 (.done))))))])])])])]), (6, .alt [(2, .alt [(4, .alt [(7, .alt [(8, .alt [(9, .mob 10 (.mob 11 (.mob 12 (.mob 13 (.mob 14 (.done))))))])])]), (7, .alt [(4, .alt [(8, .alt [(9, .mob 10 (.mob 11 (.mob 12 (.mob 13 (.mob 14 (.done))))))])])])]), (4, .alt [(2, .alt [(7, .alt [(8, .alt [(9, .mob 10 (.mob 11 (.mob 12 (.mob 13 (.mob 14 (.done))))))])])]), (7, .alt [(2, .alt [(8, .alt [(9, .mob 10 (.mob 11 (.mob 12 (.mob 13 (.mob 14 (.done))))))])]), (8, .alt [(2, .alt [(9, .mob 10 (.mob 11 (.mob 12 (.mob 13 (.mob 14 (.done))))))])])])]), (7, .alt [(2, .alt [(4, .alt [(8, .alt [(9, .mob 10 (.mob 11 (.mob 12 (.mob 13 (.mob 14 (.done))))))])])]), (4, .alt [(2, .alt [(8, .alt [(9, .mob 10 (.mob 11 (.mob 12 (.mob 13 (.mob 14 (.done))))))])]), (8, .alt [(2, .alt [(9, .mob 10 (.mob 11 (.mob 12 (.mob 13 (.mob 14 (.done))))))])])])])])]))))) (by kernel_rfl) ?_; conv => whnf)
    | exact ⟨rfl, rfl⟩
    | (refine Fin.bool ?_ rfl)
    | (refine Fin.int ?_ rfl)
    | (refine Fin.str ?_ rfl)
    | (refine Fin.sl ?_ rfl)
    | exact trivial)
    all_goals try (exact absurd (.inr (.inr ⟨ha, by assumption⟩)) hodd)
    all_goals try (exact .inr ⟨_, rfl, rfl, leftM_stop hL hn (congrArg (·.2) hfe) (by assumption)⟩)
    all_goals
      have hfe' : flN marks w (.mk a b c ps) = (x, 0) := by rw [hfe, hc]
      have hnx := leftM_next hL hn hfe'
      have hnl : (o ++ x).length ≤ szs (l.take (i + 1)) := by simp only [List.length_append]; omega
      refine ⟨(i + 1, o ++ x), ⟨by dsimp only; omega, hnl, hnx⟩, by dsimp only; omega, ?_⟩
      conv => whnf
      repeat (first | exact True.intro | (refine Need.mk ?_ ?_; (focus ((first | rfl | assumption | omega | (simp only [List.length_map, List.length_append, List.length_take, List.length_drop, List.length_cons, List.length_nil, List.length_replicate, List.length_set, List.length_reverse, nds_len, numsD_length]; omega) | simp); done)); conv => whnf) | ((conv => whnf); exact True.intro))
set_option maxHeartbeats 4000000 in
theorem flatR (marks : List Str) (hmk : marks.length < 2 ^ 40) (m : Nat) : ∀ (l : List Nd) (w : List Str), szs l < m → w.length + szs l ≤ 2097152 → szLL (nds l) ≤ 1048576 → CallWP Tryd.prog 32 [(.d (.sl (marks.map iS))), (.d (.sl (nds l))), (.d (.sl (w.map iS)))] [] (fun r h => r = .tup [(.d (.sl ((flL marks w l).1.map Run.d))), (.d (.int .i64 ((flL marks w l).2)))] ∧ h = []) := by
  induction m with
  | zero => intro l w h; omega
  | succ m ih =>
  intro l w hm hw hK
  have hlen := len_nds l
  refine CallWP.val (Q := fun r h => (∃ o, r = .tup [.full 0, (.d (.int .i64 (0)))] ∧ h = [(0, .row 45 (o.map Run.d))] ∧ flL marks w l = (o, 0)) ∨ (∃ e, r = .tup [.nils, (.d (.int .i64 (e)))] ∧ h = [] ∧ flL marks w l = ([], e))) ?_ (by
    rintro r h (⟨o, rfl, rfl, e⟩ | ⟨e, rfl, rfl, e'⟩)
    · rw [e]; exact ⟨rfl, rfl⟩
    · rw [e']; exact ⟨rfl, rfl⟩)
  (refine CallWP.go tabOK Tryd.func32 0 81 rfl rfl rfl rfl ?_; conv => whnf)
  refine WP.loop (α := (Nat × List Run)) tabOK (fun ⟨i, o⟩ => i ≤ l.length ∧ o.length ≤ szs (l.take i) ∧ leftM marks w l i o) (fun ⟨i, o⟩ => ⟨[(0, (.d (.sl (marks.map iS)))), (2, (.d (.sl (w.map iS)))), (8, .full 0), (13, (.d (.sl (nds l)))), (14, (.d (.int .i64 ((nds l).length)))), (15, (.d (.int .i64 (i))))], [(0, .row 45 (o.map Run.d))], 1, 81⟩) (fun ⟨i, o⟩ => l.length - i) ((0, [])) ?_ ?_ ?_
  · exact ⟨Nat.zero_le _, by simp, leftM_start marks w l⟩
  · conv => whnf
    repeat (first | exact True.intro | (refine Need.mk ?_ ?_; (focus ((first | rfl | assumption | omega | (simp only [List.length_map, List.length_append, List.length_take, List.length_drop, List.length_cons, List.length_nil, List.length_replicate, List.length_set, List.length_reverse, nds_len, numsD_length]; omega) | simp); done)); conv => whnf) | ((conv => whnf); exact True.intro))
  rintro ⟨i, o⟩ ⟨hi, hol, hL⟩
  dsimp only at hi hol hL ⊢
  have hle := szs_take_le l i
  by_cases hlt : i < l.length
  case neg =>
    have hd := leftM_done hL (by omega)
    conv => whnf
    repeat' (first
    | (refine Br.tt ?_; conv => whnf)
    | (refine Br.ff ?_; conv => whnf)
    | (refine Both.mk ?_ ?_ <;> conv => whnf)
    | (refine Br.not ?_)
    | (refine Need.mk ?_ ?_; (focus ((first | omega | exact ⟨by omega, by omega⟩ | rfl | exact trivial | assumption | (simp only [List.length_map, List.length_append, List.length_take, List.length_drop, List.length_cons, List.length_nil, List.length_replicate, List.length_set, List.length_reverse, nds_len, numsD_length]; omega) | (simp only [List.length_map, List.length_append, List.length_take, List.length_drop, List.length_cons, List.length_nil, List.length_replicate, List.length_set, List.length_reverse, nds_len, numsD_length]; exact ⟨by omega, by omega⟩) | exact nds_each | (refine map_each ?_; intro x; rfl) | (refine first_map ?_; intro x; rfl) | exact first_nds | simp | (simp; omega)); done)); conv => whnf)
    | (refine Br.t (by assumption) ?_; conv => whnf)
    | (refine Br.f (by assumption) ?_; conv => whnf)
    | (refine Br.self ?_; conv => whnf)
    | (refine Br.decT (by assumption) ?_; conv => whnf)
    | (refine Br.decF (by assumption) ?_; conv => whnf)
    | (refine Br.eqT (by assumption) ?_; conv => whnf)
    | (refine Br.eqF (by assumption) ?_; conv => whnf)
    | (refine Br.dec (fun hc => ?_) (fun hc => ?_) <;> (try simp only [List.length_map, List.length_append, List.length_take, List.length_drop, List.length_cons, List.length_nil, List.length_replicate, List.length_set, List.length_reverse, nds_len, numsD_length] at hc) <;> first | (exfalso; omega) | exact absurd trivial hc | exact absurd rfl hc | conv => whnf)
    | (refine Br.eq (fun hc => ?_) (fun hc => ?_) <;> first | (exfalso; omega) | exact absurd trivial hc | exact absurd rfl hc | conv => whnf)
    | (refine Br.ne (fun hc => ?_) (fun hc => ?_) <;> first | (exfalso; omega) | exact absurd trivial hc | exact absurd rfl hc | conv => whnf)
    | (with_reducible refine Br.and ?_)
    | (with_reducible refine Br.or ?_)
    | (refine Br.any (fun hc => ?_) (fun hc => ?_) <;> conv => whnf)
    | (refine Fit.inl ?_ ?_; (focus ((first | omega | exact ⟨by omega, by omega⟩ | rfl | exact trivial | assumption | (simp only [List.length_map, List.length_append, List.length_take, List.length_drop, List.length_cons, List.length_nil, List.length_replicate, List.length_set, List.length_reverse, nds_len, numsD_length]; omega) | (simp only [List.length_map, List.length_append, List.length_take, List.length_drop, List.length_cons, List.length_nil, List.length_replicate, List.length_set, List.length_reverse, nds_len, numsD_length]; exact ⟨by omega, by omega⟩) | exact nds_each | (refine map_each ?_; intro x; rfl) | (refine first_map ?_; intro x; rfl) | exact first_nds | simp | (simp; omega)); done)); conv => whnf)
    | (refine Each.mapAt (by assumption) ?_; conv => whnf)
    | (refine Each.ndsAt (by assumption) ?_; conv => whnf)
    | (refine Each.at (by assumption) ?_; conv => whnf)
    | (refine Each.map (fun x hx => ?_); (try simp only [Int.toNat_natCast, Int.toNat_zero, Int.toNat_one, Int.toNat_natCast_add_one] at hx); conv => whnf)
    | (refine Each.nds (fun a b c ps hx => ?_); (try simp only [Int.toNat_natCast, Int.toNat_zero, Int.toNat_one, Int.toNat_natCast_add_one] at hx); conv => whnf)
    | (refine Each.rep ?_; conv => whnf)
    | (refine Each.drop ?_)
    | (refine Each.take (fun hi => ?_))
    | (refine Each.any (fun x hx => ?_); (try simp only [Int.toNat_natCast, Int.toNat_zero, Int.toNat_one, Int.toNat_natCast_add_one] at hx); conv => whnf)
    | (refine NilB.any (fun hn => ?_) ?_ <;> conv => whnf)
    | (refine ⟨_, bytesOfD_nums _, ?_⟩; conv => whnf)
    | (refine WP.sch (id := 8) tabOK hmix (.mob 0 (.mob 1 (.mob 3 (.alt [(2, .alt [(4, .alt [(5, .alt [(6, .alt [(7, .mob 8 (.done))])])])]), (4, .alt [(2, .alt [(5, .alt [(6, .alt [(7, .mob 8 (.done))])])])])])))) (by kernel_rfl) ?_; conv => whnf)
    | (refine WP.sch (id := 11) tabOK hmix (.mob 0 (.mob 1 (.mob 3 (.mob 5 (.alt [(2, .alt [(4, .alt [(6, .alt [(7, .alt [(8, .alt [(9, .mob 10 (.mob 11 (.mob 12 (.mob 13 (.mob 14 (.done))))))])])])]), (6, .alt [(4, .alt [(7, .alt [(8, .alt [(9, .mob 10 (.mob 11 (.mob 12 (.mob 13 (.mob 14 (.done))))))])])]), (7, .alt [(4, .alt [(8, .alt [(9, .mob 10 (.mob 11 (.mob 12 (.mob 13 (.mob 14 (.done))))))])])])])]), (4, .alt [(2, .alt [(6, .alt [(7, .alt [(8, .alt [(9, .mob 10 (.mob 11 (.mob 12 (.mob 13 (.mob 14 (.done))))))])])])]), (6, .alt [(2, .alt [(7, .alt [(8, .alt [(9, .mob 10 (.mob 11 (.mob 12 (.mob 13 (.mob 14 (.done))))))])])]), (7, .alt [(2, .alt [(8, .alt [(9, .mob 10 (.mob 11 (.mob 12 (.mob 13 (.mob 14 (.done))))))])]), (8, .alt [(2, .alt [(9, .mob 10 (.mob 11 (.mob 12 (.mob 13 (.mob 14 (.done))))))])])])])]), (6, .alt [(2, .alt [(4, .alt [(7, .alt [(8, .alt [(9, .mob 10 (.mob 11 (.mob 12 (.mob 13 (.mob 14 (.done))))))])])]), (7, .alt [(4, .alt [(8, .alt [(9, .mob 10 (.mob 11 (.mob 12 (.mob 13 (.mob 14 (.done))))))])])])]), (4, .alt [(2, .alt [(7, .alt [(8, .alt [(9, .mob 10 (.mob 11 (.mob 12 (.mob 13 (.mob 14 (.done))))))])])]), (7, .alt [(2, .alt [(8, .alt [(9, .mob 10 (.mob 11 (.mob 12 (.mob 13 (.mob 14 (.done))))))])]), (8, .alt [(2, .alt [(9, .mob 10 (.mob 11 (.mob 12 (.mob 13 (.mob 14 (.done))))))])])])]), (7, .alt [(2, .alt [(4, .alt [(8, .alt [(9, .mob 10 (.mob 11 (.mob 12 (.mob 13 (.mob 14 (.done))))))])])]), (4, .alt [(2, .alt [(8, .alt [(9, .mob 10 (.mob 11 (.mob 12 (.mob 13 (.mob 14 (.done))))))])]), (8, .alt [(2, .alt [(9, .mob 10 (.mob 11 (.mob 12 (.mob 13 (.mob 14 (.done))))))])])])])])]))))) (by kernel_rfl) ?_; conv => whnf)
    | exact ⟨rfl, rfl⟩
    | (refine Fin.bool ?_ rfl)
    | (refine Fin.int ?_ rfl)
    | (refine Fin.str ?_ rfl)
    | (refine Fin.sl ?_ rfl)
    | exact trivial)
    exact .inl ⟨o, rfl, rfl, hd⟩
  obtain ⟨⟨a, b, c, ps⟩, hn⟩ : ∃ x, l[i]? = some x := ⟨l[i], by simp [hlt]⟩
  obtain ⟨m1, m2, m3, m4⟩ := nds_part hn
  have hla := len_attr b
  have hlp := len_nds ps
  have h1 := szs_mem hn
  have h2 := szs_take hn
  simp only [Nd.sz] at h1 h2
  obtain ⟨k1, k2, k3⟩ := flL_len marks ps (w ++ [a])
  by_cases hodd : oddN a b c ps
  · have hst := leftM_stop hL hn (congrArg (·.2) (flN_odd (w := w) hodd)) (by decide)
    unfold oddN at hodd
    by_cases hb0 : 0 < b.length
    · conv => whnf
      repeat' (first
    | (refine Br.tt ?_; conv => whnf)
    | (refine Br.ff ?_; conv => whnf)
    | (refine Both.mk ?_ ?_ <;> conv => whnf)
    | (refine Br.not ?_)
    | (refine Need.mk ?_ ?_; (focus ((first | omega | exact ⟨by omega, by omega⟩ | rfl | exact trivial | assumption | (simp only [List.length_map, List.length_append, List.length_take, List.length_drop, List.length_cons, List.length_nil, List.length_replicate, List.length_set, List.length_reverse, nds_len, numsD_length]; omega) | (simp only [List.length_map, List.length_append, List.length_take, List.length_drop, List.length_cons, List.length_nil, List.length_replicate, List.length_set, List.length_reverse, nds_len, numsD_length]; exact ⟨by omega, by omega⟩) | exact nds_each | (refine map_each ?_; intro x; rfl) | (refine first_map ?_; intro x; rfl) | exact first_nds | simp | (simp; omega)); done)); conv => whnf)
    | (refine Br.t (by assumption) ?_; conv => whnf)
    | (refine Br.f (by assumption) ?_; conv => whnf)
    | (refine Br.self ?_; conv => whnf)
    | (refine Br.decT (by assumption) ?_; conv => whnf)
    | (refine Br.decF (by assumption) ?_; conv => whnf)
    | (refine Br.eqT (by assumption) ?_; conv => whnf)
    | (refine Br.eqF (by assumption) ?_; conv => whnf)
    | (refine Br.dec (fun hc => ?_) (fun hc => ?_) <;> (try simp only [List.length_map, List.length_append, List.length_take, List.length_drop, List.length_cons, List.length_nil, List.length_replicate, List.length_set, List.length_reverse, nds_len, numsD_length] at hc) <;> first | (exfalso; omega) | exact absurd trivial hc | exact absurd rfl hc | conv => whnf)
    | (refine Br.eq (fun hc => ?_) (fun hc => ?_) <;> first | (exfalso; omega) | exact absurd trivial hc | exact absurd rfl hc | conv => whnf)
    | (refine Br.ne (fun hc => ?_) (fun hc => ?_) <;> first | (exfalso; omega) | exact absurd trivial hc | exact absurd rfl hc | conv => whnf)
    | (with_reducible refine Br.and ?_)
    | (with_reducible refine Br.or ?_)
    | (refine Br.any (fun hc => ?_) (fun hc => ?_) <;> conv => whnf)
    | (refine Fit.inl ?_ ?_; (focus ((first | omega | exact ⟨by omega, by omega⟩ | rfl | exact trivial | assumption | (simp only [List.length_map, List.length_append, List.length_take, List.length_drop, List.length_cons, List.length_nil, List.length_replicate, List.length_set, List.length_reverse, nds_len, numsD_length]; omega) | (simp only [List.length_map, List.length_append, List.length_take, List.length_drop, List.length_cons, List.length_nil, List.length_replicate, List.length_set, List.length_reverse, nds_len, numsD_length]; exact ⟨by omega, by omega⟩) | exact nds_each | (refine map_each ?_; intro x; rfl) | (refine first_map ?_; intro x; rfl) | exact first_nds | simp | (simp; omega)); done)); conv => whnf)
    | (refine Each.mapAt (by assumption) ?_; conv => whnf)
    | (refine Each.ndsAt (by assumption) ?_; conv => whnf)
    | (refine Each.at (by assumption) ?_; conv => whnf)
    | (refine Each.map (fun x hx => ?_); (try simp only [Int.toNat_natCast, Int.toNat_zero, Int.toNat_one, Int.toNat_natCast_add_one] at hx); conv => whnf)
    | (refine Each.nds (fun a b c ps hx => ?_); (try simp only [Int.toNat_natCast, Int.toNat_zero, Int.toNat_one, Int.toNat_natCast_add_one] at hx); conv => whnf)
    | (refine Each.rep ?_; conv => whnf)
    | (refine Each.drop ?_)
    | (refine Each.take (fun hi => ?_))
    | (refine Each.any (fun x hx => ?_); (try simp only [Int.toNat_natCast, Int.toNat_zero, Int.toNat_one, Int.toNat_natCast_add_one] at hx); conv => whnf)
    | (refine NilB.any (fun hn => ?_) ?_ <;> conv => whnf)
    | (refine ⟨_, bytesOfD_nums _, ?_⟩; conv => whnf)
    | (refine WP.sch (id := 8) tabOK hmix (.mob 0 (.mob 1 (.mob 3 (.alt [(2, .alt [(4, .alt [(5, .alt [(6, .alt [(7, .mob 8 (.done))])])])]), (4, .alt [(2, .alt [(5, .alt [(6, .alt [(7, .mob 8 (.done))])])])])])))) (by kernel_rfl) ?_; conv => whnf)
    | (refine WP.sch (id := 11) tabOK hmix (.mob 0 (.mob 1 (.mob 3 (.mob 5 (.alt [(2, .alt [(4, .alt [(6, .alt [(7, .alt [(8, .alt [(9, .mob 10 (.mob 11 (.mob 12 (.mob 13 (.mob 14 (.done))))))])])])]), (6, .alt [(4, .alt [(7, .alt [(8, .alt [(9, .mob 10 (.mob 11 (.mob 12 (.mob 13 (.mob 14 (.done))))))])])]), (7, .alt [(4, .alt [(8, .alt [(9, .mob 10 (.mob 11 (.mob 12 (.mob 13 (.mob 14 (.done))))))])])])])]), (4, .alt [(2, .alt [(6, .alt [(7, .alt [(8, .alt [(9, .mob 10 (.mob 11 (.mob 12 (.mob 13 (.mob 14 (.done))))))])])])]), (6, .alt [(2, .alt [(7, .alt [(8, .alt [(9, .mob 10 (.mob 11 (.mob 12 (.mob 13 (.mob 14 (.done))))))])])]), (7, .alt [(2, .alt [(8, .alt [(9, .mob 10 (.mob 11 (.mob 12 (.mob 13 (.mob 14 (.done))))))])]), (8, .alt [(2, .alt [(9, .mob 10 (.mob 11 (.mob 12 (.mob 13 (.mob 14 (.done))))))])])])])]), (6, .alt [(2, .alt [(4, .alt [(7, .alt [(8, .alt [(9, .mob 10 (.mob 11 (.mob 12 (.mob 13 (.mob 14 (.done))))))])])]), (7, .alt [(4, .alt [(8, .alt [(9, .mob 10 (.mob 11 (.mob 12 (.mob 13 (.mob 14 (.done))))))])])])]), (4, .alt [(2, .alt [(7, .alt [(8, .alt [(9, .mob 10 (.mob 11 (.mob 12 (.mob 13 (.mob 14 (.done))))))])])]), (7, .alt [(2, .alt [(8, .alt [(9, .mob 10 (.mob 11 (.mob 12 (.mob 13 (.mob 14 (.done))))))])]), (8, .alt [(2, .alt [(9, .mob 10 (.mob 11 (.mob 12 (.mob 13 (.mob 14 (.done))))))])])])]), (7, .alt [(2, .alt [(4, .alt [(8, .alt [(9, .mob 10 (.mob 11 (.mob 12 (.mob 13 (.mob 14 (.done))))))])])]), (4, .alt [(2, .alt [(8, .alt [(9, .mob 10 (.mob 11 (.mob 12 (.mob 13 (.mob 14 (.done))))))])]), (8, .alt [(2, .alt [(9, .mob 10 (.mob 11 (.mob 12 (.mob 13 (.mob 14 (.done))))))])])])])])]))))) (by kernel_rfl) ?_; conv => whnf)
    | exact ⟨rfl, rfl⟩
    | (refine Fin.bool ?_ rfl)
    | (refine Fin.int ?_ rfl)
    | (refine Fin.str ?_ rfl)
    | (refine Fin.sl ?_ rfl)
    | exact trivial)
      all_goals first
        | exact .inr ⟨_, rfl, rfl, hst⟩
        | (exfalso; omega)
    have hodd2 : (a = [] ∧ 0 < ps.length) ∨ (a ≠ [] ∧ c ≠ []) := hodd.resolve_left hb0
    rcases hodd2 with ⟨rfl, hp0⟩ | ⟨ha, hc⟩
    · conv => whnf
      repeat' (first
    | (refine Br.tt ?_; conv => whnf)
    | (refine Br.ff ?_; conv => whnf)
    | (refine Both.mk ?_ ?_ <;> conv => whnf)
    | (refine Br.not ?_)
    | (refine Need.mk ?_ ?_; (focus ((first | omega | exact ⟨by omega, by omega⟩ | rfl | exact trivial | assumption | (simp only [List.length_map, List.length_append, List.length_take, List.length_drop, List.length_cons, List.length_nil, List.length_replicate, List.length_set, List.length_reverse, nds_len, numsD_length]; omega) | (simp only [List.length_map, List.length_append, List.length_take, List.length_drop, List.length_cons, List.length_nil, List.length_replicate, List.length_set, List.length_reverse, nds_len, numsD_length]; exact ⟨by omega, by omega⟩) | exact nds_each | (refine map_each ?_; intro x; rfl) | (refine first_map ?_; intro x; rfl) | exact first_nds | simp | (simp; omega)); done)); conv => whnf)
    | (refine Br.t (by assumption) ?_; conv => whnf)
    | (refine Br.f (by assumption) ?_; conv => whnf)
    | (refine Br.self ?_; conv => whnf)
    | (refine Br.decT (by assumption) ?_; conv => whnf)
    | (refine Br.decF (by assumption) ?_; conv => whnf)
    | (refine Br.eqT (by assumption) ?_; conv => whnf)
    | (refine Br.eqF (by assumption) ?_; conv => whnf)
    | (refine Br.dec (fun hc => ?_) (fun hc => ?_) <;> (try simp only [List.length_map, List.length_append, List.length_take, List.length_drop, List.length_cons, List.length_nil, List.length_replicate, List.length_set, List.length_reverse, nds_len, numsD_length] at hc) <;> first | (exfalso; omega) | exact absurd trivial hc | exact absurd rfl hc | conv => whnf)
    | (refine Br.eq (fun hc => ?_) (fun hc => ?_) <;> first | (exfalso; omega) | exact absurd trivial hc | exact absurd rfl hc | conv => whnf)
    | (refine Br.ne (fun hc => ?_) (fun hc => ?_) <;> first | (exfalso; omega) | exact absurd trivial hc | exact absurd rfl hc | conv => whnf)
    | (with_reducible refine Br.and ?_)
    | (with_reducible refine Br.or ?_)
    | (refine Br.any (fun hc => ?_) (fun hc => ?_) <;> conv => whnf)
    | (refine Fit.inl ?_ ?_; (focus ((first | omega | exact ⟨by omega, by omega⟩ | rfl | exact trivial | assumption | (simp only [List.length_map, List.length_append, List.length_take, List.length_drop, List.length_cons, List.length_nil, List.length_replicate, List.length_set, List.length_reverse, nds_len, numsD_length]; omega) | (simp only [List.length_map, List.length_append, List.length_take, List.length_drop, List.length_cons, List.length_nil, List.length_replicate, List.length_set, List.length_reverse, nds_len, numsD_length]; exact ⟨by omega, by omega⟩) | exact nds_each | (refine map_each ?_; intro x; rfl) | (refine first_map ?_; intro x; rfl) | exact first_nds | simp | (simp; omega)); done)); conv => whnf)
    | (refine Each.mapAt (by assumption) ?_; conv => whnf)
    | (refine Each.ndsAt (by assumption) ?_; conv => whnf)
    | (refine Each.at (by assumption) ?_; conv => whnf)
    | (refine Each.map (fun x hx => ?_); (try simp only [Int.toNat_natCast, Int.toNat_zero, Int.toNat_one, Int.toNat_natCast_add_one] at hx); conv => whnf)
    | (refine Each.nds (fun a b c ps hx => ?_); (try simp only [Int.toNat_natCast, Int.toNat_zero, Int.toNat_one, Int.toNat_natCast_add_one] at hx); conv => whnf)
    | (refine Each.rep ?_; conv => whnf)
    | (refine Each.drop ?_)
    | (refine Each.take (fun hi => ?_))
    | (refine Each.any (fun x hx => ?_); (try simp only [Int.toNat_natCast, Int.toNat_zero, Int.toNat_one, Int.toNat_natCast_add_one] at hx); conv => whnf)
    | (refine NilB.any (fun hn => ?_) ?_ <;> conv => whnf)
    | (refine ⟨_, bytesOfD_nums _, ?_⟩; conv => whnf)
    | (refine WP.sch (id := 8) tabOK hmix (.mob 0 (.mob 1 (.mob 3 (.alt [(2, .alt [(4, .alt [(5, .alt [(6, .alt [(7, .mob 8 (.done))])])])]), (4, .alt [(2, .alt [(5, .alt [(6, .alt [(7, .mob 8 (.done))])])])])])))) (by kernel_rfl) ?_; conv => whnf)
    | (refine WP.sch (id := 11) tabOK hmix (.mob 0 (.mob 1 (.mob 3 (.mob 5 (.alt [(2, .alt [(4, .alt [(6, .alt [(7, .alt [(8, .alt [(9, .mob 10 (.mob 11 (.mob 12 (.mob 13 (.mob 14 (.done))))))])])])]), (6, .alt [(4, .alt [(7, .alt [(8, .alt [(9, .mob 10 (.mob 11 (.mob 12 (.mob 13 (.mob 14 (.done))))))])])]), (7, .alt [(4, .alt [(8, .alt [(9, .mob 10 (.mob 11 (.mob 12 (.mob 13 (.mob 14 (.done))))))])])])])]), (4, .alt [(2, .alt [(6, .alt [(7, .alt [(8, .alt [(9, .mob 10 (.mob 11 (.mob 12 (.mob 13 (.mob 14 (.done))))))])])])]), (6, .alt [(2, .alt [(7, .alt [(8, .alt [(9, .mob 10 (.mob 11 (.mob 12 (.mob 13 (.mob 14 (.done))))))])])]), (7, .alt [(2, .alt [(8, .alt [(9, .mob 10 (.mob 11 (.mob 12 (.mob 13 (.mob 14 (.done))))))])]), (8, .alt [(2, .alt [(9, .mob 10 (.mob 11 (.mob 12 (.mob 13 (.mob 14 (.done))))))])])])])]), (6, .alt [(2, .alt [(4, .alt [(7, .alt [(8, .alt [(9, .mob 10 (.mob 11 (.mob 12 (.mob 13 (.mob 14 (.done))))))])])]), (7, .alt [(4, .alt [(8, .alt [(9, .mob 10 (.mob 11 (.mob 12 (.mob 13 (.mob 14 (.done))))))])])])]), (4, .alt [(2, .alt [(7, .alt [(8, .alt [(9, .mob 10 (.mob 11 (.mob 12 (.mob 13 (.mob 14 (.done))))))])])]), (7, .alt [(2, .alt [(8, .alt [(9, .mob 10 (.mob 11 (.mob 12 (.mob 13 (.mob 14 (.done))))))])]), (8, .alt [(2, .alt [(9, .mob 10 (.mob 11 (.mob 12 (.mob 13 (.mob 14 (.done))))))])])])]), (7, .alt [(2, .alt [(4, .alt [(8, .alt [(9, .mob 10 (.mob 11 (.mob 12 (.mob 13 (.mob 14 (.done))))))])])]), (4, .alt [(2, .alt [(8, .alt [(9, .mob 10 (.mob 11 (.mob 12 (.mob 13 (.mob 14 (.done))))))])]), (8, .alt [(2, .alt [(9, .mob 10 (.mob 11 (.mob 12 (.mob 13 (.mob 14 (.done))))))])])])])])]))))) (by kernel_rfl) ?_; conv => whnf)
    | exact ⟨rfl, rfl⟩
    | (refine Fin.bool ?_ rfl)
    | (refine Fin.int ?_ rfl)
    | (refine Fin.str ?_ rfl)
    | (refine Fin.sl ?_ rfl)
    | exact trivial)
      all_goals first
        | exact .inr ⟨_, rfl, rfl, hst⟩
        | (exfalso; omega)
    · have ha' : ¬ a = (ByteArray.mk #[]).data.toList := ha
      have hc' : ¬ c = (ByteArray.mk #[]).data.toList := hc
      conv => whnf
      repeat' (first
    | (refine Br.tt ?_; conv => whnf)
    | (refine Br.ff ?_; conv => whnf)
    | (refine Both.mk ?_ ?_ <;> conv => whnf)
    | (refine Br.not ?_)
    | (refine Need.mk ?_ ?_; (focus ((first | omega | exact ⟨by omega, by omega⟩ | rfl | exact trivial | assumption | (simp only [List.length_map, List.length_append, List.length_take, List.length_drop, List.length_cons, List.length_nil, List.length_replicate, List.length_set, List.length_reverse, nds_len, numsD_length]; omega) | (simp only [List.length_map, List.length_append, List.length_take, List.length_drop, List.length_cons, List.length_nil, List.length_replicate, List.length_set, List.length_reverse, nds_len, numsD_length]; exact ⟨by omega, by omega⟩) | exact nds_each | (refine map_each ?_; intro x; rfl) | (refine first_map ?_; intro x; rfl) | exact first_nds | simp | (simp; omega)); done)); conv => whnf)
    | (refine Br.t (by assumption) ?_; conv => whnf)
    | (refine Br.f (by assumption) ?_; conv => whnf)
    | (refine Br.self ?_; conv => whnf)
    | (refine Br.decT (by assumption) ?_; conv => whnf)
    | (refine Br.decF (by assumption) ?_; conv => whnf)
    | (refine Br.eqT (by assumption) ?_; conv => whnf)
    | (refine Br.eqF (by assumption) ?_; conv => whnf)
    | (refine Br.dec (fun hc => ?_) (fun hc => ?_) <;> (try simp only [List.length_map, List.length_append, List.length_take, List.length_drop, List.length_cons, List.length_nil, List.length_replicate, List.length_set, List.length_reverse, nds_len, numsD_length] at hc) <;> first | (exfalso; omega) | exact absurd trivial hc | exact absurd rfl hc | conv => whnf)
    | (refine Br.eq (fun hc => ?_) (fun hc => ?_) <;> first | (exfalso; omega) | exact absurd trivial hc | exact absurd rfl hc | conv => whnf)
    | (refine Br.ne (fun hc => ?_) (fun hc => ?_) <;> first | (exfalso; omega) | exact absurd trivial hc | exact absurd rfl hc | conv => whnf)
    | (with_reducible refine Br.and ?_)
    | (with_reducible refine Br.or ?_)
    | (refine Br.any (fun hc => ?_) (fun hc => ?_) <;> conv => whnf)
    | (refine Fit.inl ?_ ?_; (focus ((first | omega | exact ⟨by omega, by omega⟩ | rfl | exact trivial | assumption | (simp only [List.length_map, List.length_append, List.length_take, List.length_drop, List.length_cons, List.length_nil, List.length_replicate, List.length_set, List.length_reverse, nds_len, numsD_length]; omega) | (simp only [List.length_map, List.length_append, List.length_take, List.length_drop, List.length_cons, List.length_nil, List.length_replicate, List.length_set, List.length_reverse, nds_len, numsD_length]; exact ⟨by omega, by omega⟩) | exact nds_each | (refine map_each ?_; intro x; rfl) | (refine first_map ?_; intro x; rfl) | exact first_nds | simp | (simp; omega)); done)); conv => whnf)
    | (refine Each.mapAt (by assumption) ?_; conv => whnf)
    | (refine Each.ndsAt (by assumption) ?_; conv => whnf)
    | (refine Each.at (by assumption) ?_; conv => whnf)
    | (refine Each.map (fun x hx => ?_); (try simp only [Int.toNat_natCast, Int.toNat_zero, Int.toNat_one, Int.toNat_natCast_add_one] at hx); conv => whnf)
    | (refine Each.nds (fun a b c ps hx => ?_); (try simp only [Int.toNat_natCast, Int.toNat_zero, Int.toNat_one, Int.toNat_natCast_add_one] at hx); conv => whnf)
    | (refine Each.rep ?_; conv => whnf)
    | (refine Each.drop ?_)
    | (refine Each.take (fun hi => ?_))
    | (refine Each.any (fun x hx => ?_); (try simp only [Int.toNat_natCast, Int.toNat_zero, Int.toNat_one, Int.toNat_natCast_add_one] at hx); conv => whnf)
    | (refine NilB.any (fun hn => ?_) ?_ <;> conv => whnf)
    | (refine ⟨_, bytesOfD_nums _, ?_⟩; conv => whnf)
    | (refine WP.sch (id := 8) tabOK hmix (.mob 0 (.mob 1 (.mob 3 (.alt [(2, .alt [(4, .alt [(5, .alt [(6, .alt [(7, .mob 8 (.done))])])])]), (4, .alt [(2, .alt [(5, .alt [(6, .alt [(7, .mob 8 (.done))])])])])])))) (by kernel_rfl) ?_; conv => whnf)
    | (refine WP.sch (id := 11) tabOK hmix (.mob 0 (.mob 1 (.mob 3 (.mob 5 (.alt [(2, .alt [(4, .alt [(6, .alt [(7, .alt [(8, .alt [(9, .mob 10 (.mob 11 (.mob 12 (.mob 13 (.mob 14 (.done))))))])])])]), (6, .alt [(4, .alt [(7, .alt [(8, .alt [(9, .mob 10 (.mob 11 (.mob 12 (.mob 13 (.mob 14 (.done))))))])])]), (7, .alt [(4, .alt [(8, .alt [(9, .mob 10 (.mob 11 (.mob 12 (.mob 13 (.mob 14 (.done))))))])])])])]), (4, .alt [(2, .alt [(6, .alt [(7, .alt [(8, .alt [(9, .mob 10 (.mob 11 (.mob 12 (.mob 13 (.mob 14 (.done))))))])])])]), (6, .alt [(2, .alt [(7, .alt [(8, .alt [(9, .mob 10 (.mob 11 (.mob 12 (.mob 13 (.mob 14 (.done))))))])])]), (7, .alt [(2, .alt [(8, .alt [(9, .mob 10 (.mob 11 (.mob 12 (.mob 13 (.mob 14 (.done))))))])]), (8, .alt [(2, .alt [(9, .mob 10 (.mob 11 (.mob 12 (.mob 13 (.mob 14 (.done))))))])])])])]), (6, .alt [(2, .alt [(4, .alt [(7, .alt [(8, .alt [(9, .mob 10 (.mob 11 (.mob 12 (.mob 13 (.mob 14 (.done))))))])])]), (7, .alt [(4, .alt [(8, .alt [(9, .mob 10 (.mob 11 (.mob 12 (.mob 13 (.mob 14 (.done))))))])])])]), (4, .alt [(2, .alt [(7, .alt [(8, .alt [(9, .mob 10 (.mob 11 (.mob 12 (.mob 13 (.mob 14 (.done))))))])])]), (7, .alt [(2, .alt [(8, .alt [(9, .mob 10 (.mob 11 (.mob 12 (.mob 13 (.mob 14 (.done))))))])]), (8, .alt [(2, .alt [(9, .mob 10 (.mob 11 (.mob 12 (.mob 13 (.mob 14 (.done))))))])])])]), (7, .alt [(2, .alt [(4, .alt [(8, .alt [(9, .mob 10 (.mob 11 (.mob 12 (.mob 13 (.mob 14 (.done))))))])])]), (4, .alt [(2, .alt [(8, .alt [(9, .mob 10 (.mob 11 (.mob 12 (.mob 13 (.mob 14 (.done))))))])]), (8, .alt [(2, .alt [(9, .mob 10 (.mob 11 (.mob 12 (.mob 13 (.mob 14 (.done))))))])])])])])]))))) (by kernel_rfl) ?_; conv => whnf)
    | exact ⟨rfl, rfl⟩
    | (refine Fin.bool ?_ rfl)
    | (refine Fin.int ?_ rfl)
    | (refine Fin.str ?_ rfl)
    | (refine Fin.sl ?_ rfl)
    | exact trivial)
      all_goals first
        | exact .inr ⟨_, rfl, rfl, hst⟩
        | (exfalso; omega)
  have hb0 : ¬ 0 < b.length := fun h => hodd (.inl h)
  by_cases ha : a = []
  · subst ha
    have hp0 : ¬ 0 < ps.length := fun h => hodd (.inr (.inl ⟨rfl, h⟩))
    have hnx := leftM_next hL hn (flN_text hodd)
    have hnl : (o ++ [(⟨c, w⟩ : Run)]).length ≤ szs (l.take (i + 1)) := by simp only [List.length_append, List.length_cons, List.length_nil]; omega
    conv => whnf
    repeat' (first
    | (refine Br.tt ?_; conv => whnf)
    | (refine Br.ff ?_; conv => whnf)
    | (refine Both.mk ?_ ?_ <;> conv => whnf)
    | (refine Br.not ?_)
    | (refine Need.mk ?_ ?_; (focus ((first | omega | exact ⟨by omega, by omega⟩ | rfl | exact trivial | assumption | (simp only [List.length_map, List.length_append, List.length_take, List.length_drop, List.length_cons, List.length_nil, List.length_replicate, List.length_set, List.length_reverse, nds_len, numsD_length]; omega) | (simp only [List.length_map, List.length_append, List.length_take, List.length_drop, List.length_cons, List.length_nil, List.length_replicate, List.length_set, List.length_reverse, nds_len, numsD_length]; exact ⟨by omega, by omega⟩) | exact nds_each | (refine map_each ?_; intro x; rfl) | (refine first_map ?_; intro x; rfl) | exact first_nds | simp | (simp; omega)); done)); conv => whnf)
    | (refine Br.t (by assumption) ?_; conv => whnf)
    | (refine Br.f (by assumption) ?_; conv => whnf)
    | (refine Br.self ?_; conv => whnf)
    | (refine Br.decT (by assumption) ?_; conv => whnf)
    | (refine Br.decF (by assumption) ?_; conv => whnf)
    | (refine Br.eqT (by assumption) ?_; conv => whnf)
    | (refine Br.eqF (by assumption) ?_; conv => whnf)
    | (refine Br.dec (fun hc => ?_) (fun hc => ?_) <;> (try simp only [List.length_map, List.length_append, List.length_take, List.length_drop, List.length_cons, List.length_nil, List.length_replicate, List.length_set, List.length_reverse, nds_len, numsD_length] at hc) <;> first | (exfalso; omega) | exact absurd trivial hc | exact absurd rfl hc | conv => whnf)
    | (refine Br.eq (fun hc => ?_) (fun hc => ?_) <;> first | (exfalso; omega) | exact absurd trivial hc | exact absurd rfl hc | conv => whnf)
    | (refine Br.ne (fun hc => ?_) (fun hc => ?_) <;> first | (exfalso; omega) | exact absurd trivial hc | exact absurd rfl hc | conv => whnf)
    | (with_reducible refine Br.and ?_)
    | (with_reducible refine Br.or ?_)
    | (refine Br.any (fun hc => ?_) (fun hc => ?_) <;> conv => whnf)
    | (refine Fit.inl ?_ ?_; (focus ((first | omega | exact ⟨by omega, by omega⟩ | rfl | exact trivial | assumption | (simp only [List.length_map, List.length_append, List.length_take, List.length_drop, List.length_cons, List.length_nil, List.length_replicate, List.length_set, List.length_reverse, nds_len, numsD_length]; omega) | (simp only [List.length_map, List.length_append, List.length_take, List.length_drop, List.length_cons, List.length_nil, List.length_replicate, List.length_set, List.length_reverse, nds_len, numsD_length]; exact ⟨by omega, by omega⟩) | exact nds_each | (refine map_each ?_; intro x; rfl) | (refine first_map ?_; intro x; rfl) | exact first_nds | simp | (simp; omega)); done)); conv => whnf)
    | (refine Each.mapAt (by assumption) ?_; conv => whnf)
    | (refine Each.ndsAt (by assumption) ?_; conv => whnf)
    | (refine Each.at (by assumption) ?_; conv => whnf)
    | (refine Each.map (fun x hx => ?_); (try simp only [Int.toNat_natCast, Int.toNat_zero, Int.toNat_one, Int.toNat_natCast_add_one] at hx); conv => whnf)
    | (refine Each.nds (fun a b c ps hx => ?_); (try simp only [Int.toNat_natCast, Int.toNat_zero, Int.toNat_one, Int.toNat_natCast_add_one] at hx); conv => whnf)
    | (refine Each.rep ?_; conv => whnf)
    | (refine Each.drop ?_)
    | (refine Each.take (fun hi => ?_))
    | (refine Each.any (fun x hx => ?_); (try simp only [Int.toNat_natCast, Int.toNat_zero, Int.toNat_one, Int.toNat_natCast_add_one] at hx); conv => whnf)
    | (refine NilB.any (fun hn => ?_) ?_ <;> conv => whnf)
    | (refine ⟨_, bytesOfD_nums _, ?_⟩; conv => whnf)
    | (refine WP.sch (id := 8) tabOK hmix (.mob 0 (.mob 1 (.mob 3 (.alt [(2, .alt [(4, .alt [(5, .alt [(6, .alt [(7, .mob 8 (.done))])])])]), (4, .alt [(2, .alt [(5, .alt [(6, .alt [(7, .mob 8 (.done))])])])])])))) (by kernel_rfl) ?_; conv => whnf)
    | (refine WP.sch (id := 11) tabOK hmix (.mob 0 (.mob 1 (.mob 3 (.mob 5 (.alt [(2, .alt [(4, .alt [(6, .alt [(7, .alt [(8, .alt [(9, .mob 10 (.mob 11 (.mob 12 (.mob 13 (.mob 14 (.done))))))])])])]), (6, .alt [(4, .alt [(7, .alt [(8, .alt [(9, .mob 10 (.mob 11 (.mob 12 (.mob 13 (.mob 14 (.done))))))])])]), (7, .alt [(4, .alt [(8, .alt [(9, .mob 10 (.mob 11 (.mob 12 (.mob 13 (.mob 14 (.done))))))])])])])]), (4, .alt [(2, .alt [(6, .alt [(7, .alt [(8, .alt [(9, .mob 10 (.mob 11 (.mob 12 (.mob 13 (.mob 14 (.done))))))])])])]), (6, .alt [(2, .alt [(7, .alt [(8, .alt [(9, .mob 10 (.mob 11 (.mob 12 (.mob 13 (.mob 14 (.done))))))])])]), (7, .alt [(2, .alt [(8, .alt [(9, .mob 10 (.mob 11 (.mob 12 (.mob 13 (.mob 14 (.done))))))])]), (8, .alt [(2, .alt [(9, .mob 10 (.mob 11 (.mob 12 (.mob 13 (.mob 14 (.done))))))])])])])]), (6, .alt [(2, .alt [(4, .alt [(7, .alt [(8, .alt [(9, .mob 10 (.mob 11 (.mob 12 (.mob 13 (.mob 14 (.done))))))])])]), (7, .alt [(4, .alt [(8, .alt [(9, .mob 10 (.mob 11 (.mob 12 (.mob 13 (.mob 14 (.done))))))])])])]), (4, .alt [(2, .alt [(7, .alt [(8, .alt [(9, .mob 10 (.mob 11 (.mob 12 (.mob 13 (.mob 14 (.done))))))])])]), (7, .alt [(2, .alt [(8, .alt [(9, .mob 10 (.mob 11 (.mob 12 (.mob 13 (.mob 14 (.done))))))])]), (8, .alt [(2, .alt [(9, .mob 10 (.mob 11 (.mob 12 (.mob 13 (.mob 14 (.done))))))])])])]), (7, .alt [(2, .alt [(4, .alt [(8, .alt [(9, .mob 10 (.mob 11 (.mob 12 (.mob 13 (.mob 14 (.done))))))])])]), (4, .alt [(2, .alt [(8, .alt [(9, .mob 10 (.mob 11 (.mob 12 (.mob 13 (.mob 14 (.done))))))])]), (8, .alt [(2, .alt [(9, .mob 10 (.mob 11 (.mob 12 (.mob 13 (.mob 14 (.done))))))])])])])])]))))) (by kernel_rfl) ?_; conv => whnf)
    | exact ⟨rfl, rfl⟩
    | (refine Fin.bool ?_ rfl)
    | (refine Fin.int ?_ rfl)
    | (refine Fin.str ?_ rfl)
    | (refine Fin.sl ?_ rfl)
    | exact trivial)
    all_goals
      refine ⟨(i + 1, o ++ [⟨c, w⟩]), ⟨by dsimp only; omega, hnl, hnx⟩, by dsimp only; omega, ?_⟩
      conv => whnf
      repeat (first | exact True.intro | (refine Need.mk ?_ ?_; (focus ((first | rfl | assumption | omega | (simp only [List.length_map, List.length_append, List.length_take, List.length_drop, List.length_cons, List.length_nil, List.length_replicate, List.length_set, List.length_reverse, nds_len, numsD_length]; omega) | simp [Run.d]); done)); conv => whnf) | ((conv => whnf); exact True.intro))
  have hce : c = [] := Classical.byContradiction fun h => hodd (.inr (.inr ⟨ha, h⟩))
  subst hce
  have ha' : ¬ a = (ByteArray.mk #[]).data.toList := ha
  cases hany : marks.any (a == ·) with
  | false =>
    have hst := leftM_stop hL hn (congrArg (·.2) (flN_none (w := w) hodd ha hany)) (by decide)
    conv => whnf
    repeat' (first
    | (refine Br.tt ?_; conv => whnf)
    | (refine Br.ff ?_; conv => whnf)
    | (refine Both.mk ?_ ?_ <;> conv => whnf)
    | (refine Br.not ?_)
    | (refine Need.mk ?_ ?_; (focus ((first | omega | exact ⟨by omega, by omega⟩ | rfl | exact trivial | assumption | (simp only [List.length_map, List.length_append, List.length_take, List.length_drop, List.length_cons, List.length_nil, List.length_replicate, List.length_set, List.length_reverse, nds_len, numsD_length]; omega) | (simp only [List.length_map, List.length_append, List.length_take, List.length_drop, List.length_cons, List.length_nil, List.length_replicate, List.length_set, List.length_reverse, nds_len, numsD_length]; exact ⟨by omega, by omega⟩) | exact nds_each | (refine map_each ?_; intro x; rfl) | (refine first_map ?_; intro x; rfl) | exact first_nds | simp | (simp; omega)); done)); conv => whnf)
    | (refine Br.t (by assumption) ?_; conv => whnf)
    | (refine Br.f (by assumption) ?_; conv => whnf)
    | (refine Br.self ?_; conv => whnf)
    | (refine Br.decT (by assumption) ?_; conv => whnf)
    | (refine Br.decF (by assumption) ?_; conv => whnf)
    | (refine Br.eqT (by assumption) ?_; conv => whnf)
    | (refine Br.eqF (by assumption) ?_; conv => whnf)
    | (refine Br.dec (fun hc => ?_) (fun hc => ?_) <;> (try simp only [List.length_map, List.length_append, List.length_take, List.length_drop, List.length_cons, List.length_nil, List.length_replicate, List.length_set, List.length_reverse, nds_len, numsD_length] at hc) <;> first | (exfalso; omega) | exact absurd trivial hc | exact absurd rfl hc | conv => whnf)
    | (refine Br.eq (fun hc => ?_) (fun hc => ?_) <;> first | (exfalso; omega) | exact absurd trivial hc | exact absurd rfl hc | conv => whnf)
    | (refine Br.ne (fun hc => ?_) (fun hc => ?_) <;> first | (exfalso; omega) | exact absurd trivial hc | exact absurd rfl hc | conv => whnf)
    | (with_reducible refine Br.and ?_)
    | (with_reducible refine Br.or ?_)
    | (refine Br.any (fun hc => ?_) (fun hc => ?_) <;> conv => whnf)
    | (refine Fit.inl ?_ ?_; (focus ((first | omega | exact ⟨by omega, by omega⟩ | rfl | exact trivial | assumption | (simp only [List.length_map, List.length_append, List.length_take, List.length_drop, List.length_cons, List.length_nil, List.length_replicate, List.length_set, List.length_reverse, nds_len, numsD_length]; omega) | (simp only [List.length_map, List.length_append, List.length_take, List.length_drop, List.length_cons, List.length_nil, List.length_replicate, List.length_set, List.length_reverse, nds_len, numsD_length]; exact ⟨by omega, by omega⟩) | exact nds_each | (refine map_each ?_; intro x; rfl) | (refine first_map ?_; intro x; rfl) | exact first_nds | simp | (simp; omega)); done)); conv => whnf)
    | (refine Each.mapAt (by assumption) ?_; conv => whnf)
    | (refine Each.ndsAt (by assumption) ?_; conv => whnf)
    | (refine Each.at (by assumption) ?_; conv => whnf)
    | (refine Each.map (fun x hx => ?_); (try simp only [Int.toNat_natCast, Int.toNat_zero, Int.toNat_one, Int.toNat_natCast_add_one] at hx); conv => whnf)
    | (refine Each.nds (fun a b c ps hx => ?_); (try simp only [Int.toNat_natCast, Int.toNat_zero, Int.toNat_one, Int.toNat_natCast_add_one] at hx); conv => whnf)
    | (refine Each.rep ?_; conv => whnf)
    | (refine Each.drop ?_)
    | (refine Each.take (fun hi => ?_))
    | (refine Each.any (fun x hx => ?_); (try simp only [Int.toNat_natCast, Int.toNat_zero, Int.toNat_one, Int.toNat_natCast_add_one] at hx); conv => whnf)
    | (refine NilB.any (fun hn => ?_) ?_ <;> conv => whnf)
    | (refine CallWP.mono (oneOf_ marks _ (by omega)) ?_; rintro r h ⟨rfl, rfl⟩; conv => whnf)
    | (refine ⟨_, bytesOfD_nums _, ?_⟩; conv => whnf)
    | (refine WP.sch (id := 8) tabOK hmix (.mob 0 (.mob 1 (.mob 3 (.alt [(2, .alt [(4, .alt [(5, .alt [(6, .alt [(7, .mob 8 (.done))])])])]), (4, .alt [(2, .alt [(5, .alt [(6, .alt [(7, .mob 8 (.done))])])])])])))) (by kernel_rfl) ?_; conv => whnf)
    | (refine WP.sch (id := 11) tabOK hmix (.mob 0 (.mob 1 (.mob 3 (.mob 5 (.alt [(2, .alt [(4, .alt [(6, .alt [(7, .alt [(8, .alt [(9, .mob 10 (.mob 11 (.mob 12 (.mob 13 (.mob 14 (.done))))))])])])]), (6, .alt [(4, .alt [(7, .alt [(8, .alt [(9, .mob 10 (.mob 11 (.mob 12 (.mob 13 (.mob 14 (.done))))))])])]), (7, .alt [(4, .alt [(8, .alt [(9, .mob 10 (.mob 11 (.mob 12 (.mob 13 (.mob 14 (.done))))))])])])])]), (4, .alt [(2, .alt [(6, .alt [(7, .alt [(8, .alt [(9, .mob 10 (.mob 11 (.mob 12 (.mob 13 (.mob 14 (.done))))))])])])]), (6, .alt [(2, .alt [(7, .alt [(8, .alt [(9, .mob 10 (.mob 11 (.mob 12 (.mob 13 (.mob 14 (.done))))))])])]), (7, .alt [(2, .alt [(8, .alt [(9, .mob 10 (.mob 11 (.mob 12 (.mob 13 (.mob 14 (.done))))))])]), (8, .alt [(2, .alt [(9, .mob 10 (.mob 11 (.mob 12 (.mob 13 (.mob 14 (.done))))))])])])])]), (6, .alt [(2, .alt [(4, .alt [(7, .alt [(8, .alt [(9, .mob 10 (.mob 11 (.mob 12 (.mob 13 (.mob 14 (.done))))))])])]), (7, .alt [(4, .alt [(8, .alt [(9, .mob 10 (.mob 11 (.mob 12 (.mob 13 (.mob 14 (.done))))))])])])]), (4, .alt [(2, .alt [(7, .alt [(8, .alt [(9, .mob 10 (.mob 11 (.mob 12 (.mob 13 (.mob 14 (.done))))))])])]), (7, .alt [(2, .alt [(8, .alt [(9, .mob 10 (.mob 11 (.mob 12 (.mob 13 (.mob 14 (.done))))))])]), (8, .alt [(2, .alt [(9, .mob 10 (.mob 11 (.mob 12 (.mob 13 (.mob 14 (.done))))))])])])]), (7, .alt [(2, .alt [(4, .alt [(8, .alt [(9, .mob 10 (.mob 11 (.mob 12 (.mob 13 (.mob 14 (.done))))))])])]), (4, .alt [(2, .alt [(8, .alt [(9, .mob 10 (.mob 11 (.mob 12 (.mob 13 (.mob 14 (.done))))))])]), (8, .alt [(2, .alt [(9, .mob 10 (.mob 11 (.mob 12 (.mob 13 (.mob 14 (.done))))))])])])])])]))))) (by kernel_rfl) ?_; conv => whnf)
    | exact ⟨rfl, rfl⟩
    | (refine Fin.bool ?_ rfl)
    | (refine Fin.int ?_ rfl)
    | (refine Fin.str ?_ rfl)
    | (refine Fin.sl ?_ rfl)
    | exact trivial)
    all_goals exact .inr ⟨_, rfl, rfl, hst⟩
  | true =>
    have hfe := flN_elem (w := w) hodd ha hany
    have hrec := ih ps (w ++ [a]) (by omega) (by simp only [List.length_append, List.length_cons, List.length_nil]; omega) (by omega)
    rw [List.map_append] at hrec
    generalize flL marks (w ++ [a]) ps = p at *
    obtain ⟨x, e⟩ := p
    dsimp only at hrec k1 k2 k3
    conv => whnf
    repeat' (first
    | (refine Br.tt ?_; conv => whnf)
    | (refine Br.ff ?_; conv => whnf)
    | (refine Both.mk ?_ ?_ <;> conv => whnf)
    | (refine Br.not ?_)
    | (refine Need.mk ?_ ?_; (focus ((first | omega | exact ⟨by omega, by omega⟩ | rfl | exact trivial | assumption | (simp only [List.length_map, List.length_append, List.length_take, List.length_drop, List.length_cons, List.length_nil, List.length_replicate, List.length_set, List.length_reverse, nds_len, numsD_length]; omega) | (simp only [List.length_map, List.length_append, List.length_take, List.length_drop, List.length_cons, List.length_nil, List.length_replicate, List.length_set, List.length_reverse, nds_len, numsD_length]; exact ⟨by omega, by omega⟩) | exact nds_each | (refine map_each ?_; intro x; rfl) | (refine first_map ?_; intro x; rfl) | exact first_nds | simp | (simp; omega)); done)); conv => whnf)
    | (refine Br.t (by assumption) ?_; conv => whnf)
    | (refine Br.f (by assumption) ?_; conv => whnf)
    | (refine Br.self ?_; conv => whnf)
    | (refine Br.decT (by assumption) ?_; conv => whnf)
    | (refine Br.decF (by assumption) ?_; conv => whnf)
    | (refine Br.eqT (by assumption) ?_; conv => whnf)
    | (refine Br.eqF (by assumption) ?_; conv => whnf)
    | (refine Br.dec (fun hc => ?_) (fun hc => ?_) <;> (try simp only [List.length_map, List.length_append, List.length_take, List.length_drop, List.length_cons, List.length_nil, List.length_replicate, List.length_set, List.length_reverse, nds_len, numsD_length] at hc) <;> first | (exfalso; omega) | exact absurd trivial hc | exact absurd rfl hc | conv => whnf)
    | (refine Br.eq (fun hc => ?_) (fun hc => ?_) <;> first | (exfalso; omega) | exact absurd trivial hc | exact absurd rfl hc | conv => whnf)
    | (refine Br.ne (fun hc => ?_) (fun hc => ?_) <;> first | (exfalso; omega) | exact absurd trivial hc | exact absurd rfl hc | conv => whnf)
    | (with_reducible refine Br.and ?_)
    | (with_reducible refine Br.or ?_)
    | (refine Br.any (fun hc => ?_) (fun hc => ?_) <;> conv => whnf)
    | (refine Fit.inl ?_ ?_; (focus ((first | omega | exact ⟨by omega, by omega⟩ | rfl | exact trivial | assumption | (simp only [List.length_map, List.length_append, List.length_take, List.length_drop, List.length_cons, List.length_nil, List.length_replicate, List.length_set, List.length_reverse, nds_len, numsD_length]; omega) | (simp only [List.length_map, List.length_append, List.length_take, List.length_drop, List.length_cons, List.length_nil, List.length_replicate, List.length_set, List.length_reverse, nds_len, numsD_length]; exact ⟨by omega, by omega⟩) | exact nds_each | (refine map_each ?_; intro x; rfl) | (refine first_map ?_; intro x; rfl) | exact first_nds | simp | (simp; omega)); done)); conv => whnf)
    | (refine Each.mapAt (by assumption) ?_; conv => whnf)
    | (refine Each.ndsAt (by assumption) ?_; conv => whnf)
    | (refine Each.at (by assumption) ?_; conv => whnf)
    | (refine Each.map (fun x hx => ?_); (try simp only [Int.toNat_natCast, Int.toNat_zero, Int.toNat_one, Int.toNat_natCast_add_one] at hx); conv => whnf)
    | (refine Each.nds (fun a b c ps hx => ?_); (try simp only [Int.toNat_natCast, Int.toNat_zero, Int.toNat_one, Int.toNat_natCast_add_one] at hx); conv => whnf)
    | (refine Each.rep ?_; conv => whnf)
    | (refine Each.drop ?_)
    | (refine Each.take (fun hi => ?_))
    | (refine Each.any (fun x hx => ?_); (try simp only [Int.toNat_natCast, Int.toNat_zero, Int.toNat_one, Int.toNat_natCast_add_one] at hx); conv => whnf)
    | (refine NilB.any (fun hn => ?_) ?_ <;> conv => whnf)
    | (refine CallWP.mono (oneOf_ marks _ (by omega)) ?_; rintro r h ⟨rfl, rfl⟩; conv => whnf)
    | (refine CallWP.mono (hrec) ?_; rintro r h ⟨rfl, rfl⟩; conv => whnf)
    | (refine ⟨_, bytesOfD_nums _, ?_⟩; conv => whnf)
    | (refine WP.sch (id := 8) tabOK hmix (.mob 0 (.mob 1 (.mob 3 (.alt [(2, .alt [(4, .alt [(5, .alt [(6, .alt [(7, .mob 8 (.done))])])])]), (4, .alt [(2, .alt [(5, .alt [(6, .alt [(7, .mob 8 (.done))])])])])])))) (by kernel_rfl) ?_; conv => whnf)
    | (refine WP.sch (id := 11) tabOK hmix (.mob 0 (.mob 1 (.mob 3 (.mob 5 (.alt [(2, .alt [(4, .alt [(6, .alt [(7, .alt [(8, .alt [(9, .mob 10 (.mob 11 (.mob 12 (.mob 13 (.mob 14 (.done))))))])])])]), (6, .alt [(4, .alt [(7, .alt [(8, .alt [(9, .mob 10 (.mob 11 (.mob 12 (.mob 13 (.mob 14 (.done))))))])])]), (7, .alt [(4, .alt [(8, .alt [(9, .mob 10 (.mob 11 (.mob 12 (.mob 13 (.mob 14 (.done))))))])])])])]), (4, .alt [(2, .alt [(6, .alt [(7, .alt [(8, .alt [(9, .mob 10 (.mob 11 (.mob 12 (.mob 13 (.mob 14 (.done))))))])])])]), (6, .alt [(2, .alt [(7, .alt [(8, .alt [(9, .mob 10 (.mob 11 (.mob 12 (.mob 13 (.mob 14 (.done))))))])])]), (7, .alt [(2, .alt [(8, .alt [(9, .mob 10 (.mob 11 (.mob 12 (.mob 13 (.mob 14 (.done))))))])]), (8, .alt [(2, .alt [(9, .mob 10 (.mob 11 (.mob 12 (.mob 13 (.mob 14 (.done))))))])])])])]), (6, .alt [(2, .alt [(4, .alt [(7, .alt [(8, .alt [(9, .mob 10 (.mob 11 (.mob 12 (.mob 13 (.mob 14 (.done))))))])])]), (7, .alt [(4, .alt [(8, .alt [(9, .mob 10 (.mob 11 (.mob 12 (.mob 13 (.mob 14 (.done))))))])])])]), (4, .alt [(2, .alt [(7, .alt [(8, .alt [(9, .mob 10 (.mob 11 (.mob 12 (.mob 13 (.mob 14 (.done))))))])])]), (7, .alt [(2, .alt [(8, .alt [(9, .mob 10 (.mob 11 (.mob 12 (.mob 13 (.mob 14 (.done))))))])]), (8, .alt [(2, .alt [(9, .mob 10 (.mob 11 (.mob 12 (.mob 13 (.mob 14 (.done))))))])])])]), (7, .alt [(2, .alt [(4, .alt [(8, .alt [(9, .mob 10 (.mob 11 (.mob 12 (.mob 13 (.mob 14 (.done))))))])])]), (4, .alt [(2, .alt [(8, .alt [(9, .mob 10 (.mob 11 (.mob 12 (.mob 13 (.mob 14 (.done))))))])]), (8, .alt [(2, .alt [(9, .mob 10 (.mob 11 (.mob 12 (.mob 13 (.mob 14 (.done))))))])])])])])]))))) (by kernel_rfl) ?_; conv => whnf)
    | exact ⟨rfl, rfl⟩
    | (refine Fin.bool ?_ rfl)
    | (refine Fin.int ?_ rfl)
    | (refine Fin.str ?_ rfl)
    | (refine Fin.sl ?_ rfl)
    | exact trivial)
    all_goals try (exact .inr ⟨_, rfl, rfl, leftM_stop hL hn (congrArg (·.2) hfe) (by assumption)⟩)
    all_goals
      have hfe' : flN marks w (.mk a b [] ps) = (x, 0) := by rw [hfe, hc]
      have hnx := leftM_next hL hn hfe'
      have hnl : (o ++ x).length ≤ szs (l.take (i + 1)) := by simp only [List.length_append]; omega
      refine ⟨(i + 1, o ++ x), ⟨by dsimp only; omega, hnl, hnx⟩, by dsimp only; omega, ?_⟩
      conv => whnf
      repeat (first | exact True.intro | (refine Need.mk ?_ ?_; (focus ((first | rfl | assumption | omega | (simp only [List.length_map, List.length_append, List.length_take, List.length_drop, List.length_cons, List.length_nil, List.length_replicate, List.length_set, List.length_reverse, nds_len, numsD_length]; omega) | simp); done)); conv => whnf) | ((conv => whnf); exact True.intro))
end Go.VL.MarksFlat
