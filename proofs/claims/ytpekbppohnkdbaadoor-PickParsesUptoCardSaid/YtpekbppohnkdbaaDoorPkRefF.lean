/- bobbinetref.PickParse walked. -/
import Derived.Test.YtpekbppohnkdbaaDoorPkRef
set_option linter.unusedVariables false
set_option linter.unusedSimpArgs false
namespace Go.VL.PkRef
open Go Go.Proofs Go.VL Go.VL.Name Go.VL.PickText
set_option maxRecDepth 100000
attribute [local irreducible] CallWP WP Need Br Each NilB fit Both nmW atB nx stI refP Inv nameB chk
def RQ (s : Str) (r : T) (h : Hp) : Prop := (∃ l, r = .tup [.full 0, (.d (.int .i64 (0)))] ∧ h = [(0, .row 32 (l.map Pick.d))] ∧ refP s = (l, 0)) ∨ (∃ e, r = .tup [.nils, (.d (.int .i64 (e)))] ∧ h = [] ∧ refP s = ([], e))
def stJ (s : Str) (f : Bool) (i : Nat) := stI s f i
theorem stE {s : Str} {i : Nat} {o : List Pick} (_ : Inv s i o) : stJ s o.isEmpty i = stI s o.isEmpty i := rfl
attribute [local irreducible] stJ
theorem stU {s : Str} {f : Bool} {i : Nat} {o : List Pick} {x : Option (Pick × Nat)} (he : o.isEmpty = f) (h : stJ s f i = x) : stI s o.isEmpty i = x := by unfold stJ at h; rw [he]; exact h
set_option maxHeartbeats 8000000 in
theorem parseR (s : Str) (hs : s.length ≤ 600) : CallWP Tryd.prog 5 [(.d (.str (s)))] [] (RQ s) := by
  (refine CallWP.go tabOK Tryd.func5 0 64 rfl rfl rfl rfl ?_; conv => whnf)
  repeat' (first
    | (refine Br.tt ?_; conv => whnf)
    | (refine Br.ff ?_; conv => whnf)
    | (refine Both.mk ?_ ?_ <;> conv => whnf)
    | (refine Br.not ?_)
    | (refine Need.mk ?_ ?_; (focus ((first | omega | exact ⟨by omega, by omega⟩ | rfl | exact trivial | assumption | (simp only [List.length_map, List.length_append, List.length_take, List.length_drop, List.length_cons, List.length_nil, List.length_replicate, List.length_set, List.length_reverse, nds_len, numsD_length]; omega) | (simp only [List.length_map, List.length_append, List.length_take, List.length_drop, List.length_cons, List.length_nil, List.length_replicate, List.length_set, List.length_reverse, nds_len, numsD_length]; exact ⟨by omega, by omega⟩) | exact nds_each | (refine map_each ?_; intro x; rfl) | (refine first_map ?_; intro x; rfl) | exact first_nds | simp | (simp; omega)); done)); conv => whnf)
    | (refine Br.t (by assumption) ?_; conv => whnf)
    | (refine Br.f (by assumption) ?_; conv => whnf)
    | (refine Br.self ?_; conv => whnf)
    | (refine Br.decT (by assumption) ?_; conv => whnf)
    | (refine Br.decF (by assumption) ?_; conv => whnf)
    | (refine Br.eqT (by assumption) ?_; conv => whnf)
    | (refine Br.eqF (by assumption) ?_; conv => whnf)
    | (refine Br.dec (fun hc => ?_) (fun hc => ?_) <;> (try simp only [List.length_map, List.length_append, List.length_take, List.length_drop, List.length_cons, List.length_nil, List.length_replicate, List.length_set, List.length_reverse, nds_len, numsD_length] at hc) <;> first | (exfalso; omega) | exact absurd trivial hc | exact absurd rfl hc | conv => whnf)
    | (refine Br.eq (fun hc => ?_) (fun hc => ?_) <;> first | (exfalso; omega) | exact absurd trivial hc | exact absurd rfl hc | conv => whnf)
    | (refine Br.ne (fun hc => ?_) (fun hc => ?_) <;> first | (exfalso; omega) | exact absurd trivial hc | exact absurd rfl hc | conv => whnf)
    | (with_reducible refine Br.and ?_)
    | (with_reducible refine Br.or ?_)
    | (refine Br.any (fun hc => ?_) (fun hc => ?_) <;> conv => whnf)
    | (refine Fit.inl ?_ ?_; (focus ((first | omega | exact ⟨by omega, by omega⟩ | rfl | exact trivial | assumption | (simp only [List.length_map, List.length_append, List.length_take, List.length_drop, List.length_cons, List.length_nil, List.length_replicate, List.length_set, List.length_reverse, nds_len, numsD_length]; omega) | (simp only [List.length_map, List.length_append, List.length_take, List.length_drop, List.length_cons, List.length_nil, List.length_replicate, List.length_set, List.length_reverse, nds_len, numsD_length]; exact ⟨by omega, by omega⟩) | exact nds_each | (refine map_each ?_; intro x; rfl) | (refine first_map ?_; intro x; rfl) | exact first_nds | simp | (simp; omega)); done)); conv => whnf)
    | (refine Each.mapAt (by assumption) ?_; conv => whnf)
    | (refine Each.ndsAt (by assumption) ?_; conv => whnf)
    | (refine Each.at (by assumption) ?_; conv => whnf)
    | (refine Each.map (fun x hx => ?_); (try simp only [Int.toNat_natCast, Int.toNat_zero, Int.toNat_one, Int.toNat_natCast_add_one] at hx); conv => whnf)
    | (refine Each.nds (fun a b c ps hx => ?_); (try simp only [Int.toNat_natCast, Int.toNat_zero, Int.toNat_one, Int.toNat_natCast_add_one] at hx); conv => whnf)
    | (refine Each.rep ?_; conv => whnf)
    | (refine Each.drop ?_)
    | (refine Each.take (fun hi => ?_))
    | (refine Each.any (fun x hx => ?_); (try simp only [Int.toNat_natCast, Int.toNat_zero, Int.toNat_one, Int.toNat_natCast_add_one] at hx); conv => whnf)
    | (refine NilB.any (fun hn => ?_) ?_ <;> conv => whnf)
    | (refine ⟨_, bytesOfD_nums _, ?_⟩; conv => whnf)
    | exact ⟨rfl, rfl⟩
    | (refine Fin.bool ?_ rfl)
    | (refine Fin.int ?_ rfl)
    | (refine Fin.str ?_ rfl)
    | (refine Fin.sl ?_ rfl)
    | exact trivial)
  refine WP.loop (α := (Nat × List Pick)) tabOK (fun ⟨i, o⟩ => Inv s i o) (fun ⟨i, o⟩ => ⟨[(0, (.d (.str (s)))), (4, .ref 0 0 0), (5, .full 1)], [(0, .var 41 [(.d (.str (s))), (.d (.int .i64 (i))), (.d (.bool (false)))]), (1, .row 32 (o.map Pick.d))], 2, 64⟩) (fun ⟨i, o⟩ => s.length - i) ((0, [])) ?_ ?_ ?_
  · exact inv_0 s
  · conv => whnf
    repeat (first | exact True.intro | (refine Need.mk ?_ ?_; (focus ((first | rfl | assumption | omega | (simp only [List.length_map, List.length_append, List.length_take, List.length_drop, List.length_cons, List.length_nil, List.length_replicate, List.length_set, List.length_reverse, nds_len, numsD_length]; omega) | simp); done)); conv => whnf) | ((conv => whnf); exact True.intro))
  rintro ⟨i, o⟩ hinv
  obtain ⟨hi, hol, hon⟩ : i ≤ s.length ∧ o.length ≤ 600 ∧ ∀ p ∈ o, p.name.length ≤ 600 ∧ p.attr.length ≤ 600 := by
    unfold Inv at hinv
    exact ⟨hinv.2.1, by have := hinv.2.2.1; have := hinv.2.1; omega, fun p hp => by have := hinv.1 p hp; omega⟩
  have hinv : Inv s i o := hinv
  have hcs : (o = [] ∧ o.isEmpty = true) ∨ (0 < o.length ∧ o.isEmpty = false) := by
    cases o with
    | nil => exact .inl ⟨rfl, rfl⟩
    | cons p o => exact .inr ⟨by simp, rfl⟩
  rcases hcs with ⟨rfl, he⟩ | ⟨hpos, he⟩
  all_goals
    conv => whnf
    repeat' (first
    | (refine Br.tt ?_; conv => whnf)
    | (refine Br.ff ?_; conv => whnf)
    | (refine Both.mk ?_ ?_ <;> conv => whnf)
    | (refine Br.not ?_)
    | (refine Need.mk ?_ ?_; (focus ((first | omega | exact ⟨by omega, by omega⟩ | rfl | exact trivial | assumption | (simp only [List.length_map, List.length_append, List.length_take, List.length_drop, List.length_cons, List.length_nil, List.length_replicate, List.length_set, List.length_reverse, nds_len, numsD_length]; omega) | (simp only [List.length_map, List.length_append, List.length_take, List.length_drop, List.length_cons, List.length_nil, List.length_replicate, List.length_set, List.length_reverse, nds_len, numsD_length]; exact ⟨by omega, by omega⟩) | exact nds_each | (refine map_each ?_; intro x; rfl) | (refine first_map ?_; intro x; rfl) | exact first_nds | simp | (simp; omega)); done)); conv => whnf)
    | (refine Br.t (by assumption) ?_; conv => whnf)
    | (refine Br.f (by assumption) ?_; conv => whnf)
    | (refine Br.self ?_; conv => whnf)
    | (refine Br.decT (by assumption) ?_; conv => whnf)
    | (refine Br.decF (by assumption) ?_; conv => whnf)
    | (refine Br.eqT (by assumption) ?_; conv => whnf)
    | (refine Br.eqF (by assumption) ?_; conv => whnf)
    | (refine Br.dec (fun hc => ?_) (fun hc => ?_) <;> (try simp only [List.length_map, List.length_append, List.length_take, List.length_drop, List.length_cons, List.length_nil, List.length_replicate, List.length_set, List.length_reverse, nds_len, numsD_length] at hc) <;> first | (exfalso; omega) | exact absurd trivial hc | exact absurd rfl hc | conv => whnf)
    | (refine Br.eq (fun hc => ?_) (fun hc => ?_) <;> first | (exfalso; omega) | exact absurd trivial hc | exact absurd rfl hc | conv => whnf)
    | (refine Br.ne (fun hc => ?_) (fun hc => ?_) <;> first | (exfalso; omega) | exact absurd trivial hc | exact absurd rfl hc | conv => whnf)
    | (with_reducible refine Br.and ?_)
    | (with_reducible refine Br.or ?_)
    | (refine Br.any (fun hc => ?_) (fun hc => ?_) <;> conv => whnf)
    | (refine Fit.inl ?_ ?_; (focus ((first | omega | exact ⟨by omega, by omega⟩ | rfl | exact trivial | assumption | (simp only [List.length_map, List.length_append, List.length_take, List.length_drop, List.length_cons, List.length_nil, List.length_replicate, List.length_set, List.length_reverse, nds_len, numsD_length]; omega) | (simp only [List.length_map, List.length_append, List.length_take, List.length_drop, List.length_cons, List.length_nil, List.length_replicate, List.length_set, List.length_reverse, nds_len, numsD_length]; exact ⟨by omega, by omega⟩) | exact nds_each | (refine map_each ?_; intro x; rfl) | (refine first_map ?_; intro x; rfl) | exact first_nds | simp | (simp; omega)); done)); conv => whnf)
    | (refine Each.mapAt (by assumption) ?_; conv => whnf)
    | (refine Each.ndsAt (by assumption) ?_; conv => whnf)
    | (refine Each.at (by assumption) ?_; conv => whnf)
    | (refine Each.map (fun x hx => ?_); (try simp only [Int.toNat_natCast, Int.toNat_zero, Int.toNat_one, Int.toNat_natCast_add_one] at hx); conv => whnf)
    | (refine Each.nds (fun a b c ps hx => ?_); (try simp only [Int.toNat_natCast, Int.toNat_zero, Int.toNat_one, Int.toNat_natCast_add_one] at hx); conv => whnf)
    | (refine Each.rep ?_; conv => whnf)
    | (refine Each.drop ?_)
    | (refine Each.take (fun hi => ?_))
    | (refine Each.any (fun x hx => ?_); (try simp only [Int.toNat_natCast, Int.toNat_zero, Int.toNat_one, Int.toNat_natCast_add_one] at hx); conv => whnf)
    | (refine NilB.any (fun hn => ?_) ?_ <;> conv => whnf)
    | (refine CallWP.mono (eatN s [62, 32] _ (by omega) (by repeat (first | assumption | refine nx_le (by simp) ?_ | refine nm_le ?_)) (by simp) (by simp)) ?_; rintro r h ⟨rfl, rfl⟩; conv => whnf)
    | (refine CallWP.mono (eatN s [42] _ (by omega) (by repeat (first | assumption | refine nx_le (by simp) ?_ | refine nm_le ?_)) (by simp) (by simp)) ?_; rintro r h ⟨rfl, rfl⟩; conv => whnf)
    | (refine CallWP.mono (eatN s [91] _ (by omega) (by repeat (first | assumption | refine nx_le (by simp) ?_ | refine nm_le ?_)) (by simp) (by simp)) ?_; rintro r h ⟨rfl, rfl⟩; conv => whnf)
    | (refine CallWP.mono (eatN s [93] _ (by omega) (by repeat (first | assumption | refine nx_le (by simp) ?_ | refine nm_le ?_)) (by simp) (by simp)) ?_; rintro r h ⟨rfl, rfl⟩; conv => whnf)
    | (refine CallWP.mono (eatN s [32] _ (by omega) (by repeat (first | assumption | refine nx_le (by simp) ?_ | refine nm_le ?_)) (by simp) (by simp)) ?_; rintro r h ⟨rfl, rfl⟩; conv => whnf)
    | (refine CallWP.mono (nmR s _ (by omega) (by repeat (first | assumption | refine nx_le (by simp) ?_ | refine nm_le ?_))) ?_; rintro r h ⟨rfl, rfl⟩; conv => whnf)
    | (refine CallWP.mono (nameR _ (Nat.lt_of_le_of_lt nm_len (by omega))) ?_; rintro r h ⟨rfl, rfl⟩; conv => whnf)
    | (refine CallWP.mono (chkE hol hon (by first | (simp; done) | exact Nat.le_trans nm_len hs) (by first | (simp; done) | exact Nat.le_trans nm_len hs)) ?_; rintro r h ⟨rfl, rfl⟩; conv => whnf)
    | (refine ⟨_, bytesOfD_nums _, ?_⟩; conv => whnf)
    | exact ⟨rfl, rfl⟩
    | (refine Fin.bool ?_ rfl)
    | (refine Fin.int ?_ rfl)
    | (refine Fin.str ?_ rfl)
    | (refine Fin.sl ?_ rfl)
    | exact trivial)
  all_goals
    have hst := stE hinv
    rw [he] at hst
    simp [stI, hdI, nmI, arI, *] at hst
    replace hst := stU he hst
  all_goals try (exact .inr ⟨4, rfl, rfl, inv_err hs hinv hst⟩)
  all_goals try (exact .inr ⟨4, rfl, rfl, inv_err2 hs hinv hst (by omega) (by assumption)⟩)
  all_goals try (exact .inr ⟨4, rfl, rfl, (inv_end hs hinv hst (by omega)).trans (if_neg (by assumption))⟩)
  all_goals try (refine .inl ⟨_, rfl, ?_, (inv_end hs hinv hst (by omega)).trans (if_pos (by assumption))⟩; exact congrArg (fun x => [((0 : Nat), Ob.row 32 x)]) (by simp [Pick.d]))
  all_goals try (
    obtain ⟨h1, h2⟩ := inv_next hinv hst (by assumption)
    refine ⟨(_, _), h1, h2, ?_⟩
    clear hst h1 h2 hinv
    conv => whnf
    repeat (first | exact True.intro | (refine Need.mk ?_ ?_; (focus ((first | rfl | assumption | omega | (simp only [List.length_map, List.length_append, List.length_take, List.length_drop, List.length_cons, List.length_nil, List.length_replicate, List.length_set, List.length_reverse, nds_len, numsD_length]; omega) | simp [Pick.d]); done)); conv => whnf) | ((conv => whnf); exact True.intro))
    done)
end Go.VL.PkRef
