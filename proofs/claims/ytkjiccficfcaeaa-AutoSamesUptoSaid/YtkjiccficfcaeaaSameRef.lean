/- bobbinetref.AutoSame, walked. -/
import Derived.Test.YtkjiccficfcaeaaSameR
set_option linter.unusedVariables false
set_option linter.unusedSimpArgs false
namespace Go.VL.SameRef
open Go Go.Proofs Go.VL Go.VL.May Go.VL.DistP Go.VL.SameR
--LEN mix_len, bn_len, bf_len, tot_len, totF_len, tbl_len, rowB_len
set_option maxRecDepth 100000
attribute [local irreducible] CallWP WP Need Br Each NilB fit Both
theorem tot_len (l : List (List Int)) : (tot l).length = l.length + 1 := by simp [tot]
theorem totF_len (l : List Bool) : (totF l).length = l.length + 1 := by simp [totF]
def shift (n x : Int) : Int := x + n
def bn (la lb : List (List Int)) (i : Nat) : List (List Int) := tot la ++ ((tot lb).take i).map (fun r => r.map (shift ((la.length + 1 : Nat) : Int)))
def bf (ba bb : List Bool) (i : Nat) : List Bool := totF ba ++ (totF bb).take i
theorem bn_len (la lb : List (List Int)) (i : Nat) : (bn la lb i).length = la.length + 1 + min i (lb.length + 1) := by simp [bn, tot_len]
theorem bf_len (ba bb : List Bool) (i : Nat) : (bf ba bb i).length = ba.length + 1 + min i (bb.length + 1) := by simp [bf, totF_len]
theorem bn_next {la lb : List (List Int)} {i : Nat} {r : List Int} (h : (tot lb)[i]? = some r) : bn la lb (i + 1) = bn la lb i ++ [r.map (shift ((la.length + 1 : Nat) : Int))] := by simp [bn, List.take_add_one, h]
theorem bf_next {ba bb : List Bool} {i : Nat} {x : Bool} (h : (totF bb)[i]? = some x) : bf ba bb (i + 1) = bf ba bb i ++ [x] := by simp [bf, List.take_add_one, h]
theorem tot_row {l : List (List Int)} (h8 : ∀ r ∈ l, r.length = 8 ∧ ∀ x ∈ r, -1 ≤ x ∧ x < (l.length : Int)) : ∀ r ∈ tot l, r.length = 8 ∧ ∀ x ∈ r, 0 ≤ x ∧ x ≤ (l.length : Int) := by
  intro r hr
  rcases List.mem_append.1 hr with hr | hr
  · obtain ⟨s, hs, rfl⟩ := List.mem_map.1 hr
    obtain ⟨h1, h2⟩ := h8 s hs
    refine ⟨by simpa using h1, fun x hx => ?_⟩
    obtain ⟨y, hy, rfl⟩ := List.mem_map.1 hx
    have := h2 y hy
    unfold tx
    split <;> omega
  · simp at hr; subst hr
    refine ⟨by simp, fun x hx => ?_⟩
    simp at hx; omega
attribute [local irreducible] tot totF bn bf
noncomputable def sameN (la lb : List (List Int)) (ba bb : List Bool) : Bool := @decide (SameW (dN (bn la lb (lb.length + 1))) (dN (bn la lb (lb.length + 1))) (fN (bf ba bb (lb.length + 1))) (fN (bf ba bb (lb.length + 1))) 0 (la.length + 1)) (Classical.propDecidable _)
noncomputable def sameR (la lb : List (List Int)) (ba bb : List Bool) : Bool × Int := if may la ba = true ∧ may lb bb = true then (sameN la lb ba bb, 0) else (false, 4)
theorem may_row {l : List (List Int)} {b : List Bool} (h : may l b = true) : 1 ≤ l.length ∧ l.length ≤ 40 ∧ b.length = l.length ∧ ∀ row ∈ l, row.length = 8 ∧ ∀ x ∈ row, -1 ≤ x ∧ x < (l.length : Int) := by
  simp only [may, Bool.and_eq_true, decide_eq_true_eq, Bool.not_eq_true', List.any_eq_false] at h
  obtain ⟨⟨⟨h1, h2⟩, h3⟩, h4⟩ := h
  refine ⟨h1, h2, h3, fun row hr => ?_⟩
  have := h4 row hr
  simp only [oddRow, Bool.or_eq_true, Bool.not_eq_true', decide_eq_false_iff_not, List.any_eq_true, odd, decide_eq_true_eq, not_or, not_exists, not_and, Decidable.not_not] at this
  exact ⟨this.1, fun x hx => by have := this.2 x hx; omega⟩
theorem bn_row {la lb : List (List Int)} (ha : ∀ r ∈ tot la, r.length = 8 ∧ ∀ x ∈ r, 0 ≤ x ∧ x ≤ (la.length : Int)) (hb : ∀ r ∈ tot lb, r.length = 8 ∧ ∀ x ∈ r, 0 ≤ x ∧ x ≤ (lb.length : Int)) : ∀ r ∈ bn la lb (lb.length + 1), r.length = 8 ∧ ∀ x ∈ r, 0 ≤ x ∧ x < ((bn la lb (lb.length + 1)).length : Int) := by
  rw [bn_len]
  intro r hr
  unfold bn at hr
  rcases List.mem_append.1 hr with hr | hr
  · obtain ⟨h1, h2⟩ := ha r hr
    exact ⟨h1, fun x hx => by have := h2 x hx; omega⟩
  · obtain ⟨s, hs, rfl⟩ := List.mem_map.1 hr
    obtain ⟨h1, h2⟩ := hb s (List.mem_of_mem_take hs)
    refine ⟨by simpa using h1, fun x hx => ?_⟩
    obtain ⟨y, hy, rfl⟩ := List.mem_map.1 hx
    have := h2 y hy
    unfold shift
    omega
theorem tbl_len (n : Nat) (T : Nat → Nat → Bool) : (tbl n T).length = n := by simp [tbl]
theorem rowB_len (n : Nat) (T : Nat → Nat → Bool) (i : Nat) : (rowB n T i).length = n := by simp [rowB]
theorem tbl_at {n : Nat} {T : Nat → Nat → Bool} {i : Nat} (h : i < n) : (tbl n T)[i]? = some (rowB n T i) := by simp [tbl, h]
theorem shift0 {n : Int} {r : List Int} : mix (shift n) 0 r = r := by simp [mix]
set_option maxHeartbeats 4000000 in
theorem sameRC (la lb : List (List Int)) (ba bb : List Bool) (hl1 : ∀ r ∈ la, r.length < 2 ^ 62) (hl2 : ∀ r ∈ lb, r.length < 2 ^ 62) :
    CallWP Try.prog 5 [.agg [.d (.sl (la.map iL)), .d (.sl (ba.map iB))], .agg [.d (.sl (lb.map iL)), .d (.sl (bb.map iB))]] [] (fun r h => r = .tup [(.d (.bool ((sameR la lb ba bb).1))), (.d (.int .i64 ((sameR la lb ba bb).2)))] ∧ h = []) := by
  by_cases ha : may la ba = true
  case neg =>
    have e : sameR la lb ba bb = (false, 4) := by rw [sameR, if_neg (fun h => ha h.1)]
    have ha : may la ba = false := by simpa using ha
    rw [e]
    (refine CallWP.go tabOK Try.func5 0 84 rfl rfl rfl rfl ?_; conv => whnf)
    repeat' (first
    | (refine Br.tt ?_; conv => whnf)
    | (refine Br.ff ?_; conv => whnf)
    | (refine Both.mk ?_ ?_ <;> conv => whnf)
    | (refine Br.not ?_)
    | (refine Need.mk ?_ ?_; (focus ((first | omega | exact ⟨by omega, by omega⟩ | rfl | exact trivial | assumption | (simp only [List.length_map, List.length_append, List.length_take, List.length_drop, List.length_cons, List.length_nil, List.length_replicate, List.length_set, List.length_reverse, nds_len, numsD_length, mix_len, bn_len, bf_len, tot_len, totF_len, tbl_len, rowB_len]; omega) | (simp only [List.length_map, List.length_append, List.length_take, List.length_drop, List.length_cons, List.length_nil, List.length_replicate, List.length_set, List.length_reverse, nds_len, numsD_length, mix_len, bn_len, bf_len, tot_len, totF_len, tbl_len, rowB_len]; exact ⟨by omega, by omega⟩) | exact nds_each | (refine map_each ?_; intro x; rfl) | (refine first_map ?_; intro x; rfl) | exact first_nds | simp | (simp; omega)); done)); conv => whnf)
    | (refine Br.t (by assumption) ?_; conv => whnf)
    | (refine Br.f (by assumption) ?_; conv => whnf)
    | (refine Br.self ?_; conv => whnf)
    | (refine Br.decT (by assumption) ?_; conv => whnf)
    | (refine Br.decF (by assumption) ?_; conv => whnf)
    | (refine Br.eqT (by assumption) ?_; conv => whnf)
    | (refine Br.eqF (by assumption) ?_; conv => whnf)
    | (refine Br.dec (fun hc => ?_) (fun hc => ?_) <;> (try simp only [List.length_map, List.length_append, List.length_take, List.length_drop, List.length_cons, List.length_nil, List.length_replicate, List.length_set, List.length_reverse, nds_len, numsD_length, mix_len, bn_len, bf_len, tot_len, totF_len, tbl_len, rowB_len] at hc) <;> first | (exfalso; omega) | exact absurd trivial hc | exact absurd rfl hc | conv => whnf)
    | (refine Br.eq (fun hc => ?_) (fun hc => ?_) <;> first | (exfalso; omega) | exact absurd trivial hc | exact absurd rfl hc | conv => whnf)
    | (refine Br.ne (fun hc => ?_) (fun hc => ?_) <;> first | (exfalso; omega) | exact absurd trivial hc | exact absurd rfl hc | conv => whnf)
    | (with_reducible refine Br.and ?_)
    | (with_reducible refine Br.or ?_)
    | (refine Br.any (fun hc => ?_) (fun hc => ?_) <;> conv => whnf)
    | (refine Fit.inl ?_ ?_; (focus ((first | omega | exact ⟨by omega, by omega⟩ | rfl | exact trivial | assumption | (simp only [List.length_map, List.length_append, List.length_take, List.length_drop, List.length_cons, List.length_nil, List.length_replicate, List.length_set, List.length_reverse, nds_len, numsD_length, mix_len, bn_len, bf_len, tot_len, totF_len, tbl_len, rowB_len]; omega) | (simp only [List.length_map, List.length_append, List.length_take, List.length_drop, List.length_cons, List.length_nil, List.length_replicate, List.length_set, List.length_reverse, nds_len, numsD_length, mix_len, bn_len, bf_len, tot_len, totF_len, tbl_len, rowB_len]; exact ⟨by omega, by omega⟩) | exact nds_each | (refine map_each ?_; intro x; rfl) | (refine first_map ?_; intro x; rfl) | exact first_nds | simp | (simp; omega)); done)); conv => whnf)
    | (refine Each.mapAt (by assumption) ?_; conv => whnf)
    | (refine Each.ndsAt (by assumption) ?_; conv => whnf)
    | (refine Each.at (by assumption) ?_; conv => whnf)
    | (refine Each.map (fun x hx => ?_); (try simp only [Int.toNat_natCast, Int.toNat_zero, Int.toNat_one, Int.toNat_natCast_add_one] at hx); conv => whnf)
    | (refine Each.nds (fun a b c ps hx => ?_); (try simp only [Int.toNat_natCast, Int.toNat_zero, Int.toNat_one, Int.toNat_natCast_add_one] at hx); conv => whnf)
    | (refine Each.rep ?_; conv => whnf)
    | (refine Each.drop ?_)
    | (refine Each.take (fun hi => ?_))
    | (refine Each.any (fun x hx => ?_); (try simp only [Int.toNat_natCast, Int.toNat_zero, Int.toNat_one, Int.toNat_natCast_add_one] at hx); conv => whnf)
    | (refine NilB.any (fun hn => ?_) ?_ <;> conv => whnf)
    | (refine CallWP.mono (mayR la ba hl1) ?_; rintro r h ⟨rfl, rfl⟩; conv => whnf)
    | (refine ⟨_, bytesOfD_nums _, ?_⟩; conv => whnf)
    | (refine WP.sch (id := 6) tabOK hmix (.mob 0 (.mob 3 (.alt [(1, .alt [(2, .alt [(4, .alt [(5, .alt [(6, .alt [(7, .alt [(8, .done)])]), (7, .alt [(6, .alt [(8, .done)])])]), (7, .alt [(5, .alt [(6, .alt [(8, .done)])])])]), (7, .alt [(4, .alt [(5, .alt [(6, .alt [(8, .done)])])])])]), (4, .alt [(2, .alt [(5, .alt [(6, .alt [(7, .alt [(8, .done)])]), (7, .alt [(6, .alt [(8, .done)])])]), (7, .alt [(5, .alt [(6, .alt [(8, .done)])])])]), (7, .alt [(2, .alt [(5, .alt [(6, .alt [(8, .done)])])])])]), (7, .alt [(2, .alt [(4, .alt [(5, .alt [(6, .alt [(8, .done)])])])]), (4, .alt [(2, .alt [(5, .alt [(6, .alt [(8, .done)])])])])])]), (4, .alt [(1, .alt [(2, .alt [(5, .alt [(6, .alt [(7, .alt [(8, .done)])]), (7, .alt [(6, .alt [(8, .done)])])]), (7, .alt [(5, .alt [(6, .alt [(8, .done)])])])]), (7, .alt [(2, .alt [(5, .alt [(6, .alt [(8, .done)])])])])]), (7, .alt [(1, .alt [(2, .alt [(5, .alt [(6, .alt [(8, .done)])])])])])]), (7, .alt [(1, .alt [(2, .alt [(4, .alt [(5, .alt [(6, .alt [(8, .done)])])])]), (4, .alt [(2, .alt [(5, .alt [(6, .alt [(8, .done)])])])])]), (4, .alt [(1, .alt [(2, .alt [(5, .alt [(6, .alt [(8, .done)])])])])])])]))) (by kernel_rfl) ?_; conv => whnf)
    | (refine WP.sch (id := 17) tabOK hmix (.mob 0 (.mob 2 (.mob 4 (.alt [(1, .alt [(3, .mob 5 (.mob 6 (.alt [(7, .alt [(8, .mob 9 (.alt [(10, .done)]))])])))]), (3, .mob 5 (.mob 6 (.alt [(1, .alt [(7, .alt [(8, .mob 9 (.alt [(10, .done)]))])]), (7, .alt [(1, .alt [(8, .mob 9 (.alt [(10, .done)]))])])])))])))) (by kernel_rfl) ?_; conv => whnf)
    | exact ⟨rfl, rfl⟩
    | (refine Fin.bool ?_ rfl)
    | (refine Fin.int ?_ rfl)
    | (refine Fin.str ?_ rfl)
    | (refine Fin.sl ?_ rfl)
    | exact trivial)
  by_cases hb : may lb bb = true
  case neg =>
    have e : sameR la lb ba bb = (false, 4) := by rw [sameR, if_neg (fun h => hb h.2)]
    have hb : may lb bb = false := by simpa using hb
    rw [e]
    (refine CallWP.go tabOK Try.func5 0 84 rfl rfl rfl rfl ?_; conv => whnf)
    repeat' (first
    | (refine Br.tt ?_; conv => whnf)
    | (refine Br.ff ?_; conv => whnf)
    | (refine Both.mk ?_ ?_ <;> conv => whnf)
    | (refine Br.not ?_)
    | (refine Need.mk ?_ ?_; (focus ((first | omega | exact ⟨by omega, by omega⟩ | rfl | exact trivial | assumption | (simp only [List.length_map, List.length_append, List.length_take, List.length_drop, List.length_cons, List.length_nil, List.length_replicate, List.length_set, List.length_reverse, nds_len, numsD_length, mix_len, bn_len, bf_len, tot_len, totF_len, tbl_len, rowB_len]; omega) | (simp only [List.length_map, List.length_append, List.length_take, List.length_drop, List.length_cons, List.length_nil, List.length_replicate, List.length_set, List.length_reverse, nds_len, numsD_length, mix_len, bn_len, bf_len, tot_len, totF_len, tbl_len, rowB_len]; exact ⟨by omega, by omega⟩) | exact nds_each | (refine map_each ?_; intro x; rfl) | (refine first_map ?_; intro x; rfl) | exact first_nds | simp | (simp; omega)); done)); conv => whnf)
    | (refine Br.t (by assumption) ?_; conv => whnf)
    | (refine Br.f (by assumption) ?_; conv => whnf)
    | (refine Br.self ?_; conv => whnf)
    | (refine Br.decT (by assumption) ?_; conv => whnf)
    | (refine Br.decF (by assumption) ?_; conv => whnf)
    | (refine Br.eqT (by assumption) ?_; conv => whnf)
    | (refine Br.eqF (by assumption) ?_; conv => whnf)
    | (refine Br.dec (fun hc => ?_) (fun hc => ?_) <;> (try simp only [List.length_map, List.length_append, List.length_take, List.length_drop, List.length_cons, List.length_nil, List.length_replicate, List.length_set, List.length_reverse, nds_len, numsD_length, mix_len, bn_len, bf_len, tot_len, totF_len, tbl_len, rowB_len] at hc) <;> first | (exfalso; omega) | exact absurd trivial hc | exact absurd rfl hc | conv => whnf)
    | (refine Br.eq (fun hc => ?_) (fun hc => ?_) <;> first | (exfalso; omega) | exact absurd trivial hc | exact absurd rfl hc | conv => whnf)
    | (refine Br.ne (fun hc => ?_) (fun hc => ?_) <;> first | (exfalso; omega) | exact absurd trivial hc | exact absurd rfl hc | conv => whnf)
    | (with_reducible refine Br.and ?_)
    | (with_reducible refine Br.or ?_)
    | (refine Br.any (fun hc => ?_) (fun hc => ?_) <;> conv => whnf)
    | (refine Fit.inl ?_ ?_; (focus ((first | omega | exact ⟨by omega, by omega⟩ | rfl | exact trivial | assumption | (simp only [List.length_map, List.length_append, List.length_take, List.length_drop, List.length_cons, List.length_nil, List.length_replicate, List.length_set, List.length_reverse, nds_len, numsD_length, mix_len, bn_len, bf_len, tot_len, totF_len, tbl_len, rowB_len]; omega) | (simp only [List.length_map, List.length_append, List.length_take, List.length_drop, List.length_cons, List.length_nil, List.length_replicate, List.length_set, List.length_reverse, nds_len, numsD_length, mix_len, bn_len, bf_len, tot_len, totF_len, tbl_len, rowB_len]; exact ⟨by omega, by omega⟩) | exact nds_each | (refine map_each ?_; intro x; rfl) | (refine first_map ?_; intro x; rfl) | exact first_nds | simp | (simp; omega)); done)); conv => whnf)
    | (refine Each.mapAt (by assumption) ?_; conv => whnf)
    | (refine Each.ndsAt (by assumption) ?_; conv => whnf)
    | (refine Each.at (by assumption) ?_; conv => whnf)
    | (refine Each.map (fun x hx => ?_); (try simp only [Int.toNat_natCast, Int.toNat_zero, Int.toNat_one, Int.toNat_natCast_add_one] at hx); conv => whnf)
    | (refine Each.nds (fun a b c ps hx => ?_); (try simp only [Int.toNat_natCast, Int.toNat_zero, Int.toNat_one, Int.toNat_natCast_add_one] at hx); conv => whnf)
    | (refine Each.rep ?_; conv => whnf)
    | (refine Each.drop ?_)
    | (refine Each.take (fun hi => ?_))
    | (refine Each.any (fun x hx => ?_); (try simp only [Int.toNat_natCast, Int.toNat_zero, Int.toNat_one, Int.toNat_natCast_add_one] at hx); conv => whnf)
    | (refine NilB.any (fun hn => ?_) ?_ <;> conv => whnf)
    | (refine CallWP.mono (mayR la ba hl1) ?_; rintro r h ⟨rfl, rfl⟩; conv => whnf)
    | (refine CallWP.mono (mayR lb bb hl2) ?_; rintro r h ⟨rfl, rfl⟩; conv => whnf)
    | (refine ⟨_, bytesOfD_nums _, ?_⟩; conv => whnf)
    | (refine WP.sch (id := 6) tabOK hmix (.mob 0 (.mob 3 (.alt [(1, .alt [(2, .alt [(4, .alt [(5, .alt [(6, .alt [(7, .alt [(8, .done)])]), (7, .alt [(6, .alt [(8, .done)])])]), (7, .alt [(5, .alt [(6, .alt [(8, .done)])])])]), (7, .alt [(4, .alt [(5, .alt [(6, .alt [(8, .done)])])])])]), (4, .alt [(2, .alt [(5, .alt [(6, .alt [(7, .alt [(8, .done)])]), (7, .alt [(6, .alt [(8, .done)])])]), (7, .alt [(5, .alt [(6, .alt [(8, .done)])])])]), (7, .alt [(2, .alt [(5, .alt [(6, .alt [(8, .done)])])])])]), (7, .alt [(2, .alt [(4, .alt [(5, .alt [(6, .alt [(8, .done)])])])]), (4, .alt [(2, .alt [(5, .alt [(6, .alt [(8, .done)])])])])])]), (4, .alt [(1, .alt [(2, .alt [(5, .alt [(6, .alt [(7, .alt [(8, .done)])]), (7, .alt [(6, .alt [(8, .done)])])]), (7, .alt [(5, .alt [(6, .alt [(8, .done)])])])]), (7, .alt [(2, .alt [(5, .alt [(6, .alt [(8, .done)])])])])]), (7, .alt [(1, .alt [(2, .alt [(5, .alt [(6, .alt [(8, .done)])])])])])]), (7, .alt [(1, .alt [(2, .alt [(4, .alt [(5, .alt [(6, .alt [(8, .done)])])])]), (4, .alt [(2, .alt [(5, .alt [(6, .alt [(8, .done)])])])])]), (4, .alt [(1, .alt [(2, .alt [(5, .alt [(6, .alt [(8, .done)])])])])])])]))) (by kernel_rfl) ?_; conv => whnf)
    | (refine WP.sch (id := 17) tabOK hmix (.mob 0 (.mob 2 (.mob 4 (.alt [(1, .alt [(3, .mob 5 (.mob 6 (.alt [(7, .alt [(8, .mob 9 (.alt [(10, .done)]))])])))]), (3, .mob 5 (.mob 6 (.alt [(1, .alt [(7, .alt [(8, .mob 9 (.alt [(10, .done)]))])]), (7, .alt [(1, .alt [(8, .mob 9 (.alt [(10, .done)]))])])])))])))) (by kernel_rfl) ?_; conv => whnf)
    | exact ⟨rfl, rfl⟩
    | (refine Fin.bool ?_ rfl)
    | (refine Fin.int ?_ rfl)
    | (refine Fin.str ?_ rfl)
    | (refine Fin.sl ?_ rfl)
    | exact trivial)
  obtain ⟨a1, a2, a3, a4⟩ := may_row ha
  obtain ⟨b1, b2, b3, b4⟩ := may_row hb
  have e : sameR la lb ba bb = (sameN la lb ba bb, 0) := by rw [sameR, if_pos ⟨ha, hb⟩]
  rw [e]
  have ta := tot_row a4
  have tb := tot_row b4
  have q1 := tot_len la
  have q2 := tot_len lb
  have q3 := totF_len ba
  have q4 := totF_len bb
  (refine CallWP.go tabOK Try.func5 0 84 rfl rfl rfl rfl ?_; conv => whnf)
  repeat' (first
    | (refine Br.tt ?_; conv => whnf)
    | (refine Br.ff ?_; conv => whnf)
    | (refine Both.mk ?_ ?_ <;> conv => whnf)
    | (refine Br.not ?_)
    | (refine Need.mk ?_ ?_; (focus ((first | omega | exact ⟨by omega, by omega⟩ | rfl | exact trivial | assumption | (simp only [List.length_map, List.length_append, List.length_take, List.length_drop, List.length_cons, List.length_nil, List.length_replicate, List.length_set, List.length_reverse, nds_len, numsD_length, mix_len, bn_len, bf_len, tot_len, totF_len, tbl_len, rowB_len]; omega) | (simp only [List.length_map, List.length_append, List.length_take, List.length_drop, List.length_cons, List.length_nil, List.length_replicate, List.length_set, List.length_reverse, nds_len, numsD_length, mix_len, bn_len, bf_len, tot_len, totF_len, tbl_len, rowB_len]; exact ⟨by omega, by omega⟩) | exact nds_each | (refine map_each ?_; intro x; rfl) | (refine first_map ?_; intro x; rfl) | exact first_nds | simp | (simp; omega)); done)); conv => whnf)
    | (refine Br.t (by assumption) ?_; conv => whnf)
    | (refine Br.f (by assumption) ?_; conv => whnf)
    | (refine Br.self ?_; conv => whnf)
    | (refine Br.decT (by assumption) ?_; conv => whnf)
    | (refine Br.decF (by assumption) ?_; conv => whnf)
    | (refine Br.eqT (by assumption) ?_; conv => whnf)
    | (refine Br.eqF (by assumption) ?_; conv => whnf)
    | (refine Br.dec (fun hc => ?_) (fun hc => ?_) <;> (try simp only [List.length_map, List.length_append, List.length_take, List.length_drop, List.length_cons, List.length_nil, List.length_replicate, List.length_set, List.length_reverse, nds_len, numsD_length, mix_len, bn_len, bf_len, tot_len, totF_len, tbl_len, rowB_len] at hc) <;> first | (exfalso; omega) | exact absurd trivial hc | exact absurd rfl hc | conv => whnf)
    | (refine Br.eq (fun hc => ?_) (fun hc => ?_) <;> first | (exfalso; omega) | exact absurd trivial hc | exact absurd rfl hc | conv => whnf)
    | (refine Br.ne (fun hc => ?_) (fun hc => ?_) <;> first | (exfalso; omega) | exact absurd trivial hc | exact absurd rfl hc | conv => whnf)
    | (with_reducible refine Br.and ?_)
    | (with_reducible refine Br.or ?_)
    | (refine Br.any (fun hc => ?_) (fun hc => ?_) <;> conv => whnf)
    | (refine Fit.inl ?_ ?_; (focus ((first | omega | exact ⟨by omega, by omega⟩ | rfl | exact trivial | assumption | (simp only [List.length_map, List.length_append, List.length_take, List.length_drop, List.length_cons, List.length_nil, List.length_replicate, List.length_set, List.length_reverse, nds_len, numsD_length, mix_len, bn_len, bf_len, tot_len, totF_len, tbl_len, rowB_len]; omega) | (simp only [List.length_map, List.length_append, List.length_take, List.length_drop, List.length_cons, List.length_nil, List.length_replicate, List.length_set, List.length_reverse, nds_len, numsD_length, mix_len, bn_len, bf_len, tot_len, totF_len, tbl_len, rowB_len]; exact ⟨by omega, by omega⟩) | exact nds_each | (refine map_each ?_; intro x; rfl) | (refine first_map ?_; intro x; rfl) | exact first_nds | simp | (simp; omega)); done)); conv => whnf)
    | (refine Each.mapAt (by assumption) ?_; conv => whnf)
    | (refine Each.ndsAt (by assumption) ?_; conv => whnf)
    | (refine Each.at (by assumption) ?_; conv => whnf)
    | (refine Each.map (fun x hx => ?_); (try simp only [Int.toNat_natCast, Int.toNat_zero, Int.toNat_one, Int.toNat_natCast_add_one] at hx); conv => whnf)
    | (refine Each.nds (fun a b c ps hx => ?_); (try simp only [Int.toNat_natCast, Int.toNat_zero, Int.toNat_one, Int.toNat_natCast_add_one] at hx); conv => whnf)
    | (refine Each.rep ?_; conv => whnf)
    | (refine Each.drop ?_)
    | (refine Each.take (fun hi => ?_))
    | (refine Each.any (fun x hx => ?_); (try simp only [Int.toNat_natCast, Int.toNat_zero, Int.toNat_one, Int.toNat_natCast_add_one] at hx); conv => whnf)
    | (refine NilB.any (fun hn => ?_) ?_ <;> conv => whnf)
    | (refine CallWP.mono (mayR la ba hl1) ?_; rintro r h ⟨rfl, rfl⟩; conv => whnf)
    | (refine CallWP.mono (mayR lb bb hl2) ?_; rintro r h ⟨rfl, rfl⟩; conv => whnf)
    | (refine CallWP.mono (totR la ba a2 (fun r hr => (a4 r hr).1) a3) ?_; rintro r h ⟨rfl, rfl⟩; conv => whnf)
    | (refine CallWP.mono (totR lb bb b2 (fun r hr => (b4 r hr).1) b3) ?_; rintro r h ⟨rfl, rfl⟩; conv => whnf)
    | (refine ⟨_, bytesOfD_nums _, ?_⟩; conv => whnf)
    | exact ⟨rfl, rfl⟩
    | (refine Fin.bool ?_ rfl)
    | (refine Fin.int ?_ rfl)
    | (refine Fin.str ?_ rfl)
    | (refine Fin.sl ?_ rfl)
    | exact trivial)
  refine WP.cut ⟨[(7, .ref 0 0 0), (8, (.d (.int .i64 (((tot la).map iL).length)))), (9, .ref 1 0 0)], [(0, .var 41 [(.d (.sl ((tot lb).map iL))), (.d (.sl ((totF bb).map iB)))]), (1, .var 41 [.full 2, .full 3]), (2, .row 43 ((bn la lb 0).map iL)), (3, .row 4 ((bf ba bb 0).map iB))], 4, 84⟩ ?_ ?_
  · have e1 : bn la lb 0 = tot la := by simp [bn]
    have e2 : bf ba bb 0 = totF ba := by simp [bf]
    rw [e1, e2]
    repeat' (first
    | (refine Br.tt ?_; conv => whnf)
    | (refine Br.ff ?_; conv => whnf)
    | (refine Both.mk ?_ ?_ <;> conv => whnf)
    | (refine Br.not ?_)
    | (refine Need.mk ?_ ?_; (focus ((first | omega | exact ⟨by omega, by omega⟩ | rfl | exact trivial | assumption | (simp only [List.length_map, List.length_append, List.length_take, List.length_drop, List.length_cons, List.length_nil, List.length_replicate, List.length_set, List.length_reverse, nds_len, numsD_length, mix_len, bn_len, bf_len, tot_len, totF_len, tbl_len, rowB_len]; omega) | (simp only [List.length_map, List.length_append, List.length_take, List.length_drop, List.length_cons, List.length_nil, List.length_replicate, List.length_set, List.length_reverse, nds_len, numsD_length, mix_len, bn_len, bf_len, tot_len, totF_len, tbl_len, rowB_len]; exact ⟨by omega, by omega⟩) | exact nds_each | (refine map_each ?_; intro x; rfl) | (refine first_map ?_; intro x; rfl) | exact first_nds | simp | (simp; omega)); done)); conv => whnf)
    | (refine Br.t (by assumption) ?_; conv => whnf)
    | (refine Br.f (by assumption) ?_; conv => whnf)
    | (refine Br.self ?_; conv => whnf)
    | (refine Br.decT (by assumption) ?_; conv => whnf)
    | (refine Br.decF (by assumption) ?_; conv => whnf)
    | (refine Br.eqT (by assumption) ?_; conv => whnf)
    | (refine Br.eqF (by assumption) ?_; conv => whnf)
    | (refine Br.dec (fun hc => ?_) (fun hc => ?_) <;> (try simp only [List.length_map, List.length_append, List.length_take, List.length_drop, List.length_cons, List.length_nil, List.length_replicate, List.length_set, List.length_reverse, nds_len, numsD_length, mix_len, bn_len, bf_len, tot_len, totF_len, tbl_len, rowB_len] at hc) <;> first | (exfalso; omega) | exact absurd trivial hc | exact absurd rfl hc | conv => whnf)
    | (refine Br.eq (fun hc => ?_) (fun hc => ?_) <;> first | (exfalso; omega) | exact absurd trivial hc | exact absurd rfl hc | conv => whnf)
    | (refine Br.ne (fun hc => ?_) (fun hc => ?_) <;> first | (exfalso; omega) | exact absurd trivial hc | exact absurd rfl hc | conv => whnf)
    | (with_reducible refine Br.and ?_)
    | (with_reducible refine Br.or ?_)
    | (refine Br.any (fun hc => ?_) (fun hc => ?_) <;> conv => whnf)
    | (refine Fit.inl ?_ ?_; (focus ((first | omega | exact ⟨by omega, by omega⟩ | rfl | exact trivial | assumption | (simp only [List.length_map, List.length_append, List.length_take, List.length_drop, List.length_cons, List.length_nil, List.length_replicate, List.length_set, List.length_reverse, nds_len, numsD_length, mix_len, bn_len, bf_len, tot_len, totF_len, tbl_len, rowB_len]; omega) | (simp only [List.length_map, List.length_append, List.length_take, List.length_drop, List.length_cons, List.length_nil, List.length_replicate, List.length_set, List.length_reverse, nds_len, numsD_length, mix_len, bn_len, bf_len, tot_len, totF_len, tbl_len, rowB_len]; exact ⟨by omega, by omega⟩) | exact nds_each | (refine map_each ?_; intro x; rfl) | (refine first_map ?_; intro x; rfl) | exact first_nds | simp | (simp; omega)); done)); conv => whnf)
    | (refine Each.mapAt (by assumption) ?_; conv => whnf)
    | (refine Each.ndsAt (by assumption) ?_; conv => whnf)
    | (refine Each.at (by assumption) ?_; conv => whnf)
    | (refine Each.map (fun x hx => ?_); (try simp only [Int.toNat_natCast, Int.toNat_zero, Int.toNat_one, Int.toNat_natCast_add_one] at hx); conv => whnf)
    | (refine Each.nds (fun a b c ps hx => ?_); (try simp only [Int.toNat_natCast, Int.toNat_zero, Int.toNat_one, Int.toNat_natCast_add_one] at hx); conv => whnf)
    | (refine Each.rep ?_; conv => whnf)
    | (refine Each.drop ?_)
    | (refine Each.take (fun hi => ?_))
    | (refine Each.any (fun x hx => ?_); (try simp only [Int.toNat_natCast, Int.toNat_zero, Int.toNat_one, Int.toNat_natCast_add_one] at hx); conv => whnf)
    | (refine NilB.any (fun hn => ?_) ?_ <;> conv => whnf)
    | (refine ⟨_, bytesOfD_nums _, ?_⟩; conv => whnf)
    | (refine WP.sch (id := 6) tabOK hmix (.mob 0 (.mob 3 (.alt [(1, .alt [(2, .alt [(4, .alt [(5, .alt [(6, .alt [(7, .alt [(8, .done)])]), (7, .alt [(6, .alt [(8, .done)])])]), (7, .alt [(5, .alt [(6, .alt [(8, .done)])])])]), (7, .alt [(4, .alt [(5, .alt [(6, .alt [(8, .done)])])])])]), (4, .alt [(2, .alt [(5, .alt [(6, .alt [(7, .alt [(8, .done)])]), (7, .alt [(6, .alt [(8, .done)])])]), (7, .alt [(5, .alt [(6, .alt [(8, .done)])])])]), (7, .alt [(2, .alt [(5, .alt [(6, .alt [(8, .done)])])])])]), (7, .alt [(2, .alt [(4, .alt [(5, .alt [(6, .alt [(8, .done)])])])]), (4, .alt [(2, .alt [(5, .alt [(6, .alt [(8, .done)])])])])])]), (4, .alt [(1, .alt [(2, .alt [(5, .alt [(6, .alt [(7, .alt [(8, .done)])]), (7, .alt [(6, .alt [(8, .done)])])]), (7, .alt [(5, .alt [(6, .alt [(8, .done)])])])]), (7, .alt [(2, .alt [(5, .alt [(6, .alt [(8, .done)])])])])]), (7, .alt [(1, .alt [(2, .alt [(5, .alt [(6, .alt [(8, .done)])])])])])]), (7, .alt [(1, .alt [(2, .alt [(4, .alt [(5, .alt [(6, .alt [(8, .done)])])])]), (4, .alt [(2, .alt [(5, .alt [(6, .alt [(8, .done)])])])])]), (4, .alt [(1, .alt [(2, .alt [(5, .alt [(6, .alt [(8, .done)])])])])])])]))) (by kernel_rfl) ?_; conv => whnf)
    | (refine WP.sch (id := 17) tabOK hmix (.mob 0 (.mob 2 (.mob 4 (.alt [(1, .alt [(3, .mob 5 (.mob 6 (.alt [(7, .alt [(8, .mob 9 (.alt [(10, .done)]))])])))]), (3, .mob 5 (.mob 6 (.alt [(1, .alt [(7, .alt [(8, .mob 9 (.alt [(10, .done)]))])]), (7, .alt [(1, .alt [(8, .mob 9 (.alt [(10, .done)]))])])])))])))) (by kernel_rfl) ?_; conv => whnf)
    | exact ⟨rfl, rfl⟩
    | (refine Fin.bool ?_ rfl)
    | (refine Fin.int ?_ rfl)
    | (refine Fin.str ?_ rfl)
    | (refine Fin.sl ?_ rfl)
    | exact trivial)
  conv => whnf
  repeat' (first
    | (refine Br.tt ?_; conv => whnf)
    | (refine Br.ff ?_; conv => whnf)
    | (refine Both.mk ?_ ?_ <;> conv => whnf)
    | (refine Br.not ?_)
    | (refine Need.mk ?_ ?_; (focus ((first | omega | exact ⟨by omega, by omega⟩ | rfl | exact trivial | assumption | (simp only [List.length_map, List.length_append, List.length_take, List.length_drop, List.length_cons, List.length_nil, List.length_replicate, List.length_set, List.length_reverse, nds_len, numsD_length, mix_len, bn_len, bf_len, tot_len, totF_len, tbl_len, rowB_len]; omega) | (simp only [List.length_map, List.length_append, List.length_take, List.length_drop, List.length_cons, List.length_nil, List.length_replicate, List.length_set, List.length_reverse, nds_len, numsD_length, mix_len, bn_len, bf_len, tot_len, totF_len, tbl_len, rowB_len]; exact ⟨by omega, by omega⟩) | exact nds_each | (refine map_each ?_; intro x; rfl) | (refine first_map ?_; intro x; rfl) | exact first_nds | simp | (simp; omega)); done)); conv => whnf)
    | (refine Br.t (by assumption) ?_; conv => whnf)
    | (refine Br.f (by assumption) ?_; conv => whnf)
    | (refine Br.self ?_; conv => whnf)
    | (refine Br.decT (by assumption) ?_; conv => whnf)
    | (refine Br.decF (by assumption) ?_; conv => whnf)
    | (refine Br.eqT (by assumption) ?_; conv => whnf)
    | (refine Br.eqF (by assumption) ?_; conv => whnf)
    | (refine Br.dec (fun hc => ?_) (fun hc => ?_) <;> (try simp only [List.length_map, List.length_append, List.length_take, List.length_drop, List.length_cons, List.length_nil, List.length_replicate, List.length_set, List.length_reverse, nds_len, numsD_length, mix_len, bn_len, bf_len, tot_len, totF_len, tbl_len, rowB_len] at hc) <;> first | (exfalso; omega) | exact absurd trivial hc | exact absurd rfl hc | conv => whnf)
    | (refine Br.eq (fun hc => ?_) (fun hc => ?_) <;> first | (exfalso; omega) | exact absurd trivial hc | exact absurd rfl hc | conv => whnf)
    | (refine Br.ne (fun hc => ?_) (fun hc => ?_) <;> first | (exfalso; omega) | exact absurd trivial hc | exact absurd rfl hc | conv => whnf)
    | (with_reducible refine Br.and ?_)
    | (with_reducible refine Br.or ?_)
    | (refine Br.any (fun hc => ?_) (fun hc => ?_) <;> conv => whnf)
    | (refine Fit.inl ?_ ?_; (focus ((first | omega | exact ⟨by omega, by omega⟩ | rfl | exact trivial | assumption | (simp only [List.length_map, List.length_append, List.length_take, List.length_drop, List.length_cons, List.length_nil, List.length_replicate, List.length_set, List.length_reverse, nds_len, numsD_length, mix_len, bn_len, bf_len, tot_len, totF_len, tbl_len, rowB_len]; omega) | (simp only [List.length_map, List.length_append, List.length_take, List.length_drop, List.length_cons, List.length_nil, List.length_replicate, List.length_set, List.length_reverse, nds_len, numsD_length, mix_len, bn_len, bf_len, tot_len, totF_len, tbl_len, rowB_len]; exact ⟨by omega, by omega⟩) | exact nds_each | (refine map_each ?_; intro x; rfl) | (refine first_map ?_; intro x; rfl) | exact first_nds | simp | (simp; omega)); done)); conv => whnf)
    | (refine Each.mapAt (by assumption) ?_; conv => whnf)
    | (refine Each.ndsAt (by assumption) ?_; conv => whnf)
    | (refine Each.at (by assumption) ?_; conv => whnf)
    | (refine Each.map (fun x hx => ?_); (try simp only [Int.toNat_natCast, Int.toNat_zero, Int.toNat_one, Int.toNat_natCast_add_one] at hx); conv => whnf)
    | (refine Each.nds (fun a b c ps hx => ?_); (try simp only [Int.toNat_natCast, Int.toNat_zero, Int.toNat_one, Int.toNat_natCast_add_one] at hx); conv => whnf)
    | (refine Each.rep ?_; conv => whnf)
    | (refine Each.drop ?_)
    | (refine Each.take (fun hi => ?_))
    | (refine Each.any (fun x hx => ?_); (try simp only [Int.toNat_natCast, Int.toNat_zero, Int.toNat_one, Int.toNat_natCast_add_one] at hx); conv => whnf)
    | (refine NilB.any (fun hn => ?_) ?_ <;> conv => whnf)
    | (refine ⟨_, bytesOfD_nums _, ?_⟩; conv => whnf)
    | (refine WP.sch (id := 6) tabOK hmix (.mob 0 (.mob 3 (.alt [(1, .alt [(2, .alt [(4, .alt [(5, .alt [(6, .alt [(7, .alt [(8, .done)])]), (7, .alt [(6, .alt [(8, .done)])])]), (7, .alt [(5, .alt [(6, .alt [(8, .done)])])])]), (7, .alt [(4, .alt [(5, .alt [(6, .alt [(8, .done)])])])])]), (4, .alt [(2, .alt [(5, .alt [(6, .alt [(7, .alt [(8, .done)])]), (7, .alt [(6, .alt [(8, .done)])])]), (7, .alt [(5, .alt [(6, .alt [(8, .done)])])])]), (7, .alt [(2, .alt [(5, .alt [(6, .alt [(8, .done)])])])])]), (7, .alt [(2, .alt [(4, .alt [(5, .alt [(6, .alt [(8, .done)])])])]), (4, .alt [(2, .alt [(5, .alt [(6, .alt [(8, .done)])])])])])]), (4, .alt [(1, .alt [(2, .alt [(5, .alt [(6, .alt [(7, .alt [(8, .done)])]), (7, .alt [(6, .alt [(8, .done)])])]), (7, .alt [(5, .alt [(6, .alt [(8, .done)])])])]), (7, .alt [(2, .alt [(5, .alt [(6, .alt [(8, .done)])])])])]), (7, .alt [(1, .alt [(2, .alt [(5, .alt [(6, .alt [(8, .done)])])])])])]), (7, .alt [(1, .alt [(2, .alt [(4, .alt [(5, .alt [(6, .alt [(8, .done)])])])]), (4, .alt [(2, .alt [(5, .alt [(6, .alt [(8, .done)])])])])]), (4, .alt [(1, .alt [(2, .alt [(5, .alt [(6, .alt [(8, .done)])])])])])])]))) (by kernel_rfl) ?_; conv => whnf)
    | (refine WP.sch (id := 17) tabOK hmix (.mob 0 (.mob 2 (.mob 4 (.alt [(1, .alt [(3, .mob 5 (.mob 6 (.alt [(7, .alt [(8, .mob 9 (.alt [(10, .done)]))])])))]), (3, .mob 5 (.mob 6 (.alt [(1, .alt [(7, .alt [(8, .mob 9 (.alt [(10, .done)]))])]), (7, .alt [(1, .alt [(8, .mob 9 (.alt [(10, .done)]))])])])))])))) (by kernel_rfl) ?_; conv => whnf)
    | exact ⟨rfl, rfl⟩
    | (refine Fin.bool ?_ rfl)
    | (refine Fin.int ?_ rfl)
    | (refine Fin.str ?_ rfl)
    | (refine Fin.sl ?_ rfl)
    | exact trivial)
  refine WP.loop (α := Nat) tabOK (fun i => i ≤ lb.length + 1) (fun i => ⟨[(7, .ref 0 0 0), (8, (.d (.int .i64 (((tot la).map iL).length)))), (9, .ref 1 0 0), (37, (.d (.sl ((tot lb).map iL)))), (38, (.d (.int .i64 (((tot lb).map iL).length)))), (39, (.d (.int .i64 (i))))], [(0, .var 41 [(.d (.sl ((tot lb).map iL))), (.d (.sl ((totF bb).map iB)))]), (1, .var 41 [.full 2, .full 3]), (2, .row 43 ((bn la lb i).map iL)), (3, .row 4 ((bf ba bb i).map iB))], 4, 84⟩) (fun i => lb.length + 1 - i) (0) ?_ ?_ ?_
  · exact Nat.zero_le _
  · conv => whnf
    repeat (first | exact True.intro | (refine Need.mk ?_ ?_; (focus ((first | rfl | assumption | omega | (simp only [List.length_map, List.length_append, List.length_take, List.length_drop, List.length_cons, List.length_nil, List.length_replicate, List.length_set, List.length_reverse, nds_len, numsD_length, mix_len, bn_len, bf_len, tot_len, totF_len, tbl_len, rowB_len]; omega) | simp); done)); conv => whnf) | ((conv => whnf); exact True.intro))
  intro i hi
  by_cases hlt : i < lb.length + 1
  · obtain ⟨n, hn⟩ : ∃ n, n = la.length + 1 := ⟨_, rfl⟩
    have q5 : (tot la).length = n := by omega
    obtain ⟨r, hr⟩ : ∃ y, (tot lb)[i]? = some y := ⟨_, List.getElem?_eq_getElem (by omega)⟩
    obtain ⟨z, hz⟩ : ∃ y, (totF bb)[i]? = some y := ⟨_, List.getElem?_eq_getElem (by omega)⟩
    obtain ⟨hr8, hrx⟩ := tb r (List.mem_of_getElem? hr)
    conv => whnf
    repeat' (first
    | (refine Br.tt ?_; conv => whnf)
    | (refine Br.ff ?_; conv => whnf)
    | (refine Both.mk ?_ ?_ <;> conv => whnf)
    | (refine Br.not ?_)
    | (refine Need.mk ?_ ?_; (focus ((first | omega | exact ⟨by omega, by omega⟩ | rfl | exact trivial | assumption | (simp only [List.length_map, List.length_append, List.length_take, List.length_drop, List.length_cons, List.length_nil, List.length_replicate, List.length_set, List.length_reverse, nds_len, numsD_length, mix_len, bn_len, bf_len, tot_len, totF_len, tbl_len, rowB_len]; omega) | (simp only [List.length_map, List.length_append, List.length_take, List.length_drop, List.length_cons, List.length_nil, List.length_replicate, List.length_set, List.length_reverse, nds_len, numsD_length, mix_len, bn_len, bf_len, tot_len, totF_len, tbl_len, rowB_len]; exact ⟨by omega, by omega⟩) | exact nds_each | (refine map_each ?_; intro x; rfl) | (refine first_map ?_; intro x; rfl) | exact first_nds | simp | (simp; omega)); done)); conv => whnf)
    | (refine Br.t (by assumption) ?_; conv => whnf)
    | (refine Br.f (by assumption) ?_; conv => whnf)
    | (refine Br.self ?_; conv => whnf)
    | (refine Br.decT (by assumption) ?_; conv => whnf)
    | (refine Br.decF (by assumption) ?_; conv => whnf)
    | (refine Br.eqT (by assumption) ?_; conv => whnf)
    | (refine Br.eqF (by assumption) ?_; conv => whnf)
    | (refine Br.dec (fun hc => ?_) (fun hc => ?_) <;> (try simp only [List.length_map, List.length_append, List.length_take, List.length_drop, List.length_cons, List.length_nil, List.length_replicate, List.length_set, List.length_reverse, nds_len, numsD_length, mix_len, bn_len, bf_len, tot_len, totF_len, tbl_len, rowB_len] at hc) <;> first | (exfalso; omega) | exact absurd trivial hc | exact absurd rfl hc | conv => whnf)
    | (refine Br.eq (fun hc => ?_) (fun hc => ?_) <;> first | (exfalso; omega) | exact absurd trivial hc | exact absurd rfl hc | conv => whnf)
    | (refine Br.ne (fun hc => ?_) (fun hc => ?_) <;> first | (exfalso; omega) | exact absurd trivial hc | exact absurd rfl hc | conv => whnf)
    | (with_reducible refine Br.and ?_)
    | (with_reducible refine Br.or ?_)
    | (refine Br.any (fun hc => ?_) (fun hc => ?_) <;> conv => whnf)
    | (refine Fit.inl ?_ ?_; (focus ((first | omega | exact ⟨by omega, by omega⟩ | rfl | exact trivial | assumption | (simp only [List.length_map, List.length_append, List.length_take, List.length_drop, List.length_cons, List.length_nil, List.length_replicate, List.length_set, List.length_reverse, nds_len, numsD_length, mix_len, bn_len, bf_len, tot_len, totF_len, tbl_len, rowB_len]; omega) | (simp only [List.length_map, List.length_append, List.length_take, List.length_drop, List.length_cons, List.length_nil, List.length_replicate, List.length_set, List.length_reverse, nds_len, numsD_length, mix_len, bn_len, bf_len, tot_len, totF_len, tbl_len, rowB_len]; exact ⟨by omega, by omega⟩) | exact nds_each | (refine map_each ?_; intro x; rfl) | (refine first_map ?_; intro x; rfl) | exact first_nds | simp | (simp; omega)); done)); conv => whnf)
    | (refine Each.mapAt (by assumption) ?_; conv => whnf)
    | (refine Each.ndsAt (by assumption) ?_; conv => whnf)
    | (refine Each.at (by assumption) ?_; conv => whnf)
    | (refine Each.map (fun x hx => ?_); (try simp only [Int.toNat_natCast, Int.toNat_zero, Int.toNat_one, Int.toNat_natCast_add_one] at hx); conv => whnf)
    | (refine Each.nds (fun a b c ps hx => ?_); (try simp only [Int.toNat_natCast, Int.toNat_zero, Int.toNat_one, Int.toNat_natCast_add_one] at hx); conv => whnf)
    | (refine Each.rep ?_; conv => whnf)
    | (refine Each.drop ?_)
    | (refine Each.take (fun hi => ?_))
    | (refine Each.any (fun x hx => ?_); (try simp only [Int.toNat_natCast, Int.toNat_zero, Int.toNat_one, Int.toNat_natCast_add_one] at hx); conv => whnf)
    | (refine NilB.any (fun hn => ?_) ?_ <;> conv => whnf)
    | (refine ⟨_, bytesOfD_nums _, ?_⟩; conv => whnf)
    | (refine WP.sch (id := 6) tabOK hmix (.mob 0 (.mob 3 (.alt [(1, .alt [(2, .alt [(4, .alt [(5, .alt [(6, .alt [(7, .alt [(8, .done)])]), (7, .alt [(6, .alt [(8, .done)])])]), (7, .alt [(5, .alt [(6, .alt [(8, .done)])])])]), (7, .alt [(4, .alt [(5, .alt [(6, .alt [(8, .done)])])])])]), (4, .alt [(2, .alt [(5, .alt [(6, .alt [(7, .alt [(8, .done)])]), (7, .alt [(6, .alt [(8, .done)])])]), (7, .alt [(5, .alt [(6, .alt [(8, .done)])])])]), (7, .alt [(2, .alt [(5, .alt [(6, .alt [(8, .done)])])])])]), (7, .alt [(2, .alt [(4, .alt [(5, .alt [(6, .alt [(8, .done)])])])]), (4, .alt [(2, .alt [(5, .alt [(6, .alt [(8, .done)])])])])])]), (4, .alt [(1, .alt [(2, .alt [(5, .alt [(6, .alt [(7, .alt [(8, .done)])]), (7, .alt [(6, .alt [(8, .done)])])]), (7, .alt [(5, .alt [(6, .alt [(8, .done)])])])]), (7, .alt [(2, .alt [(5, .alt [(6, .alt [(8, .done)])])])])]), (7, .alt [(1, .alt [(2, .alt [(5, .alt [(6, .alt [(8, .done)])])])])])]), (7, .alt [(1, .alt [(2, .alt [(4, .alt [(5, .alt [(6, .alt [(8, .done)])])])]), (4, .alt [(2, .alt [(5, .alt [(6, .alt [(8, .done)])])])])]), (4, .alt [(1, .alt [(2, .alt [(5, .alt [(6, .alt [(8, .done)])])])])])])]))) (by kernel_rfl) ?_; conv => whnf)
    | (refine WP.sch (id := 17) tabOK hmix (.mob 0 (.mob 2 (.mob 4 (.alt [(1, .alt [(3, .mob 5 (.mob 6 (.alt [(7, .alt [(8, .mob 9 (.alt [(10, .done)]))])])))]), (3, .mob 5 (.mob 6 (.alt [(1, .alt [(7, .alt [(8, .mob 9 (.alt [(10, .done)]))])]), (7, .alt [(1, .alt [(8, .mob 9 (.alt [(10, .done)]))])])])))])))) (by kernel_rfl) ?_; conv => whnf)
    | exact ⟨rfl, rfl⟩
    | (refine Fin.bool ?_ rfl)
    | (refine Fin.int ?_ rfl)
    | (refine Fin.str ?_ rfl)
    | (refine Fin.sl ?_ rfl)
    | exact trivial)
    refine WP.loop (α := Nat) tabOK (fun k => k ≤ 8) (fun k => ⟨[(7, .ref 0 0 0), (8, (.d (.int .i64 (((tot la).map iL).length)))), (9, .ref 1 0 0), (37, (.d (.sl ((tot lb).map iL)))), (38, (.d (.int .i64 (((tot lb).map iL).length)))), (39, (.d (.int .i64 (i)))), (10, (.d (.int .i64 (i)))), (12, .full 2), (47, (.d (.int .i64 (8)))), (48, (.d (.int .i64 (k))))], [(0, .var 41 [(.d (.sl ((tot lb).map iL))), (.d (.sl ((totF bb).map iB)))]), (1, .var 41 [.full 3, .full 4]), (2, .row 3 ((mix (shift (n : Int)) k r).map iI)), (3, .row 43 ((bn la lb i).map iL)), (4, .row 4 ((bf ba bb i).map iB))], 5, 84⟩) (fun k => 8 - k) (0) ?_ ?_ ?_
    · exact Nat.zero_le _
    · conv => whnf
      repeat (first | exact True.intro | (refine Need.mk ?_ ?_; (focus ((first | rfl | assumption | omega | (simp only [List.length_map, List.length_append, List.length_take, List.length_drop, List.length_cons, List.length_nil, List.length_replicate, List.length_set, List.length_reverse, nds_len, numsD_length, mix_len, bn_len, bf_len, tot_len, totF_len, tbl_len, rowB_len]; omega) | simp [shift0, hr8]); done)); conv => whnf) | ((conv => whnf); exact True.intro))
    intro k hk
    by_cases hk8 : k < 8
    · obtain ⟨x, hx⟩ : ∃ y, r[k]? = some y := ⟨_, List.getElem?_eq_getElem (by omega)⟩
      have hm := mix_at (g := shift (n : Int)) hx
      have hxb := hrx x (List.mem_of_getElem? hx)
      have es := mix_set (g := shift (n : Int)) hx
      have ex : shift (n : Int) x = x + (n : Int) := rfl
      rw [ex] at es
      conv => whnf
      repeat' (first
    | (refine Br.tt ?_; conv => whnf)
    | (refine Br.ff ?_; conv => whnf)
    | (refine Both.mk ?_ ?_ <;> conv => whnf)
    | (refine Br.not ?_)
    | (refine Need.mk ?_ ?_; (focus ((first | omega | exact ⟨by omega, by omega⟩ | rfl | exact trivial | assumption | (simp only [List.length_map, List.length_append, List.length_take, List.length_drop, List.length_cons, List.length_nil, List.length_replicate, List.length_set, List.length_reverse, nds_len, numsD_length, mix_len, bn_len, bf_len, tot_len, totF_len, tbl_len, rowB_len]; omega) | (simp only [List.length_map, List.length_append, List.length_take, List.length_drop, List.length_cons, List.length_nil, List.length_replicate, List.length_set, List.length_reverse, nds_len, numsD_length, mix_len, bn_len, bf_len, tot_len, totF_len, tbl_len, rowB_len]; exact ⟨by omega, by omega⟩) | exact nds_each | (refine map_each ?_; intro x; rfl) | (refine first_map ?_; intro x; rfl) | exact first_nds | simp | (simp; omega)); done)); conv => whnf)
    | (refine Br.t (by assumption) ?_; conv => whnf)
    | (refine Br.f (by assumption) ?_; conv => whnf)
    | (refine Br.self ?_; conv => whnf)
    | (refine Br.decT (by assumption) ?_; conv => whnf)
    | (refine Br.decF (by assumption) ?_; conv => whnf)
    | (refine Br.eqT (by assumption) ?_; conv => whnf)
    | (refine Br.eqF (by assumption) ?_; conv => whnf)
    | (refine Br.dec (fun hc => ?_) (fun hc => ?_) <;> (try simp only [List.length_map, List.length_append, List.length_take, List.length_drop, List.length_cons, List.length_nil, List.length_replicate, List.length_set, List.length_reverse, nds_len, numsD_length, mix_len, bn_len, bf_len, tot_len, totF_len, tbl_len, rowB_len] at hc) <;> first | (exfalso; omega) | exact absurd trivial hc | exact absurd rfl hc | conv => whnf)
    | (refine Br.eq (fun hc => ?_) (fun hc => ?_) <;> first | (exfalso; omega) | exact absurd trivial hc | exact absurd rfl hc | conv => whnf)
    | (refine Br.ne (fun hc => ?_) (fun hc => ?_) <;> first | (exfalso; omega) | exact absurd trivial hc | exact absurd rfl hc | conv => whnf)
    | (with_reducible refine Br.and ?_)
    | (with_reducible refine Br.or ?_)
    | (refine Br.any (fun hc => ?_) (fun hc => ?_) <;> conv => whnf)
    | (refine Fit.inl ?_ ?_; (focus ((first | omega | exact ⟨by omega, by omega⟩ | rfl | exact trivial | assumption | (simp only [List.length_map, List.length_append, List.length_take, List.length_drop, List.length_cons, List.length_nil, List.length_replicate, List.length_set, List.length_reverse, nds_len, numsD_length, mix_len, bn_len, bf_len, tot_len, totF_len, tbl_len, rowB_len]; omega) | (simp only [List.length_map, List.length_append, List.length_take, List.length_drop, List.length_cons, List.length_nil, List.length_replicate, List.length_set, List.length_reverse, nds_len, numsD_length, mix_len, bn_len, bf_len, tot_len, totF_len, tbl_len, rowB_len]; exact ⟨by omega, by omega⟩) | exact nds_each | (refine map_each ?_; intro x; rfl) | (refine first_map ?_; intro x; rfl) | exact first_nds | simp | (simp; omega)); done)); conv => whnf)
    | (refine Each.mapAt (by assumption) ?_; conv => whnf)
    | (refine Each.ndsAt (by assumption) ?_; conv => whnf)
    | (refine Each.at (by assumption) ?_; conv => whnf)
    | (refine Each.map (fun x hx => ?_); (try simp only [Int.toNat_natCast, Int.toNat_zero, Int.toNat_one, Int.toNat_natCast_add_one] at hx); conv => whnf)
    | (refine Each.nds (fun a b c ps hx => ?_); (try simp only [Int.toNat_natCast, Int.toNat_zero, Int.toNat_one, Int.toNat_natCast_add_one] at hx); conv => whnf)
    | (refine Each.rep ?_; conv => whnf)
    | (refine Each.drop ?_)
    | (refine Each.take (fun hi => ?_))
    | (refine Each.any (fun x hx => ?_); (try simp only [Int.toNat_natCast, Int.toNat_zero, Int.toNat_one, Int.toNat_natCast_add_one] at hx); conv => whnf)
    | (refine NilB.any (fun hn => ?_) ?_ <;> conv => whnf)
    | (refine ⟨_, bytesOfD_nums _, ?_⟩; conv => whnf)
    | (refine WP.sch (id := 6) tabOK hmix (.mob 0 (.mob 3 (.alt [(1, .alt [(2, .alt [(4, .alt [(5, .alt [(6, .alt [(7, .alt [(8, .done)])]), (7, .alt [(6, .alt [(8, .done)])])]), (7, .alt [(5, .alt [(6, .alt [(8, .done)])])])]), (7, .alt [(4, .alt [(5, .alt [(6, .alt [(8, .done)])])])])]), (4, .alt [(2, .alt [(5, .alt [(6, .alt [(7, .alt [(8, .done)])]), (7, .alt [(6, .alt [(8, .done)])])]), (7, .alt [(5, .alt [(6, .alt [(8, .done)])])])]), (7, .alt [(2, .alt [(5, .alt [(6, .alt [(8, .done)])])])])]), (7, .alt [(2, .alt [(4, .alt [(5, .alt [(6, .alt [(8, .done)])])])]), (4, .alt [(2, .alt [(5, .alt [(6, .alt [(8, .done)])])])])])]), (4, .alt [(1, .alt [(2, .alt [(5, .alt [(6, .alt [(7, .alt [(8, .done)])]), (7, .alt [(6, .alt [(8, .done)])])]), (7, .alt [(5, .alt [(6, .alt [(8, .done)])])])]), (7, .alt [(2, .alt [(5, .alt [(6, .alt [(8, .done)])])])])]), (7, .alt [(1, .alt [(2, .alt [(5, .alt [(6, .alt [(8, .done)])])])])])]), (7, .alt [(1, .alt [(2, .alt [(4, .alt [(5, .alt [(6, .alt [(8, .done)])])])]), (4, .alt [(2, .alt [(5, .alt [(6, .alt [(8, .done)])])])])]), (4, .alt [(1, .alt [(2, .alt [(5, .alt [(6, .alt [(8, .done)])])])])])])]))) (by kernel_rfl) ?_; conv => whnf)
    | (refine WP.sch (id := 17) tabOK hmix (.mob 0 (.mob 2 (.mob 4 (.alt [(1, .alt [(3, .mob 5 (.mob 6 (.alt [(7, .alt [(8, .mob 9 (.alt [(10, .done)]))])])))]), (3, .mob 5 (.mob 6 (.alt [(1, .alt [(7, .alt [(8, .mob 9 (.alt [(10, .done)]))])]), (7, .alt [(1, .alt [(8, .mob 9 (.alt [(10, .done)]))])])])))])))) (by kernel_rfl) ?_; conv => whnf)
    | exact ⟨rfl, rfl⟩
    | (refine Fin.bool ?_ rfl)
    | (refine Fin.int ?_ rfl)
    | (refine Fin.str ?_ rfl)
    | (refine Fin.sl ?_ rfl)
    | exact trivial)
      refine ⟨k + 1, by omega, by dsimp only; omega, ?_⟩
      conv => whnf
      repeat (first | exact True.intro | (refine Need.mk ?_ ?_; (focus ((first | rfl | assumption | omega | (simp only [List.length_map, List.length_append, List.length_take, List.length_drop, List.length_cons, List.length_nil, List.length_replicate, List.length_set, List.length_reverse, nds_len, numsD_length, mix_len, bn_len, bf_len, tot_len, totF_len, tbl_len, rowB_len]; omega) | simp [map_set_i, es, q5]); done)); conv => whnf) | ((conv => whnf); exact True.intro))
    · have hke : k = 8 := by omega
      subst hke
      have em : mix (shift (n : Int)) 8 r = r.map (shift (n : Int)) := by rw [← hr8]; exact mix_all _ _
      have en := bn_next (la := la) hr
      rw [← hn] at en
      have ef := bf_next (ba := ba) hz
      rw [em]
      conv => whnf
      repeat' (first
    | (refine Br.tt ?_; conv => whnf)
    | (refine Br.ff ?_; conv => whnf)
    | (refine Both.mk ?_ ?_ <;> conv => whnf)
    | (refine Br.not ?_)
    | (refine Need.mk ?_ ?_; (focus ((first | omega | exact ⟨by omega, by omega⟩ | rfl | exact trivial | assumption | (simp only [List.length_map, List.length_append, List.length_take, List.length_drop, List.length_cons, List.length_nil, List.length_replicate, List.length_set, List.length_reverse, nds_len, numsD_length, mix_len, bn_len, bf_len, tot_len, totF_len, tbl_len, rowB_len]; omega) | (simp only [List.length_map, List.length_append, List.length_take, List.length_drop, List.length_cons, List.length_nil, List.length_replicate, List.length_set, List.length_reverse, nds_len, numsD_length, mix_len, bn_len, bf_len, tot_len, totF_len, tbl_len, rowB_len]; exact ⟨by omega, by omega⟩) | exact nds_each | (refine map_each ?_; intro x; rfl) | (refine first_map ?_; intro x; rfl) | exact first_nds | simp | (simp; omega)); done)); conv => whnf)
    | (refine Br.t (by assumption) ?_; conv => whnf)
    | (refine Br.f (by assumption) ?_; conv => whnf)
    | (refine Br.self ?_; conv => whnf)
    | (refine Br.decT (by assumption) ?_; conv => whnf)
    | (refine Br.decF (by assumption) ?_; conv => whnf)
    | (refine Br.eqT (by assumption) ?_; conv => whnf)
    | (refine Br.eqF (by assumption) ?_; conv => whnf)
    | (refine Br.dec (fun hc => ?_) (fun hc => ?_) <;> (try simp only [List.length_map, List.length_append, List.length_take, List.length_drop, List.length_cons, List.length_nil, List.length_replicate, List.length_set, List.length_reverse, nds_len, numsD_length, mix_len, bn_len, bf_len, tot_len, totF_len, tbl_len, rowB_len] at hc) <;> first | (exfalso; omega) | exact absurd trivial hc | exact absurd rfl hc | conv => whnf)
    | (refine Br.eq (fun hc => ?_) (fun hc => ?_) <;> first | (exfalso; omega) | exact absurd trivial hc | exact absurd rfl hc | conv => whnf)
    | (refine Br.ne (fun hc => ?_) (fun hc => ?_) <;> first | (exfalso; omega) | exact absurd trivial hc | exact absurd rfl hc | conv => whnf)
    | (with_reducible refine Br.and ?_)
    | (with_reducible refine Br.or ?_)
    | (refine Br.any (fun hc => ?_) (fun hc => ?_) <;> conv => whnf)
    | (refine Fit.inl ?_ ?_; (focus ((first | omega | exact ⟨by omega, by omega⟩ | rfl | exact trivial | assumption | (simp only [List.length_map, List.length_append, List.length_take, List.length_drop, List.length_cons, List.length_nil, List.length_replicate, List.length_set, List.length_reverse, nds_len, numsD_length, mix_len, bn_len, bf_len, tot_len, totF_len, tbl_len, rowB_len]; omega) | (simp only [List.length_map, List.length_append, List.length_take, List.length_drop, List.length_cons, List.length_nil, List.length_replicate, List.length_set, List.length_reverse, nds_len, numsD_length, mix_len, bn_len, bf_len, tot_len, totF_len, tbl_len, rowB_len]; exact ⟨by omega, by omega⟩) | exact nds_each | (refine map_each ?_; intro x; rfl) | (refine first_map ?_; intro x; rfl) | exact first_nds | simp | (simp; omega)); done)); conv => whnf)
    | (refine Each.mapAt (by assumption) ?_; conv => whnf)
    | (refine Each.ndsAt (by assumption) ?_; conv => whnf)
    | (refine Each.at (by assumption) ?_; conv => whnf)
    | (refine Each.map (fun x hx => ?_); (try simp only [Int.toNat_natCast, Int.toNat_zero, Int.toNat_one, Int.toNat_natCast_add_one] at hx); conv => whnf)
    | (refine Each.nds (fun a b c ps hx => ?_); (try simp only [Int.toNat_natCast, Int.toNat_zero, Int.toNat_one, Int.toNat_natCast_add_one] at hx); conv => whnf)
    | (refine Each.rep ?_; conv => whnf)
    | (refine Each.drop ?_)
    | (refine Each.take (fun hi => ?_))
    | (refine Each.any (fun x hx => ?_); (try simp only [Int.toNat_natCast, Int.toNat_zero, Int.toNat_one, Int.toNat_natCast_add_one] at hx); conv => whnf)
    | (refine NilB.any (fun hn => ?_) ?_ <;> conv => whnf)
    | (refine ⟨_, bytesOfD_nums _, ?_⟩; conv => whnf)
    | exact ⟨rfl, rfl⟩
    | (refine Fin.bool ?_ rfl)
    | (refine Fin.int ?_ rfl)
    | (refine Fin.str ?_ rfl)
    | (refine Fin.sl ?_ rfl)
    | exact trivial)
      refine WP.cut ⟨[(7, .ref 0 0 0), (8, (.d (.int .i64 (((tot la).map iL).length)))), (9, .ref 1 0 0), (37, (.d (.sl ((tot lb).map iL)))), (38, (.d (.int .i64 (((tot lb).map iL).length)))), (39, (.d (.int .i64 (i))))], [(0, .var 41 [(.d (.sl ((tot lb).map iL))), (.d (.sl ((totF bb).map iB)))]), (1, .var 41 [.full 2, .full 3]), (2, .row 43 ((bn la lb (i + 1)).map iL)), (3, .row 4 ((bf ba bb (i + 1)).map iB))], 4, 84⟩ ?_ ?_
      · rw [en, ef]
        repeat' (first
    | (refine Br.tt ?_; conv => whnf)
    | (refine Br.ff ?_; conv => whnf)
    | (refine Both.mk ?_ ?_ <;> conv => whnf)
    | (refine Br.not ?_)
    | (refine Need.mk ?_ ?_; (focus ((first | omega | exact ⟨by omega, by omega⟩ | rfl | exact trivial | assumption | (simp only [List.length_map, List.length_append, List.length_take, List.length_drop, List.length_cons, List.length_nil, List.length_replicate, List.length_set, List.length_reverse, nds_len, numsD_length, mix_len, bn_len, bf_len, tot_len, totF_len, tbl_len, rowB_len]; omega) | (simp only [List.length_map, List.length_append, List.length_take, List.length_drop, List.length_cons, List.length_nil, List.length_replicate, List.length_set, List.length_reverse, nds_len, numsD_length, mix_len, bn_len, bf_len, tot_len, totF_len, tbl_len, rowB_len]; exact ⟨by omega, by omega⟩) | exact nds_each | (refine map_each ?_; intro x; rfl) | (refine first_map ?_; intro x; rfl) | exact first_nds | simp | (simp; omega)); done)); conv => whnf)
    | (refine Br.t (by assumption) ?_; conv => whnf)
    | (refine Br.f (by assumption) ?_; conv => whnf)
    | (refine Br.self ?_; conv => whnf)
    | (refine Br.decT (by assumption) ?_; conv => whnf)
    | (refine Br.decF (by assumption) ?_; conv => whnf)
    | (refine Br.eqT (by assumption) ?_; conv => whnf)
    | (refine Br.eqF (by assumption) ?_; conv => whnf)
    | (refine Br.dec (fun hc => ?_) (fun hc => ?_) <;> (try simp only [List.length_map, List.length_append, List.length_take, List.length_drop, List.length_cons, List.length_nil, List.length_replicate, List.length_set, List.length_reverse, nds_len, numsD_length, mix_len, bn_len, bf_len, tot_len, totF_len, tbl_len, rowB_len] at hc) <;> first | (exfalso; omega) | exact absurd trivial hc | exact absurd rfl hc | conv => whnf)
    | (refine Br.eq (fun hc => ?_) (fun hc => ?_) <;> first | (exfalso; omega) | exact absurd trivial hc | exact absurd rfl hc | conv => whnf)
    | (refine Br.ne (fun hc => ?_) (fun hc => ?_) <;> first | (exfalso; omega) | exact absurd trivial hc | exact absurd rfl hc | conv => whnf)
    | (with_reducible refine Br.and ?_)
    | (with_reducible refine Br.or ?_)
    | (refine Br.any (fun hc => ?_) (fun hc => ?_) <;> conv => whnf)
    | (refine Fit.inl ?_ ?_; (focus ((first | omega | exact ⟨by omega, by omega⟩ | rfl | exact trivial | assumption | (simp only [List.length_map, List.length_append, List.length_take, List.length_drop, List.length_cons, List.length_nil, List.length_replicate, List.length_set, List.length_reverse, nds_len, numsD_length, mix_len, bn_len, bf_len, tot_len, totF_len, tbl_len, rowB_len]; omega) | (simp only [List.length_map, List.length_append, List.length_take, List.length_drop, List.length_cons, List.length_nil, List.length_replicate, List.length_set, List.length_reverse, nds_len, numsD_length, mix_len, bn_len, bf_len, tot_len, totF_len, tbl_len, rowB_len]; exact ⟨by omega, by omega⟩) | exact nds_each | (refine map_each ?_; intro x; rfl) | (refine first_map ?_; intro x; rfl) | exact first_nds | simp | (simp; omega)); done)); conv => whnf)
    | (refine Each.mapAt (by assumption) ?_; conv => whnf)
    | (refine Each.ndsAt (by assumption) ?_; conv => whnf)
    | (refine Each.at (by assumption) ?_; conv => whnf)
    | (refine Each.map (fun x hx => ?_); (try simp only [Int.toNat_natCast, Int.toNat_zero, Int.toNat_one, Int.toNat_natCast_add_one] at hx); conv => whnf)
    | (refine Each.nds (fun a b c ps hx => ?_); (try simp only [Int.toNat_natCast, Int.toNat_zero, Int.toNat_one, Int.toNat_natCast_add_one] at hx); conv => whnf)
    | (refine Each.rep ?_; conv => whnf)
    | (refine Each.drop ?_)
    | (refine Each.take (fun hi => ?_))
    | (refine Each.any (fun x hx => ?_); (try simp only [Int.toNat_natCast, Int.toNat_zero, Int.toNat_one, Int.toNat_natCast_add_one] at hx); conv => whnf)
    | (refine NilB.any (fun hn => ?_) ?_ <;> conv => whnf)
    | (refine ⟨_, bytesOfD_nums _, ?_⟩; conv => whnf)
    | (refine WP.sch (id := 6) tabOK hmix (.mob 0 (.mob 3 (.alt [(1, .alt [(2, .alt [(4, .alt [(5, .alt [(6, .alt [(7, .alt [(8, .done)])]), (7, .alt [(6, .alt [(8, .done)])])]), (7, .alt [(5, .alt [(6, .alt [(8, .done)])])])]), (7, .alt [(4, .alt [(5, .alt [(6, .alt [(8, .done)])])])])]), (4, .alt [(2, .alt [(5, .alt [(6, .alt [(7, .alt [(8, .done)])]), (7, .alt [(6, .alt [(8, .done)])])]), (7, .alt [(5, .alt [(6, .alt [(8, .done)])])])]), (7, .alt [(2, .alt [(5, .alt [(6, .alt [(8, .done)])])])])]), (7, .alt [(2, .alt [(4, .alt [(5, .alt [(6, .alt [(8, .done)])])])]), (4, .alt [(2, .alt [(5, .alt [(6, .alt [(8, .done)])])])])])]), (4, .alt [(1, .alt [(2, .alt [(5, .alt [(6, .alt [(7, .alt [(8, .done)])]), (7, .alt [(6, .alt [(8, .done)])])]), (7, .alt [(5, .alt [(6, .alt [(8, .done)])])])]), (7, .alt [(2, .alt [(5, .alt [(6, .alt [(8, .done)])])])])]), (7, .alt [(1, .alt [(2, .alt [(5, .alt [(6, .alt [(8, .done)])])])])])]), (7, .alt [(1, .alt [(2, .alt [(4, .alt [(5, .alt [(6, .alt [(8, .done)])])])]), (4, .alt [(2, .alt [(5, .alt [(6, .alt [(8, .done)])])])])]), (4, .alt [(1, .alt [(2, .alt [(5, .alt [(6, .alt [(8, .done)])])])])])])]))) (by kernel_rfl) ?_; conv => whnf)
    | (refine WP.sch (id := 17) tabOK hmix (.mob 0 (.mob 2 (.mob 4 (.alt [(1, .alt [(3, .mob 5 (.mob 6 (.alt [(7, .alt [(8, .mob 9 (.alt [(10, .done)]))])])))]), (3, .mob 5 (.mob 6 (.alt [(1, .alt [(7, .alt [(8, .mob 9 (.alt [(10, .done)]))])]), (7, .alt [(1, .alt [(8, .mob 9 (.alt [(10, .done)]))])])])))])))) (by kernel_rfl) ?_; conv => whnf)
    | exact ⟨rfl, rfl⟩
    | (refine Fin.bool ?_ rfl)
    | (refine Fin.int ?_ rfl)
    | (refine Fin.str ?_ rfl)
    | (refine Fin.sl ?_ rfl)
    | exact trivial)
        all_goals repeat (first | exact True.intro | (refine Need.mk ?_ ?_; (focus ((first | rfl | assumption | omega | (simp only [List.length_map, List.length_append, List.length_take, List.length_drop, List.length_cons, List.length_nil, List.length_replicate, List.length_set, List.length_reverse, nds_len, numsD_length, mix_len, bn_len, bf_len, tot_len, totF_len, tbl_len, rowB_len]; omega) | simp [iL, iB]); done)); conv => whnf) | ((conv => whnf); exact True.intro))
      conv => whnf
      repeat' (first
    | (refine Br.tt ?_; conv => whnf)
    | (refine Br.ff ?_; conv => whnf)
    | (refine Both.mk ?_ ?_ <;> conv => whnf)
    | (refine Br.not ?_)
    | (refine Need.mk ?_ ?_; (focus ((first | omega | exact ⟨by omega, by omega⟩ | rfl | exact trivial | assumption | (simp only [List.length_map, List.length_append, List.length_take, List.length_drop, List.length_cons, List.length_nil, List.length_replicate, List.length_set, List.length_reverse, nds_len, numsD_length, mix_len, bn_len, bf_len, tot_len, totF_len, tbl_len, rowB_len]; omega) | (simp only [List.length_map, List.length_append, List.length_take, List.length_drop, List.length_cons, List.length_nil, List.length_replicate, List.length_set, List.length_reverse, nds_len, numsD_length, mix_len, bn_len, bf_len, tot_len, totF_len, tbl_len, rowB_len]; exact ⟨by omega, by omega⟩) | exact nds_each | (refine map_each ?_; intro x; rfl) | (refine first_map ?_; intro x; rfl) | exact first_nds | simp | (simp; omega)); done)); conv => whnf)
    | (refine Br.t (by assumption) ?_; conv => whnf)
    | (refine Br.f (by assumption) ?_; conv => whnf)
    | (refine Br.self ?_; conv => whnf)
    | (refine Br.decT (by assumption) ?_; conv => whnf)
    | (refine Br.decF (by assumption) ?_; conv => whnf)
    | (refine Br.eqT (by assumption) ?_; conv => whnf)
    | (refine Br.eqF (by assumption) ?_; conv => whnf)
    | (refine Br.dec (fun hc => ?_) (fun hc => ?_) <;> (try simp only [List.length_map, List.length_append, List.length_take, List.length_drop, List.length_cons, List.length_nil, List.length_replicate, List.length_set, List.length_reverse, nds_len, numsD_length, mix_len, bn_len, bf_len, tot_len, totF_len, tbl_len, rowB_len] at hc) <;> first | (exfalso; omega) | exact absurd trivial hc | exact absurd rfl hc | conv => whnf)
    | (refine Br.eq (fun hc => ?_) (fun hc => ?_) <;> first | (exfalso; omega) | exact absurd trivial hc | exact absurd rfl hc | conv => whnf)
    | (refine Br.ne (fun hc => ?_) (fun hc => ?_) <;> first | (exfalso; omega) | exact absurd trivial hc | exact absurd rfl hc | conv => whnf)
    | (with_reducible refine Br.and ?_)
    | (with_reducible refine Br.or ?_)
    | (refine Br.any (fun hc => ?_) (fun hc => ?_) <;> conv => whnf)
    | (refine Fit.inl ?_ ?_; (focus ((first | omega | exact ⟨by omega, by omega⟩ | rfl | exact trivial | assumption | (simp only [List.length_map, List.length_append, List.length_take, List.length_drop, List.length_cons, List.length_nil, List.length_replicate, List.length_set, List.length_reverse, nds_len, numsD_length, mix_len, bn_len, bf_len, tot_len, totF_len, tbl_len, rowB_len]; omega) | (simp only [List.length_map, List.length_append, List.length_take, List.length_drop, List.length_cons, List.length_nil, List.length_replicate, List.length_set, List.length_reverse, nds_len, numsD_length, mix_len, bn_len, bf_len, tot_len, totF_len, tbl_len, rowB_len]; exact ⟨by omega, by omega⟩) | exact nds_each | (refine map_each ?_; intro x; rfl) | (refine first_map ?_; intro x; rfl) | exact first_nds | simp | (simp; omega)); done)); conv => whnf)
    | (refine Each.mapAt (by assumption) ?_; conv => whnf)
    | (refine Each.ndsAt (by assumption) ?_; conv => whnf)
    | (refine Each.at (by assumption) ?_; conv => whnf)
    | (refine Each.map (fun x hx => ?_); (try simp only [Int.toNat_natCast, Int.toNat_zero, Int.toNat_one, Int.toNat_natCast_add_one] at hx); conv => whnf)
    | (refine Each.nds (fun a b c ps hx => ?_); (try simp only [Int.toNat_natCast, Int.toNat_zero, Int.toNat_one, Int.toNat_natCast_add_one] at hx); conv => whnf)
    | (refine Each.rep ?_; conv => whnf)
    | (refine Each.drop ?_)
    | (refine Each.take (fun hi => ?_))
    | (refine Each.any (fun x hx => ?_); (try simp only [Int.toNat_natCast, Int.toNat_zero, Int.toNat_one, Int.toNat_natCast_add_one] at hx); conv => whnf)
    | (refine NilB.any (fun hn => ?_) ?_ <;> conv => whnf)
    | (refine ⟨_, bytesOfD_nums _, ?_⟩; conv => whnf)
    | (refine WP.sch (id := 6) tabOK hmix (.mob 0 (.mob 3 (.alt [(1, .alt [(2, .alt [(4, .alt [(5, .alt [(6, .alt [(7, .alt [(8, .done)])]), (7, .alt [(6, .alt [(8, .done)])])]), (7, .alt [(5, .alt [(6, .alt [(8, .done)])])])]), (7, .alt [(4, .alt [(5, .alt [(6, .alt [(8, .done)])])])])]), (4, .alt [(2, .alt [(5, .alt [(6, .alt [(7, .alt [(8, .done)])]), (7, .alt [(6, .alt [(8, .done)])])]), (7, .alt [(5, .alt [(6, .alt [(8, .done)])])])]), (7, .alt [(2, .alt [(5, .alt [(6, .alt [(8, .done)])])])])]), (7, .alt [(2, .alt [(4, .alt [(5, .alt [(6, .alt [(8, .done)])])])]), (4, .alt [(2, .alt [(5, .alt [(6, .alt [(8, .done)])])])])])]), (4, .alt [(1, .alt [(2, .alt [(5, .alt [(6, .alt [(7, .alt [(8, .done)])]), (7, .alt [(6, .alt [(8, .done)])])]), (7, .alt [(5, .alt [(6, .alt [(8, .done)])])])]), (7, .alt [(2, .alt [(5, .alt [(6, .alt [(8, .done)])])])])]), (7, .alt [(1, .alt [(2, .alt [(5, .alt [(6, .alt [(8, .done)])])])])])]), (7, .alt [(1, .alt [(2, .alt [(4, .alt [(5, .alt [(6, .alt [(8, .done)])])])]), (4, .alt [(2, .alt [(5, .alt [(6, .alt [(8, .done)])])])])]), (4, .alt [(1, .alt [(2, .alt [(5, .alt [(6, .alt [(8, .done)])])])])])])]))) (by kernel_rfl) ?_; conv => whnf)
    | (refine WP.sch (id := 17) tabOK hmix (.mob 0 (.mob 2 (.mob 4 (.alt [(1, .alt [(3, .mob 5 (.mob 6 (.alt [(7, .alt [(8, .mob 9 (.alt [(10, .done)]))])])))]), (3, .mob 5 (.mob 6 (.alt [(1, .alt [(7, .alt [(8, .mob 9 (.alt [(10, .done)]))])]), (7, .alt [(1, .alt [(8, .mob 9 (.alt [(10, .done)]))])])])))])))) (by kernel_rfl) ?_; conv => whnf)
    | exact ⟨rfl, rfl⟩
    | (refine Fin.bool ?_ rfl)
    | (refine Fin.int ?_ rfl)
    | (refine Fin.str ?_ rfl)
    | (refine Fin.sl ?_ rfl)
    | exact trivial)
      refine ⟨i + 1, by omega, by dsimp only; omega, ?_⟩
      conv => whnf
      repeat (first | exact True.intro | (refine Need.mk ?_ ?_; (focus ((first | rfl | assumption | omega | (simp only [List.length_map, List.length_append, List.length_take, List.length_drop, List.length_cons, List.length_nil, List.length_replicate, List.length_set, List.length_reverse, nds_len, numsD_length, mix_len, bn_len, bf_len, tot_len, totF_len, tbl_len, rowB_len]; omega) | simp); done)); conv => whnf) | ((conv => whnf); exact True.intro))
  · have hie : i = lb.length + 1 := by omega
    subst hie
    have hrow := bn_row ta tb
    have hNl := bn_len la lb (lb.length + 1)
    conv => whnf
    repeat' (first
    | (refine Br.tt ?_; conv => whnf)
    | (refine Br.ff ?_; conv => whnf)
    | (refine Both.mk ?_ ?_ <;> conv => whnf)
    | (refine Br.not ?_)
    | (refine Need.mk ?_ ?_; (focus ((first | omega | exact ⟨by omega, by omega⟩ | rfl | exact trivial | assumption | (simp only [List.length_map, List.length_append, List.length_take, List.length_drop, List.length_cons, List.length_nil, List.length_replicate, List.length_set, List.length_reverse, nds_len, numsD_length, mix_len, bn_len, bf_len, tot_len, totF_len, tbl_len, rowB_len]; omega) | (simp only [List.length_map, List.length_append, List.length_take, List.length_drop, List.length_cons, List.length_nil, List.length_replicate, List.length_set, List.length_reverse, nds_len, numsD_length, mix_len, bn_len, bf_len, tot_len, totF_len, tbl_len, rowB_len]; exact ⟨by omega, by omega⟩) | exact nds_each | (refine map_each ?_; intro x; rfl) | (refine first_map ?_; intro x; rfl) | exact first_nds | simp | (simp; omega)); done)); conv => whnf)
    | (refine Br.t (by assumption) ?_; conv => whnf)
    | (refine Br.f (by assumption) ?_; conv => whnf)
    | (refine Br.self ?_; conv => whnf)
    | (refine Br.decT (by assumption) ?_; conv => whnf)
    | (refine Br.decF (by assumption) ?_; conv => whnf)
    | (refine Br.eqT (by assumption) ?_; conv => whnf)
    | (refine Br.eqF (by assumption) ?_; conv => whnf)
    | (refine Br.dec (fun hc => ?_) (fun hc => ?_) <;> (try simp only [List.length_map, List.length_append, List.length_take, List.length_drop, List.length_cons, List.length_nil, List.length_replicate, List.length_set, List.length_reverse, nds_len, numsD_length, mix_len, bn_len, bf_len, tot_len, totF_len, tbl_len, rowB_len] at hc) <;> first | (exfalso; omega) | exact absurd trivial hc | exact absurd rfl hc | conv => whnf)
    | (refine Br.eq (fun hc => ?_) (fun hc => ?_) <;> first | (exfalso; omega) | exact absurd trivial hc | exact absurd rfl hc | conv => whnf)
    | (refine Br.ne (fun hc => ?_) (fun hc => ?_) <;> first | (exfalso; omega) | exact absurd trivial hc | exact absurd rfl hc | conv => whnf)
    | (with_reducible refine Br.and ?_)
    | (with_reducible refine Br.or ?_)
    | (refine Br.any (fun hc => ?_) (fun hc => ?_) <;> conv => whnf)
    | (refine Fit.inl ?_ ?_; (focus ((first | omega | exact ⟨by omega, by omega⟩ | rfl | exact trivial | assumption | (simp only [List.length_map, List.length_append, List.length_take, List.length_drop, List.length_cons, List.length_nil, List.length_replicate, List.length_set, List.length_reverse, nds_len, numsD_length, mix_len, bn_len, bf_len, tot_len, totF_len, tbl_len, rowB_len]; omega) | (simp only [List.length_map, List.length_append, List.length_take, List.length_drop, List.length_cons, List.length_nil, List.length_replicate, List.length_set, List.length_reverse, nds_len, numsD_length, mix_len, bn_len, bf_len, tot_len, totF_len, tbl_len, rowB_len]; exact ⟨by omega, by omega⟩) | exact nds_each | (refine map_each ?_; intro x; rfl) | (refine first_map ?_; intro x; rfl) | exact first_nds | simp | (simp; omega)); done)); conv => whnf)
    | (refine Each.mapAt (by assumption) ?_; conv => whnf)
    | (refine Each.ndsAt (by assumption) ?_; conv => whnf)
    | (refine Each.at (by assumption) ?_; conv => whnf)
    | (refine Each.map (fun x hx => ?_); (try simp only [Int.toNat_natCast, Int.toNat_zero, Int.toNat_one, Int.toNat_natCast_add_one] at hx); conv => whnf)
    | (refine Each.nds (fun a b c ps hx => ?_); (try simp only [Int.toNat_natCast, Int.toNat_zero, Int.toNat_one, Int.toNat_natCast_add_one] at hx); conv => whnf)
    | (refine Each.rep ?_; conv => whnf)
    | (refine Each.drop ?_)
    | (refine Each.take (fun hi => ?_))
    | (refine Each.any (fun x hx => ?_); (try simp only [Int.toNat_natCast, Int.toNat_zero, Int.toNat_one, Int.toNat_natCast_add_one] at hx); conv => whnf)
    | (refine NilB.any (fun hn => ?_) ?_ <;> conv => whnf)
    | ((refine CallWP.mono (distC (bn la lb (lb.length + 1)) (bf ba bb (lb.length + 1)) (by rw [bf_len, bn_len]; omega) (by rw [bn_len]; omega) hrow) ?_; rintro r h ⟨T, rfl, rfl, hT⟩; have h0 := tbl_at (T := T) (i := 0) (show 0 < (bn la lb (lb.length + 1)).length by omega)); conv => whnf)
    | (refine ⟨_, bytesOfD_nums _, ?_⟩; conv => whnf)
    | (refine WP.sch (id := 6) tabOK hmix (.mob 0 (.mob 3 (.alt [(1, .alt [(2, .alt [(4, .alt [(5, .alt [(6, .alt [(7, .alt [(8, .done)])]), (7, .alt [(6, .alt [(8, .done)])])]), (7, .alt [(5, .alt [(6, .alt [(8, .done)])])])]), (7, .alt [(4, .alt [(5, .alt [(6, .alt [(8, .done)])])])])]), (4, .alt [(2, .alt [(5, .alt [(6, .alt [(7, .alt [(8, .done)])]), (7, .alt [(6, .alt [(8, .done)])])]), (7, .alt [(5, .alt [(6, .alt [(8, .done)])])])]), (7, .alt [(2, .alt [(5, .alt [(6, .alt [(8, .done)])])])])]), (7, .alt [(2, .alt [(4, .alt [(5, .alt [(6, .alt [(8, .done)])])])]), (4, .alt [(2, .alt [(5, .alt [(6, .alt [(8, .done)])])])])])]), (4, .alt [(1, .alt [(2, .alt [(5, .alt [(6, .alt [(7, .alt [(8, .done)])]), (7, .alt [(6, .alt [(8, .done)])])]), (7, .alt [(5, .alt [(6, .alt [(8, .done)])])])]), (7, .alt [(2, .alt [(5, .alt [(6, .alt [(8, .done)])])])])]), (7, .alt [(1, .alt [(2, .alt [(5, .alt [(6, .alt [(8, .done)])])])])])]), (7, .alt [(1, .alt [(2, .alt [(4, .alt [(5, .alt [(6, .alt [(8, .done)])])])]), (4, .alt [(2, .alt [(5, .alt [(6, .alt [(8, .done)])])])])]), (4, .alt [(1, .alt [(2, .alt [(5, .alt [(6, .alt [(8, .done)])])])])])])]))) (by kernel_rfl) ?_; conv => whnf)
    | (refine WP.sch (id := 17) tabOK hmix (.mob 0 (.mob 2 (.mob 4 (.alt [(1, .alt [(3, .mob 5 (.mob 6 (.alt [(7, .alt [(8, .mob 9 (.alt [(10, .done)]))])])))]), (3, .mob 5 (.mob 6 (.alt [(1, .alt [(7, .alt [(8, .mob 9 (.alt [(10, .done)]))])]), (7, .alt [(1, .alt [(8, .mob 9 (.alt [(10, .done)]))])])])))])))) (by kernel_rfl) ?_; conv => whnf)
    | exact ⟨rfl, rfl⟩
    | (refine Fin.bool ?_ rfl)
    | (refine Fin.int ?_ rfl)
    | (refine Fin.str ?_ rfl)
    | (refine Fin.sl ?_ rfl)
    | exact trivial)
    have hxe : T 0 (la.length + 1) = x := by
      rw [List.length_map, q1, rowB, List.getElem?_map, List.getElem?_range (by omega)] at hx
      simpa using hx
    have ht := hT 0 (la.length + 1) (by omega) (by omega)
    refine ⟨?_, rfl⟩
    rw [← hxe]
    cases h : T 0 (la.length + 1) with
    | true =>
      have : ¬ SameW (dN (bn la lb (lb.length + 1))) (dN (bn la lb (lb.length + 1))) (fN (bf ba bb (lb.length + 1))) (fN (bf ba bb (lb.length + 1))) 0 (la.length + 1) := fun hs => by
        have := ht.2 hs
        rw [h] at this; cases this
      simp [sameN, this]
    | false => simp [sameN, ht.1 h]
end Go.VL.SameRef
