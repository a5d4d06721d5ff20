/- bobbinetref.utfBytes: a letter's bytes. -/
import Derived.Test.YtekmfhoppbpobaaDoorVTab
import Derived.Test.YtekmfhoppbpobaaDoorVTy3
import Derived.Test.YtekmfhoppbpobaaDoorVMv
import Derived.Lib.MapLaws
set_option linter.unusedVariables false
set_option linter.unusedSimpArgs false
namespace Go.VL.UtfBytes
open Go Go.Proofs Go.VL
set_option maxRecDepth 100000
attribute [local irreducible] CallWP WP Need Br Each NilB fit Both
def letter (n : Int) : Bool := decide (n ≥ 0) && decide (n ≤ 1114111) && (decide (n < 55296) || decide (n > 57343))
theorem letter_iff {n : Int} : letter n = true ↔ 0 ≤ n ∧ n ≤ 1114111 ∧ (n < 55296 ∨ n > 57343) := by simp [letter, and_assoc]
theorem letterR (n : Int) : CallWP Tryd.prog 41 [(.d (.int .i64 (n)))] [] (fun r h => r = .d (.bool (letter n)) ∧ h = []) := by
  (refine CallWP.go tabOK Tryd.func41 0 17 rfl rfl rfl rfl ?_; conv => whnf)
  repeat' (first
    | (refine Br.tt ?_; conv => whnf)
    | (refine Br.ff ?_; conv => whnf)
    | (refine Both.mk ?_ ?_ <;> conv => whnf)
    | (refine Br.not ?_)
    | (refine Need.mk ?_ ?_; (focus ((first | omega | exact ⟨by omega, by omega⟩ | rfl | exact trivial | assumption | (simp only [List.length_map, List.length_append, List.length_take, List.length_drop, List.length_cons, List.length_nil, List.length_replicate, List.length_set, List.length_reverse, nds_len, numsD_length]; omega) | (simp only [List.length_map, List.length_append, List.length_take, List.length_drop, List.length_cons, List.length_nil, List.length_replicate, List.length_set, List.length_reverse, nds_len, numsD_length]; exact ⟨by omega, by omega⟩) | exact nds_each | (refine map_each ?_; intro x; rfl) | (refine first_map ?_; intro x; rfl) | exact first_nds | simp | (simp; omega)); done)); conv => whnf)
    | (refine Br.t (by assumption) ?_; conv => whnf)
    | (refine Br.f (by assumption) ?_; conv => whnf)
    | (refine Br.self ?_; conv => whnf)
    | (refine Br.decT (by assumption) ?_; conv => whnf)
    | (refine Br.decF (by assumption) ?_; conv => whnf)
    | (refine Br.eqT (by assumption) ?_; conv => whnf)
    | (refine Br.eqF (by assumption) ?_; conv => whnf)
    | (refine Br.dec (fun hc => ?_) (fun hc => ?_) <;> (try simp only [List.length_map, List.length_append, List.length_take, List.length_drop, List.length_cons, List.length_nil, List.length_replicate, List.length_set, List.length_reverse, nds_len, numsD_length] at hc) <;> first | (exfalso; omega) | exact absurd trivial hc | exact absurd rfl hc | conv => whnf)
    | (refine Br.eq (fun hc => ?_) (fun hc => ?_) <;> first | (exfalso; omega) | exact absurd trivial hc | exact absurd rfl hc | conv => whnf)
    | (refine Br.ne (fun hc => ?_) (fun hc => ?_) <;> first | (exfalso; omega) | exact absurd trivial hc | exact absurd rfl hc | conv => whnf)
    | (with_reducible refine Br.and ?_)
    | (with_reducible refine Br.or ?_)
    | (refine Br.any (fun hc => ?_) (fun hc => ?_) <;> conv => whnf)
    | (refine Fit.inl ?_ ?_; (focus ((first | omega | exact ⟨by omega, by omega⟩ | rfl | exact trivial | assumption | (simp only [List.length_map, List.length_append, List.length_take, List.length_drop, List.length_cons, List.length_nil, List.length_replicate, List.length_set, List.length_reverse, nds_len, numsD_length]; omega) | (simp only [List.length_map, List.length_append, List.length_take, List.length_drop, List.length_cons, List.length_nil, List.length_replicate, List.length_set, List.length_reverse, nds_len, numsD_length]; exact ⟨by omega, by omega⟩) | exact nds_each | (refine map_each ?_; intro x; rfl) | (refine first_map ?_; intro x; rfl) | exact first_nds | simp | (simp; omega)); done)); conv => whnf)
    | (refine Each.mapAt (by assumption) ?_; conv => whnf)
    | (refine Each.ndsAt (by assumption) ?_; conv => whnf)
    | (refine Each.at (by assumption) ?_; conv => whnf)
    | (refine Each.map (fun x hx => ?_); (try simp only [Int.toNat_natCast, Int.toNat_zero, Int.toNat_one, Int.toNat_natCast_add_one] at hx); conv => whnf)
    | (refine Each.nds (fun a b c ps hx => ?_); (try simp only [Int.toNat_natCast, Int.toNat_zero, Int.toNat_one, Int.toNat_natCast_add_one] at hx); conv => whnf)
    | (refine Each.rep ?_; conv => whnf)
    | (refine Each.drop ?_)
    | (refine Each.take (fun hi => ?_))
    | (refine Each.any (fun x hx => ?_); (try simp only [Int.toNat_natCast, Int.toNat_zero, Int.toNat_one, Int.toNat_natCast_add_one] at hx); conv => whnf)
    | (refine NilB.any (fun hn => ?_) ?_ <;> conv => whnf)
    | (refine ⟨_, bytesOfD_nums _, ?_⟩; conv => whnf)
    | exact ⟨rfl, rfl⟩
    | (refine Fin.bool ?_ rfl)
    | (refine Fin.int ?_ rfl)
    | (refine Fin.str ?_ rfl)
    | (refine Fin.sl ?_ rfl)
    | exact trivial)
  all_goals simp [letter, *]
def encC (n : Int) : List (List D) := (Lib.encodeRuneZ n).map fun x => [D.int .u8 x]
theorem encZ_rng (n : Int) : ∀ x ∈ Lib.encodeRuneZ n, 0 ≤ x ∧ x ≤ 255 := by
  unfold Lib.encodeRuneZ
  (repeat' split) <;> simp <;> omega
theorem encC_nums (n : Int) : encC n = numsD (Lib.encodeRune n) := by
  simp only [encC, numsD, Lib.encodeRune, List.map_map]
  refine List.map_congr_left fun x hx => ?_
  obtain ⟨h1, h2⟩ := encZ_rng n x hx
  have : (x.toNat.toUInt8.toNat : Int) = x := by
    have e : x.toNat.toUInt8.toNat = x.toNat % 256 := by simp
    omega
  simp only [Function.comp_apply, this]
theorem tdm {n k : Int} (h : 0 ≤ n) (hk : 0 < k) : n.tdiv k = n / k ∧ (n.tdiv k).tmod 64 = n / k % 64 ∧ 0 ≤ n / k := by
  have h1 : 0 ≤ n / k := Int.ediv_nonneg h (by omega)
  have h2 : n.tdiv k = n / k := Int.tdiv_eq_ediv_of_nonneg h
  exact ⟨h2, by rw [h2]; exact Int.tmod_eq_emod_of_nonneg h1, h1⟩
theorem low_ (n k : Int) (hn : 0 ≤ n) (hn2 : n ≤ 1114111) (hk : 0 < k) : CallWP Tryd.prog 42 [(.d (.int .i64 (k))), .ref 0 0 0] [(0, .var 3 [(.d (.int .i64 (n)))])] (fun r h => r = .d (.int .u8 (128 + n / k % 64)) ∧ h = [(0, .var 3 [(.d (.int .i64 (n)))])]) := by
  obtain ⟨e1, e2, e3⟩ := tdm hn hk
  have e4 : n / k ≤ n := Int.ediv_le_self _ hn
  have e5 : 0 ≤ (n.tdiv k).tmod 64 ∧ (n.tdiv k).tmod 64 < 64 := by rw [e2]; omega
  have e6 : 0 ≤ n.tdiv k ∧ n.tdiv k ≤ 1114111 := by rw [e1]; omega
  rw [← e2]
  (refine CallWP.go tabOK Tryd.func42 1 10 rfl rfl rfl rfl ?_; conv => whnf)
  repeat' (first
    | (refine Br.tt ?_; conv => whnf)
    | (refine Br.ff ?_; conv => whnf)
    | (refine Both.mk ?_ ?_ <;> conv => whnf)
    | (refine Br.not ?_)
    | (refine Need.mk ?_ ?_; (focus ((first | omega | exact ⟨by omega, by omega⟩ | rfl | exact trivial | assumption | (simp only [List.length_map, List.length_append, List.length_take, List.length_drop, List.length_cons, List.length_nil, List.length_replicate, List.length_set, List.length_reverse, nds_len, numsD_length]; omega) | (simp only [List.length_map, List.length_append, List.length_take, List.length_drop, List.length_cons, List.length_nil, List.length_replicate, List.length_set, List.length_reverse, nds_len, numsD_length]; exact ⟨by omega, by omega⟩) | exact nds_each | (refine map_each ?_; intro x; rfl) | (refine first_map ?_; intro x; rfl) | exact first_nds | simp | (simp; omega)); done)); conv => whnf)
    | (refine Br.t (by assumption) ?_; conv => whnf)
    | (refine Br.f (by assumption) ?_; conv => whnf)
    | (refine Br.self ?_; conv => whnf)
    | (refine Br.decT (by assumption) ?_; conv => whnf)
    | (refine Br.decF (by assumption) ?_; conv => whnf)
    | (refine Br.eqT (by assumption) ?_; conv => whnf)
    | (refine Br.eqF (by assumption) ?_; conv => whnf)
    | (refine Br.dec (fun hc => ?_) (fun hc => ?_) <;> (try simp only [List.length_map, List.length_append, List.length_take, List.length_drop, List.length_cons, List.length_nil, List.length_replicate, List.length_set, List.length_reverse, nds_len, numsD_length] at hc) <;> first | (exfalso; omega) | exact absurd trivial hc | exact absurd rfl hc | conv => whnf)
    | (refine Br.eq (fun hc => ?_) (fun hc => ?_) <;> first | (exfalso; omega) | exact absurd trivial hc | exact absurd rfl hc | conv => whnf)
    | (refine Br.ne (fun hc => ?_) (fun hc => ?_) <;> first | (exfalso; omega) | exact absurd trivial hc | exact absurd rfl hc | conv => whnf)
    | (with_reducible refine Br.and ?_)
    | (with_reducible refine Br.or ?_)
    | (refine Br.any (fun hc => ?_) (fun hc => ?_) <;> conv => whnf)
    | (refine Fit.inl ?_ ?_; (focus ((first | omega | exact ⟨by omega, by omega⟩ | rfl | exact trivial | assumption | (simp only [List.length_map, List.length_append, List.length_take, List.length_drop, List.length_cons, List.length_nil, List.length_replicate, List.length_set, List.length_reverse, nds_len, numsD_length]; omega) | (simp only [List.length_map, List.length_append, List.length_take, List.length_drop, List.length_cons, List.length_nil, List.length_replicate, List.length_set, List.length_reverse, nds_len, numsD_length]; exact ⟨by omega, by omega⟩) | exact nds_each | (refine map_each ?_; intro x; rfl) | (refine first_map ?_; intro x; rfl) | exact first_nds | simp | (simp; omega)); done)); conv => whnf)
    | (refine Each.mapAt (by assumption) ?_; conv => whnf)
    | (refine Each.ndsAt (by assumption) ?_; conv => whnf)
    | (refine Each.at (by assumption) ?_; conv => whnf)
    | (refine Each.map (fun x hx => ?_); (try simp only [Int.toNat_natCast, Int.toNat_zero, Int.toNat_one, Int.toNat_natCast_add_one] at hx); conv => whnf)
    | (refine Each.nds (fun a b c ps hx => ?_); (try simp only [Int.toNat_natCast, Int.toNat_zero, Int.toNat_one, Int.toNat_natCast_add_one] at hx); conv => whnf)
    | (refine Each.rep ?_; conv => whnf)
    | (refine Each.drop ?_)
    | (refine Each.take (fun hi => ?_))
    | (refine Each.any (fun x hx => ?_); (try simp only [Int.toNat_natCast, Int.toNat_zero, Int.toNat_one, Int.toNat_natCast_add_one] at hx); conv => whnf)
    | (refine NilB.any (fun hn => ?_) ?_ <;> conv => whnf)
    | (refine ⟨_, bytesOfD_nums _, ?_⟩; conv => whnf)
    | exact ⟨rfl, rfl⟩
    | (refine Fin.bool ?_ rfl)
    | (refine Fin.int ?_ rfl)
    | (refine Fin.str ?_ rfl)
    | (refine Fin.sl ?_ rfl)
    | exact trivial)
theorem bytesR (n : Int) (hn : letter n = true) : CallWP Tryd.prog 25 [(.d (.int .i64 (n)))] [] (fun r h => r = .d (.sl (numsD (Lib.encodeRune n))) ∧ h = []) := by
  rw [letter_iff] at hn
  refine CallWP.val (Q := fun r h => r = .full 0 ∧ h = [(0, .row 5 (encC n))]) ?_ (by rintro r h ⟨rfl, rfl⟩; rw [encC_nums]; exact ⟨rfl, rfl⟩)
  have q1 : n.tdiv 64 = n / 64 := Int.tdiv_eq_ediv_of_nonneg hn.1
  have q2 : n.tdiv 4096 = n / 4096 := Int.tdiv_eq_ediv_of_nonneg hn.1
  have q3 : n.tdiv 262144 = n / 262144 := Int.tdiv_eq_ediv_of_nonneg hn.1
  (refine CallWP.go tabOK Tryd.func25 0 44 rfl rfl rfl rfl ?_; conv => whnf)
  repeat' (first
    | (refine Br.tt ?_; conv => whnf)
    | (refine Br.ff ?_; conv => whnf)
    | (refine Both.mk ?_ ?_ <;> conv => whnf)
    | (refine Br.not ?_)
    | (refine Need.mk ?_ ?_; (focus ((first | omega | exact ⟨by omega, by omega⟩ | rfl | exact trivial | assumption | (simp only [List.length_map, List.length_append, List.length_take, List.length_drop, List.length_cons, List.length_nil, List.length_replicate, List.length_set, List.length_reverse, nds_len, numsD_length]; omega) | (simp only [List.length_map, List.length_append, List.length_take, List.length_drop, List.length_cons, List.length_nil, List.length_replicate, List.length_set, List.length_reverse, nds_len, numsD_length]; exact ⟨by omega, by omega⟩) | exact nds_each | (refine map_each ?_; intro x; rfl) | (refine first_map ?_; intro x; rfl) | exact first_nds | simp | (simp; omega)); done)); conv => whnf)
    | (refine Br.t (by assumption) ?_; conv => whnf)
    | (refine Br.f (by assumption) ?_; conv => whnf)
    | (refine Br.self ?_; conv => whnf)
    | (refine Br.decT (by assumption) ?_; conv => whnf)
    | (refine Br.decF (by assumption) ?_; conv => whnf)
    | (refine Br.eqT (by assumption) ?_; conv => whnf)
    | (refine Br.eqF (by assumption) ?_; conv => whnf)
    | (refine Br.dec (fun hc => ?_) (fun hc => ?_) <;> (try simp only [List.length_map, List.length_append, List.length_take, List.length_drop, List.length_cons, List.length_nil, List.length_replicate, List.length_set, List.length_reverse, nds_len, numsD_length] at hc) <;> first | (exfalso; omega) | exact absurd trivial hc | exact absurd rfl hc | conv => whnf)
    | (refine Br.eq (fun hc => ?_) (fun hc => ?_) <;> first | (exfalso; omega) | exact absurd trivial hc | exact absurd rfl hc | conv => whnf)
    | (refine Br.ne (fun hc => ?_) (fun hc => ?_) <;> first | (exfalso; omega) | exact absurd trivial hc | exact absurd rfl hc | conv => whnf)
    | (with_reducible refine Br.and ?_)
    | (with_reducible refine Br.or ?_)
    | (refine Br.any (fun hc => ?_) (fun hc => ?_) <;> conv => whnf)
    | (refine Fit.inl ?_ ?_; (focus ((first | omega | exact ⟨by omega, by omega⟩ | rfl | exact trivial | assumption | (simp only [List.length_map, List.length_append, List.length_take, List.length_drop, List.length_cons, List.length_nil, List.length_replicate, List.length_set, List.length_reverse, nds_len, numsD_length]; omega) | (simp only [List.length_map, List.length_append, List.length_take, List.length_drop, List.length_cons, List.length_nil, List.length_replicate, List.length_set, List.length_reverse, nds_len, numsD_length]; exact ⟨by omega, by omega⟩) | exact nds_each | (refine map_each ?_; intro x; rfl) | (refine first_map ?_; intro x; rfl) | exact first_nds | simp | (simp; omega)); done)); conv => whnf)
    | (refine Each.mapAt (by assumption) ?_; conv => whnf)
    | (refine Each.ndsAt (by assumption) ?_; conv => whnf)
    | (refine Each.at (by assumption) ?_; conv => whnf)
    | (refine Each.map (fun x hx => ?_); (try simp only [Int.toNat_natCast, Int.toNat_zero, Int.toNat_one, Int.toNat_natCast_add_one] at hx); conv => whnf)
    | (refine Each.nds (fun a b c ps hx => ?_); (try simp only [Int.toNat_natCast, Int.toNat_zero, Int.toNat_one, Int.toNat_natCast_add_one] at hx); conv => whnf)
    | (refine Each.rep ?_; conv => whnf)
    | (refine Each.drop ?_)
    | (refine Each.take (fun hi => ?_))
    | (refine Each.any (fun x hx => ?_); (try simp only [Int.toNat_natCast, Int.toNat_zero, Int.toNat_one, Int.toNat_natCast_add_one] at hx); conv => whnf)
    | (refine NilB.any (fun hn => ?_) ?_ <;> conv => whnf)
    | (refine CallWP.mono (low_ n _ hn.1 hn.2.1 (by omega)) ?_; rintro r h ⟨rfl, rfl⟩; conv => whnf)
    | (refine ⟨_, bytesOfD_nums _, ?_⟩; conv => whnf)
    | (refine WP.sch (id := 5) tabOK hmix (.mob 4 (.alt [(0, .mob 1 (.mob 2 (.alt [(3, .alt [(5, .alt [(6, .mob 7 (.done))])]), (5, .alt [(3, .alt [(6, .mob 7 (.done))])])]))), (5, .alt [(0, .mob 1 (.mob 2 (.alt [(3, .alt [(6, .mob 7 (.done))])])))])])) (by kernel_rfl) ?_; conv => whnf)
    | (refine WP.sch (id := 7) tabOK hmix (.mob 4 (.mob 6 (.alt [(0, .mob 1 (.mob 2 (.alt [(3, .alt [(5, .alt [(7, .alt [(8, .mob 9 (.done))])])]), (5, .alt [(3, .alt [(7, .alt [(8, .mob 9 (.done))])]), (7, .alt [(3, .alt [(8, .mob 9 (.done))])])])]))), (5, .alt [(0, .mob 1 (.mob 2 (.alt [(3, .alt [(7, .alt [(8, .mob 9 (.done))])]), (7, .alt [(3, .alt [(8, .mob 9 (.done))])])]))), (7, .alt [(0, .mob 1 (.mob 2 (.alt [(3, .alt [(8, .mob 9 (.done))])])))])])]))) (by kernel_rfl) ?_; conv => whnf)
    | (refine WP.sch (id := 8) tabOK hmix (.mob 4 (.mob 6 (.mob 8 (.alt [(0, .mob 1 (.mob 2 (.alt [(3, .alt [(5, .alt [(7, .alt [(9, .alt [(10, .mob 11 (.done))])])])]), (5, .alt [(3, .alt [(7, .alt [(9, .alt [(10, .mob 11 (.done))])])]), (7, .alt [(3, .alt [(9, .alt [(10, .mob 11 (.done))])]), (9, .alt [(3, .alt [(10, .mob 11 (.done))])])])])]))), (5, .alt [(0, .mob 1 (.mob 2 (.alt [(3, .alt [(7, .alt [(9, .alt [(10, .mob 11 (.done))])])]), (7, .alt [(3, .alt [(9, .alt [(10, .mob 11 (.done))])]), (9, .alt [(3, .alt [(10, .mob 11 (.done))])])])]))), (7, .alt [(0, .mob 1 (.mob 2 (.alt [(3, .alt [(9, .alt [(10, .mob 11 (.done))])]), (9, .alt [(3, .alt [(10, .mob 11 (.done))])])]))), (9, .alt [(0, .mob 1 (.mob 2 (.alt [(3, .alt [(10, .mob 11 (.done))])])))])])])])))) (by kernel_rfl) ?_; conv => whnf)
    | exact ⟨rfl, rfl⟩
    | (refine Fin.bool ?_ rfl)
    | (refine Fin.int ?_ rfl)
    | (refine Fin.str ?_ rfl)
    | (refine Fin.sl ?_ rfl)
    | exact trivial)
  all_goals first
    | (have e : encC n = [[D.int .u8 n]] := by rw [encC, Lib.encodeRuneZ_one hn.1 (by omega)]; rfl
       rw [e]; exact ⟨rfl, rfl⟩)
    | (have e : encC n = [[D.int .u8 (192 + n.tdiv 64)], [D.int .u8 (128 + n / 1 % 64)]] := by rw [encC, Lib.encodeRuneZ_two (by omega) (by omega), q1, Int.ediv_one]; rfl
       rw [e]; exact ⟨rfl, rfl⟩)
    | (have e : encC n = [[D.int .u8 (224 + n.tdiv 4096)], [D.int .u8 (128 + n / 64 % 64)], [D.int .u8 (128 + n / 1 % 64)]] := by rw [encC, Lib.encodeRuneZ_three (by omega), q2, Int.ediv_one]; rfl
       rw [e]; exact ⟨rfl, rfl⟩)
    | (have e : encC n = [[D.int .u8 (240 + n.tdiv 262144)], [D.int .u8 (128 + n / 4096 % 64)], [D.int .u8 (128 + n / 64 % 64)], [D.int .u8 (128 + n / 1 % 64)]] := by rw [encC, Lib.encodeRuneZ_four (by omega) (by omega), q3, Int.ediv_one]; rfl
       rw [e]; exact ⟨rfl, rfl⟩)
end Go.VL.UtfBytes
