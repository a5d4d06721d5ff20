/- bobbinetref.PickParse. -/
import Derived.Test.YtpekbppohnkdbaaDoorPkParse
import Derived.Test.YtpekbppohnkdbaaDoorVNc
import Derived.Test.YtpekbppohnkdbaaDoorVMv
set_option linter.unusedVariables false
set_option linter.unusedSimpArgs false
namespace Go.VL.PkRef
open Go Go.Proofs Go.VL Go.VL.Name Go.VL.PickText
set_option maxRecDepth 100000
attribute [local irreducible] CallWP WP Need Br Each NilB fit Both
def rO (s : Str) (i : Nat) : Ob := .var 41 [(.d (.str (s))), (.d (.int .i64 (i))), (.d (.bool (false)))]
/-- Does t stand at place i? -/
def atB (s : Str) (i : Nat) (t : Str) : Bool := decide ((s.drop i).take t.length = t)
theorem atB_len {s : Str} {i : Nat} {t : Str} (ht : t ≠ []) (h : atB s i t = true) : i + t.length ≤ s.length := by
  simp [atB] at h
  have h1 := congrArg List.length h
  have := List.length_pos_iff.mpr ht
  simp at h1; omega
theorem eatR (s t : Str) (i : Nat) (hs : s.length < 2 ^ 31) (hi : i ≤ s.length) (ht : t ≠ []) (htl : t.length < 2 ^ 31) : CallWP Tryd.prog 12 [.ref 0 0 0, (.d (.str (t)))] [(0, rO s i)] (fun r h => r = (.d (.bool (atB s i t))) ∧ h = [(0, rO s (if atB s i t = true then i + t.length else i))]) := by
  have ht1 := List.length_pos_iff.mpr ht
  unfold rO
  have hcut : i + t.length ≤ s.length → (s.take ((i : Int) + (t.length : Int)).toNat).drop ((i : Nat) : Int).toNat = (s.drop i).take t.length := fun h => by
    rw [show ((i : Int) + (t.length : Int)).toNat = i + t.length by omega, Int.toNat_natCast, List.drop_take]
    congr 1
    all_goals omega
  by_cases hle : i + t.length ≤ s.length
  · have hcut := hcut hle
    cases hb : atB s i t with
    | true =>
      have hh : (s.take ((i : Int) + (t.length : Int)).toNat).drop ((i : Nat) : Int).toNat = t := by rw [hcut]; simpa [atB] using hb
      (refine CallWP.go tabOK Tryd.func12 1 47 rfl rfl rfl rfl ?_; conv => whnf)
      repeat' (first
    | (refine Br.tt ?_; conv => whnf)
    | (refine Br.ff ?_; conv => whnf)
    | (refine Both.mk ?_ ?_ <;> conv => whnf)
    | (refine Br.not ?_)
    | (refine Need.mk ?_ ?_; (focus ((first | omega | exact ⟨by omega, by omega⟩ | rfl | exact trivial | assumption | (simp only [List.length_map, List.length_append, List.length_take, List.length_drop, List.length_cons, List.length_nil, List.length_replicate, List.length_set, List.length_reverse, nds_len, numsD_length]; omega) | (simp only [List.length_map, List.length_append, List.length_take, List.length_drop, List.length_cons, List.length_nil, List.length_replicate, List.length_set, List.length_reverse, nds_len, numsD_length]; exact ⟨by omega, by omega⟩) | exact nds_each | (refine map_each ?_; intro x; rfl) | (refine first_map ?_; intro x; rfl) | exact first_nds | simp | (simp; omega)); done)); conv => whnf)
    | (refine Br.t (by assumption) ?_; conv => whnf)
    | (refine Br.f (by assumption) ?_; conv => whnf)
    | (refine Br.self ?_; conv => whnf)
    | (refine Br.decT (by assumption) ?_; conv => whnf)
    | (refine Br.decF (by assumption) ?_; conv => whnf)
    | (refine Br.eqT (by assumption) ?_; conv => whnf)
    | (refine Br.eqF (by assumption) ?_; conv => whnf)
    | (refine Br.dec (fun hc => ?_) (fun hc => ?_) <;> (try simp only [List.length_map, List.length_append, List.length_take, List.length_drop, List.length_cons, List.length_nil, List.length_replicate, List.length_set, List.length_reverse, nds_len, numsD_length] at hc) <;> first | (exfalso; omega) | exact absurd trivial hc | exact absurd rfl hc | conv => whnf)
    | (refine Br.eq (fun hc => ?_) (fun hc => ?_) <;> first | (exfalso; omega) | exact absurd trivial hc | exact absurd rfl hc | conv => whnf)
    | (refine Br.ne (fun hc => ?_) (fun hc => ?_) <;> first | (exfalso; omega) | exact absurd trivial hc | exact absurd rfl hc | conv => whnf)
    | (with_reducible refine Br.and ?_)
    | (with_reducible refine Br.or ?_)
    | (refine Br.any (fun hc => ?_) (fun hc => ?_) <;> conv => whnf)
    | (refine Fit.inl ?_ ?_; (focus ((first | omega | exact ⟨by omega, by omega⟩ | rfl | exact trivial | assumption | (simp only [List.length_map, List.length_append, List.length_take, List.length_drop, List.length_cons, List.length_nil, List.length_replicate, List.length_set, List.length_reverse, nds_len, numsD_length]; omega) | (simp only [List.length_map, List.length_append, List.length_take, List.length_drop, List.length_cons, List.length_nil, List.length_replicate, List.length_set, List.length_reverse, nds_len, numsD_length]; exact ⟨by omega, by omega⟩) | exact nds_each | (refine map_each ?_; intro x; rfl) | (refine first_map ?_; intro x; rfl) | exact first_nds | simp | (simp; omega)); done)); conv => whnf)
    | (refine Each.mapAt (by assumption) ?_; conv => whnf)
    | (refine Each.ndsAt (by assumption) ?_; conv => whnf)
    | (refine Each.at (by assumption) ?_; conv => whnf)
    | (refine Each.map (fun x hx => ?_); (try simp only [Int.toNat_natCast, Int.toNat_zero, Int.toNat_one, Int.toNat_natCast_add_one] at hx); conv => whnf)
    | (refine Each.nds (fun a b c ps hx => ?_); (try simp only [Int.toNat_natCast, Int.toNat_zero, Int.toNat_one, Int.toNat_natCast_add_one] at hx); conv => whnf)
    | (refine Each.rep ?_; conv => whnf)
    | (refine Each.drop ?_)
    | (refine Each.take (fun hi => ?_))
    | (refine Each.any (fun x hx => ?_); (try simp only [Int.toNat_natCast, Int.toNat_zero, Int.toNat_one, Int.toNat_natCast_add_one] at hx); conv => whnf)
    | (refine NilB.any (fun hn => ?_) ?_ <;> conv => whnf)
    | (refine ⟨_, bytesOfD_nums _, ?_⟩; conv => whnf)
    | (refine WP.still (id := 1) tabOK hmix (by kernel_rfl) ?_; conv => whnf)
    | exact ⟨rfl, rfl⟩
    | (refine Fin.bool ?_ rfl)
    | (refine Fin.int ?_ rfl)
    | (refine Fin.str ?_ rfl)
    | (refine Fin.sl ?_ rfl)
    | exact trivial)
    | false =>
      have hh : ¬ (s.take ((i : Int) + (t.length : Int)).toNat).drop ((i : Nat) : Int).toNat = t := by rw [hcut]; simpa [atB] using hb
      (refine CallWP.go tabOK Tryd.func12 1 47 rfl rfl rfl rfl ?_; conv => whnf)
      repeat' (first
    | (refine Br.tt ?_; conv => whnf)
    | (refine Br.ff ?_; conv => whnf)
    | (refine Both.mk ?_ ?_ <;> conv => whnf)
    | (refine Br.not ?_)
    | (refine Need.mk ?_ ?_; (focus ((first | omega | exact ⟨by omega, by omega⟩ | rfl | exact trivial | assumption | (simp only [List.length_map, List.length_append, List.length_take, List.length_drop, List.length_cons, List.length_nil, List.length_replicate, List.length_set, List.length_reverse, nds_len, numsD_length]; omega) | (simp only [List.length_map, List.length_append, List.length_take, List.length_drop, List.length_cons, List.length_nil, List.length_replicate, List.length_set, List.length_reverse, nds_len, numsD_length]; exact ⟨by omega, by omega⟩) | exact nds_each | (refine map_each ?_; intro x; rfl) | (refine first_map ?_; intro x; rfl) | exact first_nds | simp | (simp; omega)); done)); conv => whnf)
    | (refine Br.t (by assumption) ?_; conv => whnf)
    | (refine Br.f (by assumption) ?_; conv => whnf)
    | (refine Br.self ?_; conv => whnf)
    | (refine Br.decT (by assumption) ?_; conv => whnf)
    | (refine Br.decF (by assumption) ?_; conv => whnf)
    | (refine Br.eqT (by assumption) ?_; conv => whnf)
    | (refine Br.eqF (by assumption) ?_; conv => whnf)
    | (refine Br.dec (fun hc => ?_) (fun hc => ?_) <;> (try simp only [List.length_map, List.length_append, List.length_take, List.length_drop, List.length_cons, List.length_nil, List.length_replicate, List.length_set, List.length_reverse, nds_len, numsD_length] at hc) <;> first | (exfalso; omega) | exact absurd trivial hc | exact absurd rfl hc | conv => whnf)
    | (refine Br.eq (fun hc => ?_) (fun hc => ?_) <;> first | (exfalso; omega) | exact absurd trivial hc | exact absurd rfl hc | conv => whnf)
    | (refine Br.ne (fun hc => ?_) (fun hc => ?_) <;> first | (exfalso; omega) | exact absurd trivial hc | exact absurd rfl hc | conv => whnf)
    | (with_reducible refine Br.and ?_)
    | (with_reducible refine Br.or ?_)
    | (refine Br.any (fun hc => ?_) (fun hc => ?_) <;> conv => whnf)
    | (refine Fit.inl ?_ ?_; (focus ((first | omega | exact ⟨by omega, by omega⟩ | rfl | exact trivial | assumption | (simp only [List.length_map, List.length_append, List.length_take, List.length_drop, List.length_cons, List.length_nil, List.length_replicate, List.length_set, List.length_reverse, nds_len, numsD_length]; omega) | (simp only [List.length_map, List.length_append, List.length_take, List.length_drop, List.length_cons, List.length_nil, List.length_replicate, List.length_set, List.length_reverse, nds_len, numsD_length]; exact ⟨by omega, by omega⟩) | exact nds_each | (refine map_each ?_; intro x; rfl) | (refine first_map ?_; intro x; rfl) | exact first_nds | simp | (simp; omega)); done)); conv => whnf)
    | (refine Each.mapAt (by assumption) ?_; conv => whnf)
    | (refine Each.ndsAt (by assumption) ?_; conv => whnf)
    | (refine Each.at (by assumption) ?_; conv => whnf)
    | (refine Each.map (fun x hx => ?_); (try simp only [Int.toNat_natCast, Int.toNat_zero, Int.toNat_one, Int.toNat_natCast_add_one] at hx); conv => whnf)
    | (refine Each.nds (fun a b c ps hx => ?_); (try simp only [Int.toNat_natCast, Int.toNat_zero, Int.toNat_one, Int.toNat_natCast_add_one] at hx); conv => whnf)
    | (refine Each.rep ?_; conv => whnf)
    | (refine Each.drop ?_)
    | (refine Each.take (fun hi => ?_))
    | (refine Each.any (fun x hx => ?_); (try simp only [Int.toNat_natCast, Int.toNat_zero, Int.toNat_one, Int.toNat_natCast_add_one] at hx); conv => whnf)
    | (refine NilB.any (fun hn => ?_) ?_ <;> conv => whnf)
    | (refine ⟨_, bytesOfD_nums _, ?_⟩; conv => whnf)
    | (refine WP.still (id := 1) tabOK hmix (by kernel_rfl) ?_; conv => whnf)
    | exact ⟨rfl, rfl⟩
    | (refine Fin.bool ?_ rfl)
    | (refine Fin.int ?_ rfl)
    | (refine Fin.str ?_ rfl)
    | (refine Fin.sl ?_ rfl)
    | exact trivial)
  · have hb : atB s i t = false := by
      cases hb : atB s i t with
      | false => rfl
      | true => exact absurd (atB_len ht hb) hle
    rw [hb]
    (refine CallWP.go tabOK Tryd.func12 1 47 rfl rfl rfl rfl ?_; conv => whnf)
    repeat' (first
    | (refine Br.tt ?_; conv => whnf)
    | (refine Br.ff ?_; conv => whnf)
    | (refine Both.mk ?_ ?_ <;> conv => whnf)
    | (refine Br.not ?_)
    | (refine Need.mk ?_ ?_; (focus ((first | omega | exact ⟨by omega, by omega⟩ | rfl | exact trivial | assumption | (simp only [List.length_map, List.length_append, List.length_take, List.length_drop, List.length_cons, List.length_nil, List.length_replicate, List.length_set, List.length_reverse, nds_len, numsD_length]; omega) | (simp only [List.length_map, List.length_append, List.length_take, List.length_drop, List.length_cons, List.length_nil, List.length_replicate, List.length_set, List.length_reverse, nds_len, numsD_length]; exact ⟨by omega, by omega⟩) | exact nds_each | (refine map_each ?_; intro x; rfl) | (refine first_map ?_; intro x; rfl) | exact first_nds | simp | (simp; omega)); done)); conv => whnf)
    | (refine Br.t (by assumption) ?_; conv => whnf)
    | (refine Br.f (by assumption) ?_; conv => whnf)
    | (refine Br.self ?_; conv => whnf)
    | (refine Br.decT (by assumption) ?_; conv => whnf)
    | (refine Br.decF (by assumption) ?_; conv => whnf)
    | (refine Br.eqT (by assumption) ?_; conv => whnf)
    | (refine Br.eqF (by assumption) ?_; conv => whnf)
    | (refine Br.dec (fun hc => ?_) (fun hc => ?_) <;> (try simp only [List.length_map, List.length_append, List.length_take, List.length_drop, List.length_cons, List.length_nil, List.length_replicate, List.length_set, List.length_reverse, nds_len, numsD_length] at hc) <;> first | (exfalso; omega) | exact absurd trivial hc | exact absurd rfl hc | conv => whnf)
    | (refine Br.eq (fun hc => ?_) (fun hc => ?_) <;> first | (exfalso; omega) | exact absurd trivial hc | exact absurd rfl hc | conv => whnf)
    | (refine Br.ne (fun hc => ?_) (fun hc => ?_) <;> first | (exfalso; omega) | exact absurd trivial hc | exact absurd rfl hc | conv => whnf)
    | (with_reducible refine Br.and ?_)
    | (with_reducible refine Br.or ?_)
    | (refine Br.any (fun hc => ?_) (fun hc => ?_) <;> conv => whnf)
    | (refine Fit.inl ?_ ?_; (focus ((first | omega | exact ⟨by omega, by omega⟩ | rfl | exact trivial | assumption | (simp only [List.length_map, List.length_append, List.length_take, List.length_drop, List.length_cons, List.length_nil, List.length_replicate, List.length_set, List.length_reverse, nds_len, numsD_length]; omega) | (simp only [List.length_map, List.length_append, List.length_take, List.length_drop, List.length_cons, List.length_nil, List.length_replicate, List.length_set, List.length_reverse, nds_len, numsD_length]; exact ⟨by omega, by omega⟩) | exact nds_each | (refine map_each ?_; intro x; rfl) | (refine first_map ?_; intro x; rfl) | exact first_nds | simp | (simp; omega)); done)); conv => whnf)
    | (refine Each.mapAt (by assumption) ?_; conv => whnf)
    | (refine Each.ndsAt (by assumption) ?_; conv => whnf)
    | (refine Each.at (by assumption) ?_; conv => whnf)
    | (refine Each.map (fun x hx => ?_); (try simp only [Int.toNat_natCast, Int.toNat_zero, Int.toNat_one, Int.toNat_natCast_add_one] at hx); conv => whnf)
    | (refine Each.nds (fun a b c ps hx => ?_); (try simp only [Int.toNat_natCast, Int.toNat_zero, Int.toNat_one, Int.toNat_natCast_add_one] at hx); conv => whnf)
    | (refine Each.rep ?_; conv => whnf)
    | (refine Each.drop ?_)
    | (refine Each.take (fun hi => ?_))
    | (refine Each.any (fun x hx => ?_); (try simp only [Int.toNat_natCast, Int.toNat_zero, Int.toNat_one, Int.toNat_natCast_add_one] at hx); conv => whnf)
    | (refine NilB.any (fun hn => ?_) ?_ <;> conv => whnf)
    | (refine ⟨_, bytesOfD_nums _, ?_⟩; conv => whnf)
    | (refine WP.still (id := 1) tabOK hmix (by kernel_rfl) ?_; conv => whnf)
    | exact ⟨rfl, rfl⟩
    | (refine Fin.bool ?_ rfl)
    | (refine Fin.int ?_ rfl)
    | (refine Fin.str ?_ rfl)
    | (refine Fin.sl ?_ rfl)
    | exact trivial)
def nmW (s : Str) (i : Nat) : Str := (s.drop i).takeWhile okB
theorem nmR (s : Str) (i : Nat) (hs : s.length < 2 ^ 31) (hi : i ≤ s.length) : CallWP Tryd.prog 13 [.ref 0 0 0] [(0, rO s i)] (fun r h => r = (.d (.str (nmW s i))) ∧ h = [(0, rO s (i + (nmW s i).length))]) := by
  unfold rO
  (refine CallWP.go tabOK Tryd.func13 1 95 rfl rfl rfl rfl ?_; conv => whnf)
  refine WP.loop (α := Nat) tabOK (fun j => i ≤ j ∧ j ≤ s.length ∧ nmW s i = (s.drop i).take (j - i) ++ nmW s j) (fun j => ⟨[(0, .ref 0 0 0), (3, (.d (.int .i64 (i))))], [(0, .var 41 [(.d (.str (s))), (.d (.int .i64 (j))), (.d (.bool (false)))])], 1, 95⟩) (fun j => s.length - j) (i) ?_ ?_ ?_
  · exact ⟨Nat.le_refl _, hi, by simp⟩
  · conv => whnf
    repeat (first | exact True.intro | (refine Need.mk ?_ ?_; (focus ((first | rfl | assumption | omega | (simp only [List.length_map, List.length_append, List.length_take, List.length_drop, List.length_cons, List.length_nil, List.length_replicate, List.length_set, List.length_reverse, nds_len, numsD_length]; omega) | simp); done)); conv => whnf) | ((conv => whnf); exact True.intro))
  rintro j ⟨hj1, hj2, hj3⟩
  have hfin : nmW s j = [] → T.d (D.str (List.drop (i : Int).toNat (List.take (j : Int).toNat s))) = (.d (.str (nmW s i))) ∧ i + (nmW s i).length = j := fun h0 => by
    rw [h0, List.append_nil] at hj3
    rw [hj3, Int.toNat_natCast, Int.toNat_natCast, List.drop_take]
    refine ⟨rfl, ?_⟩
    simp; omega
  by_cases hlt : j < s.length
  case neg =>
    obtain ⟨e1, e2⟩ := hfin (by unfold nmW; rw [List.drop_eq_nil_of_le (by omega)]; rfl)
    conv => whnf
    repeat' (first
    | (refine Br.tt ?_; conv => whnf)
    | (refine Br.ff ?_; conv => whnf)
    | (refine Both.mk ?_ ?_ <;> conv => whnf)
    | (refine Br.not ?_)
    | (refine Need.mk ?_ ?_; (focus ((first | omega | exact ⟨by omega, by omega⟩ | rfl | exact trivial | assumption | (simp only [List.length_map, List.length_append, List.length_take, List.length_drop, List.length_cons, List.length_nil, List.length_replicate, List.length_set, List.length_reverse, nds_len, numsD_length]; omega) | (simp only [List.length_map, List.length_append, List.length_take, List.length_drop, List.length_cons, List.length_nil, List.length_replicate, List.length_set, List.length_reverse, nds_len, numsD_length]; exact ⟨by omega, by omega⟩) | exact nds_each | (refine map_each ?_; intro x; rfl) | (refine first_map ?_; intro x; rfl) | exact first_nds | simp | (simp; omega)); done)); conv => whnf)
    | (refine Br.t (by assumption) ?_; conv => whnf)
    | (refine Br.f (by assumption) ?_; conv => whnf)
    | (refine Br.self ?_; conv => whnf)
    | (refine Br.decT (by assumption) ?_; conv => whnf)
    | (refine Br.decF (by assumption) ?_; conv => whnf)
    | (refine Br.eqT (by assumption) ?_; conv => whnf)
    | (refine Br.eqF (by assumption) ?_; conv => whnf)
    | (refine Br.dec (fun hc => ?_) (fun hc => ?_) <;> (try simp only [List.length_map, List.length_append, List.length_take, List.length_drop, List.length_cons, List.length_nil, List.length_replicate, List.length_set, List.length_reverse, nds_len, numsD_length] at hc) <;> first | (exfalso; omega) | exact absurd trivial hc | exact absurd rfl hc | conv => whnf)
    | (refine Br.eq (fun hc => ?_) (fun hc => ?_) <;> first | (exfalso; omega) | exact absurd trivial hc | exact absurd rfl hc | conv => whnf)
    | (refine Br.ne (fun hc => ?_) (fun hc => ?_) <;> first | (exfalso; omega) | exact absurd trivial hc | exact absurd rfl hc | conv => whnf)
    | (with_reducible refine Br.and ?_)
    | (with_reducible refine Br.or ?_)
    | (refine Br.any (fun hc => ?_) (fun hc => ?_) <;> conv => whnf)
    | (refine Fit.inl ?_ ?_; (focus ((first | omega | exact ⟨by omega, by omega⟩ | rfl | exact trivial | assumption | (simp only [List.length_map, List.length_append, List.length_take, List.length_drop, List.length_cons, List.length_nil, List.length_replicate, List.length_set, List.length_reverse, nds_len, numsD_length]; omega) | (simp only [List.length_map, List.length_append, List.length_take, List.length_drop, List.length_cons, List.length_nil, List.length_replicate, List.length_set, List.length_reverse, nds_len, numsD_length]; exact ⟨by omega, by omega⟩) | exact nds_each | (refine map_each ?_; intro x; rfl) | (refine first_map ?_; intro x; rfl) | exact first_nds | simp | (simp; omega)); done)); conv => whnf)
    | (refine Each.mapAt (by assumption) ?_; conv => whnf)
    | (refine Each.ndsAt (by assumption) ?_; conv => whnf)
    | (refine Each.at (by assumption) ?_; conv => whnf)
    | (refine Each.map (fun x hx => ?_); (try simp only [Int.toNat_natCast, Int.toNat_zero, Int.toNat_one, Int.toNat_natCast_add_one] at hx); conv => whnf)
    | (refine Each.nds (fun a b c ps hx => ?_); (try simp only [Int.toNat_natCast, Int.toNat_zero, Int.toNat_one, Int.toNat_natCast_add_one] at hx); conv => whnf)
    | (refine Each.rep ?_; conv => whnf)
    | (refine Each.drop ?_)
    | (refine Each.take (fun hi => ?_))
    | (refine Each.any (fun x hx => ?_); (try simp only [Int.toNat_natCast, Int.toNat_zero, Int.toNat_one, Int.toNat_natCast_add_one] at hx); conv => whnf)
    | (refine NilB.any (fun hn => ?_) ?_ <;> conv => whnf)
    | (refine ⟨_, bytesOfD_nums _, ?_⟩; conv => whnf)
    | (refine WP.still (id := 2) tabOK hmix (by kernel_rfl) ?_; conv => whnf)
    | (refine WP.still (id := 4) tabOK hmix (by kernel_rfl) ?_; conv => whnf)
    | exact ⟨rfl, rfl⟩
    | (refine Fin.bool ?_ rfl)
    | (refine Fin.int ?_ rfl)
    | (refine Fin.str ?_ rfl)
    | (refine Fin.sl ?_ rfl)
    | exact trivial)
    rw [e1, e2]; exact ⟨rfl, rfl⟩
  obtain ⟨c, hc2⟩ : ∃ x, s[j]? = some x := ⟨s[j], by simp [hlt]⟩
  have hd : nmW s j = if okB c = true then c :: nmW s (j + 1) else [] := by
    unfold nmW
    rw [drop_cons hc2, List.takeWhile_cons]
  have hnext : okB c = true → nmW s i = (s.drop i).take (j + 1 - i) ++ nmW s (j + 1) := fun h => by
    rw [hd, if_pos h] at hj3
    rw [hj3, show j + 1 - i = (j - i) + 1 by omega, List.take_add_one, List.getElem?_drop, show i + (j - i) = j by omega, hc2]
    simp
  conv => whnf
  repeat' (first
    | (refine Br.tt ?_; conv => whnf)
    | (refine Br.ff ?_; conv => whnf)
    | (refine Both.mk ?_ ?_ <;> conv => whnf)
    | (refine Br.not ?_)
    | (refine Need.mk ?_ ?_; (focus ((first | omega | exact ⟨by omega, by omega⟩ | rfl | exact trivial | assumption | (simp only [List.length_map, List.length_append, List.length_take, List.length_drop, List.length_cons, List.length_nil, List.length_replicate, List.length_set, List.length_reverse, nds_len, numsD_length]; omega) | (simp only [List.length_map, List.length_append, List.length_take, List.length_drop, List.length_cons, List.length_nil, List.length_replicate, List.length_set, List.length_reverse, nds_len, numsD_length]; exact ⟨by omega, by omega⟩) | exact nds_each | (refine map_each ?_; intro x; rfl) | (refine first_map ?_; intro x; rfl) | exact first_nds | simp | (simp; omega)); done)); conv => whnf)
    | (refine Br.t (by assumption) ?_; conv => whnf)
    | (refine Br.f (by assumption) ?_; conv => whnf)
    | (refine Br.self ?_; conv => whnf)
    | (refine Br.decT (by assumption) ?_; conv => whnf)
    | (refine Br.decF (by assumption) ?_; conv => whnf)
    | (refine Br.eqT (by assumption) ?_; conv => whnf)
    | (refine Br.eqF (by assumption) ?_; conv => whnf)
    | (refine Br.dec (fun hc => ?_) (fun hc => ?_) <;> (try simp only [List.length_map, List.length_append, List.length_take, List.length_drop, List.length_cons, List.length_nil, List.length_replicate, List.length_set, List.length_reverse, nds_len, numsD_length] at hc) <;> first | (exfalso; omega) | exact absurd trivial hc | exact absurd rfl hc | conv => whnf)
    | (refine Br.eq (fun hc => ?_) (fun hc => ?_) <;> first | (exfalso; omega) | exact absurd trivial hc | exact absurd rfl hc | conv => whnf)
    | (refine Br.ne (fun hc => ?_) (fun hc => ?_) <;> first | (exfalso; omega) | exact absurd trivial hc | exact absurd rfl hc | conv => whnf)
    | (with_reducible refine Br.and ?_)
    | (with_reducible refine Br.or ?_)
    | (refine Br.any (fun hc => ?_) (fun hc => ?_) <;> conv => whnf)
    | (refine Fit.inl ?_ ?_; (focus ((first | omega | exact ⟨by omega, by omega⟩ | rfl | exact trivial | assumption | (simp only [List.length_map, List.length_append, List.length_take, List.length_drop, List.length_cons, List.length_nil, List.length_replicate, List.length_set, List.length_reverse, nds_len, numsD_length]; omega) | (simp only [List.length_map, List.length_append, List.length_take, List.length_drop, List.length_cons, List.length_nil, List.length_replicate, List.length_set, List.length_reverse, nds_len, numsD_length]; exact ⟨by omega, by omega⟩) | exact nds_each | (refine map_each ?_; intro x; rfl) | (refine first_map ?_; intro x; rfl) | exact first_nds | simp | (simp; omega)); done)); conv => whnf)
    | (refine Each.mapAt (by assumption) ?_; conv => whnf)
    | (refine Each.ndsAt (by assumption) ?_; conv => whnf)
    | (refine Each.at (by assumption) ?_; conv => whnf)
    | (refine Each.map (fun x hx => ?_); (try simp only [Int.toNat_natCast, Int.toNat_zero, Int.toNat_one, Int.toNat_natCast_add_one] at hx); conv => whnf)
    | (refine Each.nds (fun a b c ps hx => ?_); (try simp only [Int.toNat_natCast, Int.toNat_zero, Int.toNat_one, Int.toNat_natCast_add_one] at hx); conv => whnf)
    | (refine Each.rep ?_; conv => whnf)
    | (refine Each.drop ?_)
    | (refine Each.take (fun hi => ?_))
    | (refine Each.any (fun x hx => ?_); (try simp only [Int.toNat_natCast, Int.toNat_zero, Int.toNat_one, Int.toNat_natCast_add_one] at hx); conv => whnf)
    | (refine NilB.any (fun hn => ?_) ?_ <;> conv => whnf)
    | (refine ⟨_, bytesOfD_nums _, ?_⟩; conv => whnf)
    | (refine WP.still (id := 2) tabOK hmix (by kernel_rfl) ?_; conv => whnf)
    | (refine WP.still (id := 4) tabOK hmix (by kernel_rfl) ?_; conv => whnf)
    | exact ⟨rfl, rfl⟩
    | (refine Fin.bool ?_ rfl)
    | (refine Fin.int ?_ rfl)
    | (refine Fin.str ?_ rfl)
    | (refine Fin.sl ?_ rfl)
    | exact trivial)
  all_goals try (
    obtain ⟨e1, e2⟩ := hfin (by rw [hd, if_neg (by simp [okB, okR]; omega)])
    rw [e1, e2]; exact ⟨rfl, rfl⟩)
  all_goals
    have ho := hnext (by simp [okB, okR]; omega)
    refine ⟨j + 1, ⟨by omega, by omega, ho⟩, by dsimp only; omega, ?_⟩
    clear hj3 hd hfin hnext ho
    conv => whnf
    repeat (first | exact True.intro | (refine Need.mk ?_ ?_; (focus ((first | rfl | assumption | omega | (simp only [List.length_map, List.length_append, List.length_take, List.length_drop, List.length_cons, List.length_nil, List.length_replicate, List.length_set, List.length_reverse, nds_len, numsD_length]; omega) | simp); done)); conv => whnf) | ((conv => whnf); exact True.intro))
def nx (s : Str) (i : Nat) (t : Str) : Nat := if atB s i t = true then i + t.length else i
theorem eatN (s t : Str) (i : Nat) (hs : s.length < 2 ^ 31) (hi : i ≤ s.length) (ht : t ≠ []) (htl : t.length < 2 ^ 31) : CallWP Tryd.prog 12 [.ref 0 0 0, (.d (.str (t)))] [(0, rO s i)] (fun r h => r = (.d (.bool (atB s i t))) ∧ h = [(0, rO s (nx s i t))]) := eatR s t i hs hi ht htl
theorem nx_le {s t : Str} {i : Nat} (ht : t ≠ []) (hi : i ≤ s.length) : nx s i t ≤ s.length := by
  unfold nx
  split
  · exact atB_len ht (by assumption)
  · exact hi
theorem nx_ge (s t : Str) (i : Nat) : i ≤ nx s i t := by unfold nx; split <;> omega
theorem nm_le {s : Str} {i : Nat} (hi : i ≤ s.length) : i + (nmW s i).length ≤ s.length := by
  have : (nmW s i).length ≤ (s.drop i).length := by
    unfold nmW
    have := congrArg List.length (List.takeWhile_append_dropWhile (p := okB) (l := s.drop i))
    rw [List.length_append] at this; omega
  simp at this; omega
theorem nm_len {s : Str} {i : Nat} : (nmW s i).length ≤ s.length := by
  unfold nmW
  have := congrArg List.length (List.takeWhile_append_dropWhile (p := okB) (l := s.drop i))
  rw [List.length_append] at this
  simp at this; omega
theorem at1 {s : Str} {i : Nat} {c : UInt8} : atB s i [c] = true ↔ ∃ r, s.drop i = c :: r := by
  unfold atB
  cases h : s.drop i with
  | nil => simp
  | cons a r => simp
theorem at1_drop {s : Str} {i : Nat} {c : UInt8} (h : atB s i [c] = true) : s.drop i = c :: s.drop (nx s i [c]) := by
  obtain ⟨r, hr⟩ := at1.1 h
  rw [nx, if_pos h, hr]
  have := congrArg (List.drop 1) hr
  rw [List.drop_drop] at this
  simp at this
  simp [this]
theorem at1_no {s : Str} {i : Nat} {c : UInt8} (h : atB s i [c] = false) : ∀ r, s.drop i ≠ c :: r := fun r hr => by
  rw [at1.2 ⟨r, hr⟩] at h; cases h
theorem nx_no {s t : Str} {i : Nat} (h : atB s i t = false) : nx s i t = i := by rw [nx, if_neg (by simp [h])]
theorem nm_drop {s : Str} {i : Nat} : (s.drop i).dropWhile okB = s.drop (i + (nmW s i).length) := by
  have := List.takeWhile_append_dropWhile (p := okB) (l := s.drop i)
  rw [← List.drop_drop]
  unfold nmW
  generalize s.drop i = u at *
  have e : List.drop (u.takeWhile okB).length (u.takeWhile okB ++ u.dropWhile okB) = u.dropWhile okB := by simp [-List.takeWhile_append_dropWhile]
  rw [this] at e; exact e.symm
/-- One pick, by places. -/
def hdI (s : Str) (f : Bool) (i : Nat) : Bool × Nat := if f = true then (true, i) else (!atB s i [62, 32], nx s i [62, 32])
def nmI (s : Str) (i : Nat) : Option (Str × Nat) := if atB s i [42] = true then some ([], nx s i [42]) else if nameB (nmW s (nx s i [42])) = true then some (nmW s (nx s i [42]), nx s i [42] + (nmW s (nx s i [42])).length) else none
def arI (s : Str) (i : Nat) : Option (Str × Nat) := if atB s i [91] = true then if nameB (nmW s (nx s i [91])) = true then if atB s (nx s i [91] + (nmW s (nx s i [91])).length) [93] = true then
  some (nmW s (nx s i [91]), nx s (nx s i [91] + (nmW s (nx s i [91])).length) [93]) else none else none else some ([], nx s i [91])
def stI (s : Str) (f : Bool) (i : Nat) : Option (Pick × Nat) := match nmI s (hdI s f i).2 with
  | none => none
  | some (n, j) => match arI s j with
    | none => none
    | some (a, k) => some (⟨n, a, (hdI s f i).1⟩, k)
theorem hd_eq (s : Str) (f : Bool) (i : Nat) : hdP f (s.drop i) = ((hdI s f i).1, s.drop (hdI s f i).2) := by
  unfold hdI
  cases f with
  | true => rfl
  | false =>
    rw [if_neg (by decide)]
    cases h : atB s i [62, 32] with
    | false =>
      rw [nx_no h]
      unfold hdP
      split
      · rename_i r hr
        exfalso
        simp [atB, hr] at h
      · rfl
    | true =>
      have h2 := h
      simp [atB] at h2
      obtain ⟨r, hr⟩ : ∃ r, s.drop i = 62 :: 32 :: r := by
        rcases hd : s.drop i with _ | ⟨a, _ | ⟨b, r⟩⟩
        · rw [hd] at h2; simp at h2
        · rw [hd] at h2; simp at h2
        · rw [hd] at h2; simp at h2; exact ⟨r, by rw [h2.1, h2.2]⟩
      rw [nx, if_pos h, ← List.drop_drop, hr]
      rfl
theorem nm_eq (s : Str) (i : Nat) : nmP (s.drop i) = (nmI s i).map fun x => (x.1, s.drop x.2) := by
  unfold nmI
  cases h : atB s i [42] with
  | true =>
    rw [if_pos rfl, at1_drop h]; rfl
  | false =>
    rw [if_neg (by decide), nx_no h]
    unfold nmP
    split
    · rename_i r hr
      exact absurd hr (at1_no h r)
    · rw [nm_drop]
      show (if nameB (nmW s i) = true then _ else _) = _
      split <;> rfl
theorem ar_eq (s : Str) (i : Nat) : arP (s.drop i) = (arI s i).map fun x => (x.1, s.drop x.2) := by
  unfold arI
  cases h : atB s i [91] with
  | true =>
    rw [if_pos rfl, at1_drop h]
    simp only [arP]
    rw [nm_drop]
    show (if nameB (nmW s (nx s i [91])) = true then _ else _) = _
    by_cases hn : nameB (nmW s (nx s i [91])) = true
    · rw [if_pos hn, if_pos hn]
      cases h2 : atB s (nx s i [91] + (nmW s (nx s i [91])).length) [93] with
      | true =>
        rw [if_pos rfl, at1_drop h2]; rfl
      | false =>
        rw [if_neg (by decide)]
        split
        · rename_i q hq
          exact absurd hq (at1_no h2 q)
        · rfl
    · rw [if_neg hn, if_neg hn]; rfl
  | false =>
    rw [if_neg (by decide), nx_no h]
    unfold arP
    split
    · rename_i r hr
      exact absurd hr (at1_no h r)
    · rfl
theorem st_eq (s : Str) (f : Bool) (i : Nat) : itP f (s.drop i) = (stI s f i).map fun x => (x.1, s.drop x.2) := by
  unfold itP stI
  rw [hd_eq]
  dsimp only
  rw [nm_eq]
  cases nmI s (hdI s f i).2 with
  | none => rfl
  | some x =>
    obtain ⟨n, j⟩ := x
    dsimp only [Option.map]
    rw [ar_eq]
    cases arI s j with
    | none => rfl
    | some x => rfl
/-- Ahead of a round. -/
def Inv (s : Str) (i : Nat) (o : List Pick) : Prop := (∀ p ∈ o, p.name.length ≤ s.length ∧ p.attr.length ≤ s.length) ∧ i ≤ s.length ∧ o.length ≤ i ∧ rdP (s.length + 1) true s = (rdP (s.length + 1 - o.length) o.isEmpty (s.drop i)).map (o ++ ·)
def refP (s : Str) : List Pick × Int := if s.length > 600 then ([], 1) else match rdP (s.length + 1) true s with
  | some l => if chk l = 0 then (l, 0) else ([], 4)
  | none => ([], 4)
theorem rd_step {s : Str} {i : Nat} {o : List Pick} (h : Inv s i o) : rdP (s.length + 1) true s = match stI s o.isEmpty i with
    | none => none
    | some (p, j) => match s.drop j with
      | [] => some (o ++ [p])
      | c :: q => if c = 32 then (rdP (s.length + 1 - (o ++ [p]).length) false q).map ((o ++ [p]) ++ ·) else none := by
  obtain ⟨_, h1, h2, h3⟩ := h
  rw [h3, show s.length + 1 - o.length = (s.length - o.length) + 1 by omega, rdP, st_eq]
  cases stI s o.isEmpty i with
  | none => rfl
  | some x =>
    obtain ⟨p, j⟩ := x
    dsimp only [Option.map]
    cases s.drop j with
    | nil => rfl
    | cons c q =>
      by_cases hc : c = 32
      · simp only [if_pos hc]
        rw [show s.length + 1 - (o ++ [p]).length = s.length - o.length by simp]
        cases rdP (s.length - o.length) false q with
        | none => rfl
        | some l => simp
      · simp only [if_neg hc]
theorem inv_err {s : Str} {i : Nat} {o : List Pick} (hs : s.length ≤ 600) (h : Inv s i o) (hst : stI s o.isEmpty i = none) : refP s = ([], 4) := by
  have := rd_step h
  rw [hst] at this
  rw [refP, if_neg (by omega), this]
theorem hdI_le {s : Str} {f : Bool} {i : Nat} (hi : i ≤ s.length) : i ≤ (hdI s f i).2 ∧ (hdI s f i).2 ≤ s.length := by
  unfold hdI
  split
  · exact ⟨Nat.le_refl _, hi⟩
  · exact ⟨nx_ge _ _ _, nx_le (by simp) hi⟩
theorem nmI_le {s n : Str} {i j : Nat} (hi : i ≤ s.length) (h : nmI s i = some (n, j)) : i ≤ j ∧ j ≤ s.length ∧ n.length ≤ s.length := by
  unfold nmI at h
  have h0 := nx_le (s := s) (t := [42]) (by simp) hi
  have h1 := nx_ge s [42] i
  split at h
  · cases h; exact ⟨h1, h0, by simp⟩
  · split at h
    · cases h; exact ⟨by omega, nm_le h0, nm_len⟩
    · cases h
theorem arI_le {s n : Str} {i j : Nat} (hi : i ≤ s.length) (h : arI s i = some (n, j)) : i ≤ j ∧ j ≤ s.length ∧ n.length ≤ s.length := by
  unfold arI at h
  have h0 := nx_le (s := s) (t := [91]) (by simp) hi
  have h1 := nx_ge s [91] i
  split at h
  · split at h
    · split at h
      · cases h
        have h2 := nx_ge s [93] (nx s i [91] + (nmW s (nx s i [91])).length)
        exact ⟨by omega, nx_le (by simp) (nm_le h0), nm_len⟩
      · cases h
    · cases h
  · cases h; exact ⟨h1, h0, by simp⟩
theorem stI_le {s : Str} {f : Bool} {i j : Nat} {p : Pick} (hi : i ≤ s.length) (h : stI s f i = some (p, j)) : i ≤ j ∧ j ≤ s.length ∧ p.name.length ≤ s.length ∧ p.attr.length ≤ s.length := by
  obtain ⟨a1, a2⟩ := hdI_le (f := f) hi
  unfold stI at h
  split at h
  · cases h
  · rename_i n k hn
    obtain ⟨b1, b2, b3⟩ := nmI_le a2 hn
    split at h
    · cases h
    · rename_i a q ha
      obtain ⟨c1, c2, c3⟩ := arI_le b2 ha
      cases h
      exact ⟨by omega, c2, b3, c3⟩
theorem inv_err2 {s : Str} {i j : Nat} {o : List Pick} {p : Pick} (hs : s.length ≤ 600) (h : Inv s i o) (hst : stI s o.isEmpty i = some (p, j)) (hj : j ≠ s.length) (hb : atB s j [32] = false) : refP s = ([], 4) := by
  have := rd_step h
  have hle := stI_le h.2.1 hst
  rw [hst] at this
  rw [refP, if_neg (by omega), this]
  dsimp only
  cases hd : s.drop j with
  | nil => have := congrArg List.length hd; simp at this; omega
  | cons c q =>
    dsimp only
    rw [if_neg (fun hc => at1_no hb q (by rw [hd, hc]))]
theorem inv_end {s : Str} {i j : Nat} {o : List Pick} {p : Pick} (hs : s.length ≤ 600) (h : Inv s i o) (hst : stI s o.isEmpty i = some (p, j)) (hj : j = s.length) : refP s = if chk (o ++ [p]) = 0 then (o ++ [p], 0) else ([], 4) := by
  have := rd_step h
  rw [hst] at this
  rw [refP, if_neg (by omega), this, hj]
  dsimp only
  rw [List.drop_length]
theorem inv_next {s : Str} {i j : Nat} {o : List Pick} {p : Pick} (h : Inv s i o) (hst : stI s o.isEmpty i = some (p, j)) (hb : atB s j [32] = true) : Inv s (nx s j [32]) (o ++ [p]) ∧ s.length - nx s j [32] < s.length - i := by
  have := rd_step h
  obtain ⟨g1, g2, g3⟩ := stI_le h.2.1 hst
  rw [hst] at this
  dsimp only at this
  rw [at1_drop hb] at this
  dsimp only at this
  rw [if_pos rfl] at this
  have hn : nx s j [32] = j + 1 := by rw [nx, if_pos hb]; rfl
  have hl := atB_len (by simp) hb
  simp at hl
  refine ⟨⟨?_, ?_, ?_, ?_⟩, by omega⟩
  · intro q hq
    simp at hq
    rcases hq with hq | rfl
    · exact h.1 q hq
    · exact g3
  · rw [hn]; exact hl
  · have := h.2.2.1
    rw [hn]; simp; omega
  · rw [this]
    cases o <;> rfl
theorem inv_0 (s : Str) : Inv s 0 [] := ⟨by simp, by simp, by simp, by simp⟩
theorem chkE {o : List Pick} {n a : Str} {d : Bool} (ho : o.length ≤ 600) (hn : ∀ p ∈ o, p.name.length ≤ 600 ∧ p.attr.length ≤ 600) (h1 : n.length ≤ 600) (h2 : a.length ≤ 600) : CallWP Tryd.prog 15 [.d (.sl (o.map Pick.d ++ [[.str n, .str a, .bool d]]))] [] (fun r h => r = (.d (.int .i64 (chk (o ++ [⟨n, a, d⟩])))) ∧ h = []) := by
  have := chkR (o ++ [⟨n, a, d⟩]) (by simp; omega) (fun p hp => by
    simp at hp
    rcases hp with hp | rfl
    · have := hn p hp; omega
    · exact ⟨by dsimp only; omega, by dsimp only; omega⟩)
  rw [List.map_append] at this
  exact this
end Go.VL.PkRef
