/- strings.Builder's functions. -/
import Derived.Test.YtekmfhoppbpobaaVTab
import Derived.Test.YtekmfhoppbpobaaVBd
import Derived.Test.YtekmfhoppbpobaaVMv
import Derived.Lib.Walk
import Derived.Shelf.Lays
set_option linter.unusedVariables false
set_option linter.unusedSimpArgs false
namespace Go.Proofs
open Go.Shelf
def Try.lays169_ren : Go.Shelf.Ren := ⟨fun | 169 => 38 | n => n, fun | 70 => 53 | 9 => 9 | 0 => 0 | 72 => 56 | 37 => 54 | 127 => 99 | 3 => 3 | 5 => 5 | n => n, fun | n => n⟩
theorem Try.lays169 : Go.Proofs.Lays.n169 Try.prog Try.lays169_ren := {
  mixed := by kernel_rfl
  f169 := Try.func38.trans (congrArg some (by kernel_rfl))
  t0 := Try.underlying0
  a0 := Try.isAgg0
  z0 := Try.sizeOf0
  v0 := Try.zeroValue0
  t3 := Try.underlying3
  a3 := Try.isAgg3
  z3 := Try.sizeOf3
  v3 := Try.zeroValue3
  t9 := Try.underlying9
  a9 := Try.isAgg9
  z9 := Try.sizeOf9
  v9 := Try.zeroValue9
  t37 := Try.underlying54
  a37 := Try.isAgg54
  z37 := Try.sizeOf54
  v37 := Try.zeroValue54
  t70 := Try.underlying53
  a70 := Try.isAgg53
  z70 := Try.sizeOf53
  v70 := Try.zeroValue53
  t72 := Try.underlying56
  a72 := Try.isAgg56
  z72 := Try.sizeOf56
  v72 := Try.zeroValue56
  t127 := Try.underlying99
  a127 := Try.isAgg99
  z127 := Try.sizeOf99
  v127 := Try.zeroValue99 }
theorem Try.bldSize : (Try.prog.info? 56).map (·.size) = some 2 := by kernel_rfl
theorem Try.bldLies : liesAt Try.prog Try.prog.depth 56 (2 / Try.prog.cellsOf 56) 0 56 1 = true := by kernel_rfl
set_option maxHeartbeats 1000000 in
set_option maxRecDepth 100000 in
theorem Try.bldUsed (b : Nat) (w : World) (h0 : w.cell? ⟨b, 0, none⟩ = some (.pointer (some ⟨b, 0, none⟩))) :
    Calls Try.prog 65 #[.pointer (some ⟨b, 0, none⟩)] w fun e w' => e = .returned (.tuple #[]) ∧ w' = w := by
  obtain ⟨j, hj, _⟩ := Option.map_eq_some_iff.1 Try.bldSize
  go_enter Try.func65, Try.ntmps65
  go_wp2
  rw [Lib.run_neq_ptr_same w _ Try.underlying53 hj]
  go_wp2
  go_end0
  exact ⟨rfl, rfl⟩
set_option maxHeartbeats 1000000 in
set_option maxRecDepth 100000 in
theorem Try.bldFresh (b : Nat) (w : World) (h0 : w.cell? ⟨b, 0, none⟩ = some (.pointer none)) (hsh : w.shape? b = some (56, 2)) (hfz : w.frozen? ⟨b, 0, none⟩ = false) :
    Calls Try.prog 65 #[.pointer (some ⟨b, 0, none⟩)] w fun e w' => e = .returned (.tuple #[]) ∧ w' = w.setCell ⟨b, 0, none⟩ (.pointer (some ⟨b, 0, none⟩)) := by
  obtain ⟨j, hj, hjs⟩ := Option.map_eq_some_iff.1 Try.bldSize
  go_enter Try.func65, Try.ntmps65
  go_wp2
  rw [Lib.run_to_unsafe w ⟨b, 0, none⟩ Try.underlying53 Try.underlying121 hj (by rw [hjs]; decide) hsh (Nat.zero_lt_succ 1)]
  simp only [Result.andThen]
  rw [Oper.upon_value]
  go_wp2
  rw [run_callFunc_extern Try.func95 (by kernel_rfl) (by kernel_rfl) (by kernel_rfl) (e := Extern.AbiNoEscape.same) (by kernel_rfl)]
  rw [Lib.run_noEscape]
  simp only [Result.andThen]
  rw [Oper.upon_value]
  go_wp2
  rw [Lib.run_from_unsafe w ⟨b, 0, none⟩ Try.underlying121 Try.underlying53 hj hsh Try.bldLies]
  simp only [Result.andThen]
  rw [Oper.upon_value]
  go_wp2
  go_end0
  exact ⟨rfl, rfl⟩
theorem Try.bldExtra : Builder.Extra Try.prog Try.lays169_ren where
  sizeBuilder := by kernel_rfl
  liesBuilder := by kernel_rfl
  t5 := Try.underlying5
  a5 := Try.isAgg5
  z5 := Try.sizeOf5
  v5 := Try.zeroValue5
  infoByte := by kernel_rfl
  cellsByte := by kernel_rfl
  sizeByte := by kernel_rfl
  neB5 := by decide
end Go.Proofs
namespace Go.VL.Bld
open Go Go.Proofs Go.VL
set_option maxRecDepth 100000
attribute [local irreducible] CallWP WP Need Br Each NilB fit Both
def B (s : Str) : Hp := [(0, .var 56 [.bs 0, .full 1]), (1, .row 5 (numsD s))]
theorem check (s : Str) : CallWP Try.prog 65 [.ref 0 0 0] [(0, .var 56 [.bs 0, .full 1]), (1, .row 5 (numsD s))] (fun r h => r = .tup [] ∧ h = [(0, .var 56 [.bs 0, .full 1]), (1, .row 5 (numsD s))]) :=
  CallWP.copyCheck _ _ Try.bldUsed Try.bldFresh (.full 1) _ rfl (fun _ => rfl)
theorem string_ (s : Str) (hs : s.length < 2 ^ 40) : CallWP Try.prog 38 [.ref 0 0 0] [(0, .var 56 [.bs 0, .full 1]), (1, .row 5 (numsD s))] (fun r h => r = .d (.str s) ∧ h = []) :=
  CallWP.string Try.lays169 Try.bldExtra _ _ rfl rfl _ rfl s (by omega)
theorem byte_ (s : Str) (b : UInt8) (hs : s.length < 2 ^ 40) : CallWP Try.prog 37 [.ref 0 0 0, .d (.int .u8 b.toNat)] [(0, .var 56 [.bs 0, .full 1]), (1, .row 5 (numsD s))] (fun r h => r = .nili ∧ h = [(0, .var 56 [.bs 0, .full 2]), (2, .row 5 (numsD (s ++ [b])))]) := by
  have e : numsD (s ++ [b]) = numsD s ++ [[D.int .u8 b.toNat]] := by simp [numsD]
  rw [e]
  (refine CallWP.goM tabOK [1] Try.func37 2 17 rfl rfl rfl rfl ?_; conv => whnf)
  repeat' (first
    | (refine Br.tt ?_; conv => whnf)
    | (refine Br.ff ?_; conv => whnf)
    | (refine Both.mk ?_ ?_ <;> conv => whnf)
    | (refine Br.not ?_)
    | (refine Need.mk ?_ ?_; (focus ((first | omega | exact ⟨by omega, by omega⟩ | rfl | exact trivial | assumption | (simp only [List.length_map, List.length_append, List.length_take, List.length_drop, List.length_cons, List.length_nil, List.length_replicate, List.length_set, List.length_reverse, nds_len, numsD_length]; omega) | (simp only [List.length_map, List.length_append, List.length_take, List.length_drop, List.length_cons, List.length_nil, List.length_replicate, List.length_set, List.length_reverse, nds_len, numsD_length]; exact ⟨by omega, by omega⟩) | exact nds_each | (refine map_each ?_; intro x; rfl) | (refine first_map ?_; intro x; rfl) | exact first_nds | simp | (simp; omega)); done)); conv => whnf)
    | (refine Br.t (by assumption) ?_; conv => whnf)
    | (refine Br.f (by assumption) ?_; conv => whnf)
    | (refine Br.self ?_; conv => whnf)
    | (refine Br.decT (by assumption) ?_; conv => whnf)
    | (refine Br.decF (by assumption) ?_; conv => whnf)
    | (refine Br.eqT (by assumption) ?_; conv => whnf)
    | (refine Br.eqF (by assumption) ?_; conv => whnf)
    | (refine Br.dec (fun hc => ?_) (fun hc => ?_) <;> (try simp only [List.length_map, List.length_append, List.length_take, List.length_drop, List.length_cons, List.length_nil, List.length_replicate, List.length_set, List.length_reverse, nds_len, numsD_length] at hc) <;> first | (exfalso; omega) | exact absurd trivial hc | exact absurd rfl hc | conv => whnf)
    | (refine Br.eq (fun hc => ?_) (fun hc => ?_) <;> first | (exfalso; omega) | exact absurd trivial hc | exact absurd rfl hc | conv => whnf)
    | (refine Br.ne (fun hc => ?_) (fun hc => ?_) <;> first | (exfalso; omega) | exact absurd trivial hc | exact absurd rfl hc | conv => whnf)
    | (with_reducible refine Br.and ?_)
    | (with_reducible refine Br.or ?_)
    | (refine Br.any (fun hc => ?_) (fun hc => ?_) <;> conv => whnf)
    | (refine Fit.inl ?_ ?_; (focus ((first | omega | exact ⟨by omega, by omega⟩ | rfl | exact trivial | assumption | (simp only [List.length_map, List.length_append, List.length_take, List.length_drop, List.length_cons, List.length_nil, List.length_replicate, List.length_set, List.length_reverse, nds_len, numsD_length]; omega) | (simp only [List.length_map, List.length_append, List.length_take, List.length_drop, List.length_cons, List.length_nil, List.length_replicate, List.length_set, List.length_reverse, nds_len, numsD_length]; exact ⟨by omega, by omega⟩) | exact nds_each | (refine map_each ?_; intro x; rfl) | (refine first_map ?_; intro x; rfl) | exact first_nds | simp | (simp; omega)); done)); conv => whnf)
    | (refine Each.mapAt (by assumption) ?_; conv => whnf)
    | (refine Each.ndsAt (by assumption) ?_; conv => whnf)
    | (refine Each.at (by assumption) ?_; conv => whnf)
    | (refine Each.map (fun x hx => ?_); (try simp only [Int.toNat_natCast, Int.toNat_zero, Int.toNat_one, Int.toNat_natCast_add_one] at hx); conv => whnf)
    | (refine Each.nds (fun a b c ps hx => ?_); (try simp only [Int.toNat_natCast, Int.toNat_zero, Int.toNat_one, Int.toNat_natCast_add_one] at hx); conv => whnf)
    | (refine Each.rep ?_; conv => whnf)
    | (refine Each.drop ?_)
    | (refine Each.take (fun hi => ?_))
    | (refine Each.any (fun x hx => ?_); (try simp only [Int.toNat_natCast, Int.toNat_zero, Int.toNat_one, Int.toNat_natCast_add_one] at hx); conv => whnf)
    | (refine NilB.any (fun hn => ?_) ?_ <;> conv => whnf)
    | (refine CallWP.mono (check s) ?_; rintro r h ⟨rfl, rfl⟩; conv => whnf)
    | (refine ⟨_, bytesOfD_nums _, ?_⟩; conv => whnf)
    | exact ⟨rfl, rfl⟩
    | (refine Fin.bool ?_ rfl)
    | (refine Fin.int ?_ rfl)
    | (refine Fin.str ?_ rfl)
    | (refine Fin.sl ?_ rfl)
    | exact trivial)
theorem str_ (s t : Str) (hs : s.length < 2 ^ 40) (ht : t.length < 2 ^ 40) : CallWP Try.prog 40 [.ref 0 0 0, (.d (.str (t)))] [(0, .var 56 [.bs 0, .full 1]), (1, .row 5 (numsD s))] (fun r h => r = .tup [(.d (.int .i64 (t.length))), .nili] ∧ h = [(0, .var 56 [.bs 0, .full 2]), (2, .row 5 (numsD (s ++ t)))]) := by
  have e : numsD (s ++ t) = numsD s ++ numsD t := by simp [numsD]
  rw [e]
  (refine CallWP.goM tabOK [1] Try.func40 2 19 rfl rfl rfl rfl ?_; conv => whnf)
  repeat' (first
    | (refine Br.tt ?_; conv => whnf)
    | (refine Br.ff ?_; conv => whnf)
    | (refine Both.mk ?_ ?_ <;> conv => whnf)
    | (refine Br.not ?_)
    | (refine Need.mk ?_ ?_; (focus ((first | omega | exact ⟨by omega, by omega⟩ | rfl | exact trivial | assumption | (simp only [List.length_map, List.length_append, List.length_take, List.length_drop, List.length_cons, List.length_nil, List.length_replicate, List.length_set, List.length_reverse, nds_len, numsD_length]; omega) | (simp only [List.length_map, List.length_append, List.length_take, List.length_drop, List.length_cons, List.length_nil, List.length_replicate, List.length_set, List.length_reverse, nds_len, numsD_length]; exact ⟨by omega, by omega⟩) | exact nds_each | (refine map_each ?_; intro x; rfl) | (refine first_map ?_; intro x; rfl) | exact first_nds | simp | (simp; omega)); done)); conv => whnf)
    | (refine Br.t (by assumption) ?_; conv => whnf)
    | (refine Br.f (by assumption) ?_; conv => whnf)
    | (refine Br.self ?_; conv => whnf)
    | (refine Br.decT (by assumption) ?_; conv => whnf)
    | (refine Br.decF (by assumption) ?_; conv => whnf)
    | (refine Br.eqT (by assumption) ?_; conv => whnf)
    | (refine Br.eqF (by assumption) ?_; conv => whnf)
    | (refine Br.dec (fun hc => ?_) (fun hc => ?_) <;> (try simp only [List.length_map, List.length_append, List.length_take, List.length_drop, List.length_cons, List.length_nil, List.length_replicate, List.length_set, List.length_reverse, nds_len, numsD_length] at hc) <;> first | (exfalso; omega) | exact absurd trivial hc | exact absurd rfl hc | conv => whnf)
    | (refine Br.eq (fun hc => ?_) (fun hc => ?_) <;> first | (exfalso; omega) | exact absurd trivial hc | exact absurd rfl hc | conv => whnf)
    | (refine Br.ne (fun hc => ?_) (fun hc => ?_) <;> first | (exfalso; omega) | exact absurd trivial hc | exact absurd rfl hc | conv => whnf)
    | (with_reducible refine Br.and ?_)
    | (with_reducible refine Br.or ?_)
    | (refine Br.any (fun hc => ?_) (fun hc => ?_) <;> conv => whnf)
    | (refine Fit.inl ?_ ?_; (focus ((first | omega | exact ⟨by omega, by omega⟩ | rfl | exact trivial | assumption | (simp only [List.length_map, List.length_append, List.length_take, List.length_drop, List.length_cons, List.length_nil, List.length_replicate, List.length_set, List.length_reverse, nds_len, numsD_length]; omega) | (simp only [List.length_map, List.length_append, List.length_take, List.length_drop, List.length_cons, List.length_nil, List.length_replicate, List.length_set, List.length_reverse, nds_len, numsD_length]; exact ⟨by omega, by omega⟩) | exact nds_each | (refine map_each ?_; intro x; rfl) | (refine first_map ?_; intro x; rfl) | exact first_nds | simp | (simp; omega)); done)); conv => whnf)
    | (refine Each.mapAt (by assumption) ?_; conv => whnf)
    | (refine Each.ndsAt (by assumption) ?_; conv => whnf)
    | (refine Each.at (by assumption) ?_; conv => whnf)
    | (refine Each.map (fun x hx => ?_); (try simp only [Int.toNat_natCast, Int.toNat_zero, Int.toNat_one, Int.toNat_natCast_add_one] at hx); conv => whnf)
    | (refine Each.nds (fun a b c ps hx => ?_); (try simp only [Int.toNat_natCast, Int.toNat_zero, Int.toNat_one, Int.toNat_natCast_add_one] at hx); conv => whnf)
    | (refine Each.rep ?_; conv => whnf)
    | (refine Each.drop ?_)
    | (refine Each.take (fun hi => ?_))
    | (refine Each.any (fun x hx => ?_); (try simp only [Int.toNat_natCast, Int.toNat_zero, Int.toNat_one, Int.toNat_natCast_add_one] at hx); conv => whnf)
    | (refine NilB.any (fun hn => ?_) ?_ <;> conv => whnf)
    | (refine CallWP.mono (check s) ?_; rintro r h ⟨rfl, rfl⟩; conv => whnf)
    | (refine ⟨_, bytesOfD_nums _, ?_⟩; conv => whnf)
    | exact ⟨rfl, rfl⟩
    | (refine Fin.bool ?_ rfl)
    | (refine Fin.int ?_ rfl)
    | (refine Fin.str ?_ rfl)
    | (refine Fin.sl ?_ rfl)
    | exact trivial)
theorem len_ (s : Str) (hs : s.length < 2 ^ 40) : CallWP Try.prog 56 [.ref 0 0 0] [(0, .var 56 [.bs 0, .full 1]), (1, .row 5 (numsD s))] (fun r h => r = (.d (.int .i64 (s.length))) ∧ h = [(0, .var 56 [.bs 0, .full 1]), (1, .row 5 (numsD s))]) := by
  (refine CallWP.go tabOK Try.func56 2 8 rfl rfl rfl rfl ?_; conv => whnf)
  repeat' (first
    | (refine Br.tt ?_; conv => whnf)
    | (refine Br.ff ?_; conv => whnf)
    | (refine Both.mk ?_ ?_ <;> conv => whnf)
    | (refine Br.not ?_)
    | (refine Need.mk ?_ ?_; (focus ((first | omega | exact ⟨by omega, by omega⟩ | rfl | exact trivial | assumption | (simp only [List.length_map, List.length_append, List.length_take, List.length_drop, List.length_cons, List.length_nil, List.length_replicate, List.length_set, List.length_reverse, nds_len, numsD_length]; omega) | (simp only [List.length_map, List.length_append, List.length_take, List.length_drop, List.length_cons, List.length_nil, List.length_replicate, List.length_set, List.length_reverse, nds_len, numsD_length]; exact ⟨by omega, by omega⟩) | exact nds_each | (refine map_each ?_; intro x; rfl) | (refine first_map ?_; intro x; rfl) | exact first_nds | simp | (simp; omega)); done)); conv => whnf)
    | (refine Br.t (by assumption) ?_; conv => whnf)
    | (refine Br.f (by assumption) ?_; conv => whnf)
    | (refine Br.self ?_; conv => whnf)
    | (refine Br.decT (by assumption) ?_; conv => whnf)
    | (refine Br.decF (by assumption) ?_; conv => whnf)
    | (refine Br.eqT (by assumption) ?_; conv => whnf)
    | (refine Br.eqF (by assumption) ?_; conv => whnf)
    | (refine Br.dec (fun hc => ?_) (fun hc => ?_) <;> (try simp only [List.length_map, List.length_append, List.length_take, List.length_drop, List.length_cons, List.length_nil, List.length_replicate, List.length_set, List.length_reverse, nds_len, numsD_length] at hc) <;> first | (exfalso; omega) | exact absurd trivial hc | exact absurd rfl hc | conv => whnf)
    | (refine Br.eq (fun hc => ?_) (fun hc => ?_) <;> first | (exfalso; omega) | exact absurd trivial hc | exact absurd rfl hc | conv => whnf)
    | (refine Br.ne (fun hc => ?_) (fun hc => ?_) <;> first | (exfalso; omega) | exact absurd trivial hc | exact absurd rfl hc | conv => whnf)
    | (with_reducible refine Br.and ?_)
    | (with_reducible refine Br.or ?_)
    | (refine Br.any (fun hc => ?_) (fun hc => ?_) <;> conv => whnf)
    | (refine Fit.inl ?_ ?_; (focus ((first | omega | exact ⟨by omega, by omega⟩ | rfl | exact trivial | assumption | (simp only [List.length_map, List.length_append, List.length_take, List.length_drop, List.length_cons, List.length_nil, List.length_replicate, List.length_set, List.length_reverse, nds_len, numsD_length]; omega) | (simp only [List.length_map, List.length_append, List.length_take, List.length_drop, List.length_cons, List.length_nil, List.length_replicate, List.length_set, List.length_reverse, nds_len, numsD_length]; exact ⟨by omega, by omega⟩) | exact nds_each | (refine map_each ?_; intro x; rfl) | (refine first_map ?_; intro x; rfl) | exact first_nds | simp | (simp; omega)); done)); conv => whnf)
    | (refine Each.mapAt (by assumption) ?_; conv => whnf)
    | (refine Each.ndsAt (by assumption) ?_; conv => whnf)
    | (refine Each.at (by assumption) ?_; conv => whnf)
    | (refine Each.map (fun x hx => ?_); (try simp only [Int.toNat_natCast, Int.toNat_zero, Int.toNat_one, Int.toNat_natCast_add_one] at hx); conv => whnf)
    | (refine Each.nds (fun a b c ps hx => ?_); (try simp only [Int.toNat_natCast, Int.toNat_zero, Int.toNat_one, Int.toNat_natCast_add_one] at hx); conv => whnf)
    | (refine Each.rep ?_; conv => whnf)
    | (refine Each.drop ?_)
    | (refine Each.take (fun hi => ?_))
    | (refine Each.any (fun x hx => ?_); (try simp only [Int.toNat_natCast, Int.toNat_zero, Int.toNat_one, Int.toNat_natCast_add_one] at hx); conv => whnf)
    | (refine NilB.any (fun hn => ?_) ?_ <;> conv => whnf)
    | (refine ⟨_, bytesOfD_nums _, ?_⟩; conv => whnf)
    | exact ⟨rfl, rfl⟩
    | (refine Fin.bool ?_ rfl)
    | (refine Fin.int ?_ rfl)
    | (refine Fin.str ?_ rfl)
    | (refine Fin.sl ?_ rfl)
    | exact trivial)
  simp only [numsD_length]
end Go.VL.Bld
