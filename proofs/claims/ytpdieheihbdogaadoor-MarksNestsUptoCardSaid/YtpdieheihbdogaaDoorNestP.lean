/- marks.Nest. -/
import Derived.Test.YtpdieheihbdogaaDoorMarksNorm
import Derived.Test.YtpdieheihbdogaaDoorVNest
import Derived.Test.YtpdieheihbdogaaDoorVNc
import Derived.Test.YtpdieheihbdogaaDoorVMv
set_option linter.unusedVariables false
set_option linter.unusedSimpArgs false
namespace Go.VL.NestP
open Go Go.Proofs Go.VL
set_option maxRecDepth 100000
theorem idx_tw {α : Type} (p : α → Bool) : ∀ l : List α, (l.takeWhile (fun x => !p x)).length = l.length ∧ idx p l = -1 ∨ (l.takeWhile (fun x => !p x)).length < l.length ∧ idx p l = ((l.takeWhile (fun x => !p x)).length : Nat)
  | [] => .inl ⟨rfl, rfl⟩
  | x :: r => by
    rw [idx, List.takeWhile_cons]
    cases hx : p x with
    | true => right; simp
    | false =>
      have ih := idx_tw p r
      rcases ih with ⟨h1, h2⟩ | ⟨h1, h2⟩
      · left; simp [h1, h2]
      · right
        have : ¬ idx p r < 0 := by omega
        simp [h2]; omega
attribute [local irreducible] CallWP WP Need Br Each NilB fit Both
def outB (d : Nat) (m : Str) (q : Run) : Bool := !inG d m q
theorem outC (d : Nat) (m : Str) (q : Run) (hl : q.marks.length < 2 ^ 40 ∧ d ≤ q.marks.length) : CallWP Tryd.prog 15 [.agg [(.d (.str (q.text))), (.d (.sl (q.marks.map iS)))], .ref 0 0 0, .ref 1 0 0] [(0, .var 3 [(.d (.int .i64 (d)))]), (1, .var 9 [(.d (.str (m)))])] (fun r h => r = .d (.bool (outB d m q)) ∧ h = [(0, .var 3 [(.d (.int .i64 (d)))]), (1, .var 9 [(.d (.str (m)))])]) := by
  obtain ⟨h1, h2⟩ := hl
  by_cases h : q.marks.length = d
  · have e : outB d m q = true := by
      unfold outB inG
      rw [List.getElem?_eq_none (by omega)]; simp
    rw [e]
    (refine CallWP.go tabOK Tryd.func15 2 19 rfl rfl rfl rfl ?_; conv => whnf)
    repeat' (first
    | (refine Br.tt ?_; conv => whnf)
    | (refine Br.ff ?_; conv => whnf)
    | (refine Both.mk ?_ ?_ <;> conv => whnf)
    | (refine Br.not ?_)
    | (refine Need.mk ?_ ?_; (focus ((first | omega | exact ⟨by omega, by omega⟩ | rfl | exact trivial | assumption | (simp only [List.length_map, List.length_append, List.length_take, List.length_drop, List.length_cons, List.length_nil, List.length_replicate, List.length_set, List.length_reverse, nds_len, numsD_length]; omega) | (simp only [List.length_map, List.length_append, List.length_take, List.length_drop, List.length_cons, List.length_nil, List.length_replicate, List.length_set, List.length_reverse, nds_len, numsD_length]; exact ⟨by omega, by omega⟩) | exact nds_each | (refine map_each ?_; intro x; rfl) | (refine first_map ?_; intro x; rfl) | exact first_nds | simp | (simp; omega)); done)); conv => whnf)
    | (refine Br.t (by assumption) ?_; conv => whnf)
    | (refine Br.f (by assumption) ?_; conv => whnf)
    | (refine Br.self ?_; conv => whnf)
    | (refine Br.decT (by assumption) ?_; conv => whnf)
    | (refine Br.decF (by assumption) ?_; conv => whnf)
    | (refine Br.eqT (by assumption) ?_; conv => whnf)
    | (refine Br.eqF (by assumption) ?_; conv => whnf)
    | (refine Br.dec (fun hc => ?_) (fun hc => ?_) <;> (try simp only [List.length_map, List.length_append, List.length_take, List.length_drop, List.length_cons, List.length_nil, List.length_replicate, List.length_set, List.length_reverse, nds_len, numsD_length] at hc) <;> first | (exfalso; omega) | exact absurd trivial hc | exact absurd rfl hc | conv => whnf)
    | (refine Br.eq (fun hc => ?_) (fun hc => ?_) <;> first | (exfalso; omega) | exact absurd trivial hc | exact absurd rfl hc | conv => whnf)
    | (refine Br.ne (fun hc => ?_) (fun hc => ?_) <;> first | (exfalso; omega) | exact absurd trivial hc | exact absurd rfl hc | conv => whnf)
    | (with_reducible refine Br.and ?_)
    | (with_reducible refine Br.or ?_)
    | (refine Br.any (fun hc => ?_) (fun hc => ?_) <;> conv => whnf)
    | (refine Fit.inl ?_ ?_; (focus ((first | omega | exact ⟨by omega, by omega⟩ | rfl | exact trivial | assumption | (simp only [List.length_map, List.length_append, List.length_take, List.length_drop, List.length_cons, List.length_nil, List.length_replicate, List.length_set, List.length_reverse, nds_len, numsD_length]; omega) | (simp only [List.length_map, List.length_append, List.length_take, List.length_drop, List.length_cons, List.length_nil, List.length_replicate, List.length_set, List.length_reverse, nds_len, numsD_length]; exact ⟨by omega, by omega⟩) | exact nds_each | (refine map_each ?_; intro x; rfl) | (refine first_map ?_; intro x; rfl) | exact first_nds | simp | (simp; omega)); done)); conv => whnf)
    | (refine Each.mapAt (by assumption) ?_; conv => whnf)
    | (refine Each.ndsAt (by assumption) ?_; conv => whnf)
    | (refine Each.at (by assumption) ?_; conv => whnf)
    | (refine Each.map (fun x hx => ?_); (try simp only [Int.toNat_natCast, Int.toNat_zero, Int.toNat_one, Int.toNat_natCast_add_one] at hx); conv => whnf)
    | (refine Each.nds (fun a b c ps hx => ?_); (try simp only [Int.toNat_natCast, Int.toNat_zero, Int.toNat_one, Int.toNat_natCast_add_one] at hx); conv => whnf)
    | (refine Each.rep ?_; conv => whnf)
    | (refine Each.drop ?_)
    | (refine Each.take (fun hi => ?_))
    | (refine Each.any (fun x hx => ?_); (try simp only [Int.toNat_natCast, Int.toNat_zero, Int.toNat_one, Int.toNat_natCast_add_one] at hx); conv => whnf)
    | (refine NilB.any (fun hn => ?_) ?_ <;> conv => whnf)
    | (refine ⟨_, bytesOfD_nums _, ?_⟩; conv => whnf)
    | (refine WP.still (id := 1) tabOK hmix (by kernel_rfl) ?_; conv => whnf)
    | exact ⟨rfl, rfl⟩
    | (refine Fin.bool ?_ rfl)
    | (refine Fin.int ?_ rfl)
    | (refine Fin.str ?_ rfl)
    | (refine Fin.sl ?_ rfl)
    | exact trivial)
  · obtain ⟨x, hx⟩ : ∃ x, q.marks[d]? = some x := ⟨_, List.getElem?_eq_getElem (by omega)⟩
    have e : outB d m q = !decide (x = m) := by unfold outB inG; rw [hx]; simp
    rw [e]
    (refine CallWP.go tabOK Tryd.func15 2 19 rfl rfl rfl rfl ?_; conv => whnf)
    repeat' (first
    | (refine Br.tt ?_; conv => whnf)
    | (refine Br.ff ?_; conv => whnf)
    | (refine Both.mk ?_ ?_ <;> conv => whnf)
    | (refine Br.not ?_)
    | (refine Need.mk ?_ ?_; (focus ((first | omega | exact ⟨by omega, by omega⟩ | rfl | exact trivial | assumption | (simp only [List.length_map, List.length_append, List.length_take, List.length_drop, List.length_cons, List.length_nil, List.length_replicate, List.length_set, List.length_reverse, nds_len, numsD_length]; omega) | (simp only [List.length_map, List.length_append, List.length_take, List.length_drop, List.length_cons, List.length_nil, List.length_replicate, List.length_set, List.length_reverse, nds_len, numsD_length]; exact ⟨by omega, by omega⟩) | exact nds_each | (refine map_each ?_; intro x; rfl) | (refine first_map ?_; intro x; rfl) | exact first_nds | simp | (simp; omega)); done)); conv => whnf)
    | (refine Br.t (by assumption) ?_; conv => whnf)
    | (refine Br.f (by assumption) ?_; conv => whnf)
    | (refine Br.self ?_; conv => whnf)
    | (refine Br.decT (by assumption) ?_; conv => whnf)
    | (refine Br.decF (by assumption) ?_; conv => whnf)
    | (refine Br.eqT (by assumption) ?_; conv => whnf)
    | (refine Br.eqF (by assumption) ?_; conv => whnf)
    | (refine Br.dec (fun hc => ?_) (fun hc => ?_) <;> (try simp only [List.length_map, List.length_append, List.length_take, List.length_drop, List.length_cons, List.length_nil, List.length_replicate, List.length_set, List.length_reverse, nds_len, numsD_length] at hc) <;> first | (exfalso; omega) | exact absurd trivial hc | exact absurd rfl hc | conv => whnf)
    | (refine Br.eq (fun hc => ?_) (fun hc => ?_) <;> first | (exfalso; omega) | exact absurd trivial hc | exact absurd rfl hc | conv => whnf)
    | (refine Br.ne (fun hc => ?_) (fun hc => ?_) <;> first | (exfalso; omega) | exact absurd trivial hc | exact absurd rfl hc | conv => whnf)
    | (with_reducible refine Br.and ?_)
    | (with_reducible refine Br.or ?_)
    | (refine Br.any (fun hc => ?_) (fun hc => ?_) <;> conv => whnf)
    | (refine Fit.inl ?_ ?_; (focus ((first | omega | exact ⟨by omega, by omega⟩ | rfl | exact trivial | assumption | (simp only [List.length_map, List.length_append, List.length_take, List.length_drop, List.length_cons, List.length_nil, List.length_replicate, List.length_set, List.length_reverse, nds_len, numsD_length]; omega) | (simp only [List.length_map, List.length_append, List.length_take, List.length_drop, List.length_cons, List.length_nil, List.length_replicate, List.length_set, List.length_reverse, nds_len, numsD_length]; exact ⟨by omega, by omega⟩) | exact nds_each | (refine map_each ?_; intro x; rfl) | (refine first_map ?_; intro x; rfl) | exact first_nds | simp | (simp; omega)); done)); conv => whnf)
    | (refine Each.mapAt (by assumption) ?_; conv => whnf)
    | (refine Each.ndsAt (by assumption) ?_; conv => whnf)
    | (refine Each.at (by assumption) ?_; conv => whnf)
    | (refine Each.map (fun x hx => ?_); (try simp only [Int.toNat_natCast, Int.toNat_zero, Int.toNat_one, Int.toNat_natCast_add_one] at hx); conv => whnf)
    | (refine Each.nds (fun a b c ps hx => ?_); (try simp only [Int.toNat_natCast, Int.toNat_zero, Int.toNat_one, Int.toNat_natCast_add_one] at hx); conv => whnf)
    | (refine Each.rep ?_; conv => whnf)
    | (refine Each.drop ?_)
    | (refine Each.take (fun hi => ?_))
    | (refine Each.any (fun x hx => ?_); (try simp only [Int.toNat_natCast, Int.toNat_zero, Int.toNat_one, Int.toNat_natCast_add_one] at hx); conv => whnf)
    | (refine NilB.any (fun hn => ?_) ?_ <;> conv => whnf)
    | (refine ⟨_, bytesOfD_nums _, ?_⟩; conv => whnf)
    | (refine WP.still (id := 1) tabOK hmix (by kernel_rfl) ?_; conv => whnf)
    | exact ⟨rfl, rfl⟩
    | (refine Fin.bool ?_ rfl)
    | (refine Fin.int ?_ rfl)
    | (refine Fin.str ?_ rfl)
    | (refine Fin.sl ?_ rfl)
    | exact trivial)
    all_goals by_cases hxm : x = m <;> simp [hxm]
attribute [local irreducible] outB
theorem out_idx (d : Nat) (m : Str) (l : List Run) (hlen : l.length < 2 ^ 62) (hel : ∀ x ∈ l, x.marks.length < 2 ^ 40 ∧ d ≤ x.marks.length) : CallWP Tryd.prog 14 [.d (.sl (l.map Run.d)), .fn 15 [.ref 0 0 0, .ref 1 0 0]] [(0, .var 3 [(.d (.int .i64 (d)))]), (1, .var 9 [(.d (.str (m)))])] (fun r h => r = .d (.int .i64 (idx (outB d m) l)) ∧ h = [(0, .var 3 [(.d (.int .i64 (d)))]), (1, .var 9 [(.d (.str (m)))])]) := by
  (refine CallWP.go tabOK Tryd.func14 2 19 rfl rfl rfl rfl ?_; conv => whnf)
  refine WP.loop (α := Nat) tabOK (fun i => i ≤ l.length ∧ ∀ (j : Nat) (y : Run), j < i → l[j]? = some y → (outB d m) y = false) (fun i => ⟨[(0, (.d (.sl (l.map Run.d)))), (1, .fn 15 [.ref 0 0 0, .ref 1 0 0]), (7, (.d (.int .i64 ((l.map Run.d).length)))), (8, (.d (.int .i64 (i))))], [(0, .var 3 [(.d (.int .i64 (d)))]), (1, .var 9 [(.d (.str (m)))])], 2, 19⟩) (fun i => l.length - i) (0) ?_ ?_ ?_
  · exact ⟨Nat.zero_le _, by simp⟩
  · conv => whnf
    repeat (first | exact True.intro | (refine Need.mk ?_ ?_; (focus ((first | rfl | assumption | omega | (simp only [List.length_map, List.length_append, List.length_take, List.length_drop, List.length_cons, List.length_nil, List.length_replicate, List.length_set, List.length_reverse, nds_len, numsD_length]; omega) | simp); done)); conv => whnf) | ((conv => whnf); exact True.intro))
  rintro i ⟨hi, hb⟩
  conv => whnf
  repeat' (first
    | (refine Br.tt ?_; conv => whnf)
    | (refine Br.ff ?_; conv => whnf)
    | (refine Both.mk ?_ ?_ <;> conv => whnf)
    | (refine Br.not ?_)
    | (refine Need.mk ?_ ?_; (focus ((first | omega | exact ⟨by omega, by omega⟩ | rfl | exact trivial | assumption | (simp only [List.length_map, List.length_append, List.length_take, List.length_drop, List.length_cons, List.length_nil, List.length_replicate, List.length_set, List.length_reverse, nds_len, numsD_length]; omega) | (simp only [List.length_map, List.length_append, List.length_take, List.length_drop, List.length_cons, List.length_nil, List.length_replicate, List.length_set, List.length_reverse, nds_len, numsD_length]; exact ⟨by omega, by omega⟩) | exact nds_each | (refine map_each ?_; intro x; rfl) | (refine first_map ?_; intro x; rfl) | exact first_nds | simp | (simp; omega)); done)); conv => whnf)
    | (refine Br.t (by assumption) ?_; conv => whnf)
    | (refine Br.f (by assumption) ?_; conv => whnf)
    | (refine Br.self ?_; conv => whnf)
    | (refine Br.decT (by assumption) ?_; conv => whnf)
    | (refine Br.decF (by assumption) ?_; conv => whnf)
    | (refine Br.eqT (by assumption) ?_; conv => whnf)
    | (refine Br.eqF (by assumption) ?_; conv => whnf)
    | (refine Br.dec (fun hc => ?_) (fun hc => ?_) <;> (try simp only [List.length_map, List.length_append, List.length_take, List.length_drop, List.length_cons, List.length_nil, List.length_replicate, List.length_set, List.length_reverse, nds_len, numsD_length] at hc) <;> first | (exfalso; omega) | exact absurd trivial hc | exact absurd rfl hc | conv => whnf)
    | (refine Br.eq (fun hc => ?_) (fun hc => ?_) <;> first | (exfalso; omega) | exact absurd trivial hc | exact absurd rfl hc | conv => whnf)
    | (refine Br.ne (fun hc => ?_) (fun hc => ?_) <;> first | (exfalso; omega) | exact absurd trivial hc | exact absurd rfl hc | conv => whnf)
    | (with_reducible refine Br.and ?_)
    | (with_reducible refine Br.or ?_)
    | (refine Br.any (fun hc => ?_) (fun hc => ?_) <;> conv => whnf)
    | (refine Fit.inl ?_ ?_; (focus ((first | omega | exact ⟨by omega, by omega⟩ | rfl | exact trivial | assumption | (simp only [List.length_map, List.length_append, List.length_take, List.length_drop, List.length_cons, List.length_nil, List.length_replicate, List.length_set, List.length_reverse, nds_len, numsD_length]; omega) | (simp only [List.length_map, List.length_append, List.length_take, List.length_drop, List.length_cons, List.length_nil, List.length_replicate, List.length_set, List.length_reverse, nds_len, numsD_length]; exact ⟨by omega, by omega⟩) | exact nds_each | (refine map_each ?_; intro x; rfl) | (refine first_map ?_; intro x; rfl) | exact first_nds | simp | (simp; omega)); done)); conv => whnf)
    | (refine Each.mapAt (by assumption) ?_; conv => whnf)
    | (refine Each.ndsAt (by assumption) ?_; conv => whnf)
    | (refine Each.at (by assumption) ?_; conv => whnf)
    | (refine Each.map (fun x hx => ?_); (try simp only [Int.toNat_natCast, Int.toNat_zero, Int.toNat_one, Int.toNat_natCast_add_one] at hx); conv => whnf)
    | (refine Each.nds (fun a b c ps hx => ?_); (try simp only [Int.toNat_natCast, Int.toNat_zero, Int.toNat_one, Int.toNat_natCast_add_one] at hx); conv => whnf)
    | (refine Each.rep ?_; conv => whnf)
    | (refine Each.drop ?_)
    | (refine Each.take (fun hi => ?_))
    | (refine Each.any (fun x hx => ?_); (try simp only [Int.toNat_natCast, Int.toNat_zero, Int.toNat_one, Int.toNat_natCast_add_one] at hx); conv => whnf)
    | (refine NilB.any (fun hn => ?_) ?_ <;> conv => whnf)
    | (refine CallWP.mono (outC d m _ (hel _ (List.mem_of_getElem? (by assumption)))) ?_; rintro r h ⟨rfl, rfl⟩; conv => whnf)
    | (refine ⟨_, bytesOfD_nums _, ?_⟩; conv => whnf)
    | exact ⟨rfl, rfl⟩
    | (refine Fin.bool ?_ rfl)
    | (refine Fin.int ?_ rfl)
    | (refine Fin.str ?_ rfl)
    | (refine Fin.sl ?_ rfl)
    | exact trivial)
  · exact (idx_some hx hc hb).symm
  · refine ⟨i + 1, ⟨by omega, before_succ hb hx hc⟩, by dsimp only; omega, ?_⟩
    conv => whnf
    repeat (first | exact True.intro | (refine Need.mk ?_ ?_; (focus ((first | rfl | assumption | omega | (simp only [List.length_map, List.length_append, List.length_take, List.length_drop, List.length_cons, List.length_nil, List.length_replicate, List.length_set, List.length_reverse, nds_len, numsD_length]; omega) | simp); done)); conv => whnf) | ((conv => whnf); exact True.intro))
  · exact (idx_none (before_all hb (by omega))).symm

attribute [local irreducible] nstV inG
/-- The first group. -/
def cnt (d : Nat) (m : Str) (l : List Run) : Nat := (l.takeWhile (inG d m)).length
theorem cnt_le (d : Nat) (m : Str) (l : List Run) : cnt d m l ≤ l.length := by
  have := congrArg List.length (List.takeWhile_append_dropWhile (p := inG d m) (l := l))
  rw [List.length_append] at this
  unfold cnt; omega
theorem cnt_take (d : Nat) (m : Str) (l : List Run) : l.take (cnt d m l) = l.takeWhile (inG d m) ∧ l.drop (cnt d m l) = l.dropWhile (inG d m) := by
  have h := List.takeWhile_append_dropWhile (p := inG d m) (l := l)
  have key : ∀ (u v l : List Run), u ++ v = l → l.take u.length = u ∧ l.drop u.length = v := by rintro u v _ rfl; simp
  exact key _ _ _ h
theorem idx_cnt (d : Nat) (m : Str) (l : List Run) : (idx (outB d m) l = -1 ∧ cnt d m l = l.length) ∨ idx (outB d m) l = (cnt d m l : Nat) := by
  have h := idx_tw (outB d m) l
  have e : (fun x => !outB d m x) = inG d m := by funext q; unfold outB; simp
  rw [e] at h
  rcases h with ⟨h1, h2⟩ | ⟨h1, h2⟩
  · exact .inl ⟨h2, h1⟩
  · exact .inr h2
set_option maxHeartbeats 8000000 in
theorem nestC : ∀ (N : Nat) (p : List Str) (l : List Run), wtN p.length l < N → N < 2 ^ 40 → l.length < 2 ^ 40 → p.length < 2 ^ 40 → (∀ q ∈ l, (∃ t, q.marks = p ++ t) ∧ q.marks.length < 2 ^ 40) →
    CallWP Tryd.prog 8 [(.d (.sl (l.map Run.d))), (.d (.int .i64 (p.length)))] [] (fun r h => r = (.d (.sl (nds (nstV p.length l)))) ∧ h = []) := by
  intro N
  induction N with
  | zero => intro p l hw; omega
  | succ N ih =>
    intro p l hw hN hl hpl hp
    refine CallWP.val (Q := fun r h => r = .full 0 ∧ h = [(0, .row 36 (nds (nstV p.length l)))]) ?_ (by rintro r h ⟨rfl, rfl⟩; exact ⟨rfl, rfl⟩)
    (refine CallWP.go tabOK Tryd.func8 0 57 rfl rfl rfl rfl ?_; conv => whnf)
    refine WP.loop (α := (List Run × List Nd)) tabOK (fun ⟨rest, out⟩ => wtN p.length rest < N + 1 ∧ rest.length ≤ l.length ∧ out.length + rest.length ≤ l.length ∧ (∀ q ∈ rest, (∃ t, q.marks = p ++ t) ∧ q.marks.length < 2 ^ 40) ∧ nstV p.length l = out ++ nstV p.length rest) (fun ⟨rest, out⟩ => ⟨[(0, (.d (.sl (rest.map Run.d)))), (3, .ref 0 0 0), (5, .full 1)], [(0, .var 3 [(.d (.int .i64 (p.length)))]), (1, .row 36 (nds out))], 2, 57⟩) (fun ⟨rest, out⟩ => rest.length) ((l, [])) ?_ ?_ ?_
    · exact ⟨hw, Nat.le_refl _, by simp, hp, rfl⟩
    · conv => whnf
      repeat (first | exact True.intro | (refine Need.mk ?_ ?_; (focus ((first | rfl | assumption | omega | (simp only [List.length_map, List.length_append, List.length_take, List.length_drop, List.length_cons, List.length_nil, List.length_replicate, List.length_set, List.length_reverse, nds_len, numsD_length]; omega) | simp [nds]); done)); conv => whnf) | ((conv => whnf); exact True.intro))
    rintro ⟨rest, out⟩ ⟨hw2, hl2, hl3, hp2, hv⟩
    cases rest with
    | nil =>
      rw [nstV_nil, List.append_nil] at hv
      conv => whnf
      repeat' (first
    | (refine Br.tt ?_; conv => whnf)
    | (refine Br.ff ?_; conv => whnf)
    | (refine Both.mk ?_ ?_ <;> conv => whnf)
    | (refine Br.not ?_)
    | (refine Need.mk ?_ ?_; (focus ((first | omega | exact ⟨by omega, by omega⟩ | rfl | exact trivial | assumption | (simp only [List.length_map, List.length_append, List.length_take, List.length_drop, List.length_cons, List.length_nil, List.length_replicate, List.length_set, List.length_reverse, nds_len, numsD_length]; omega) | (simp only [List.length_map, List.length_append, List.length_take, List.length_drop, List.length_cons, List.length_nil, List.length_replicate, List.length_set, List.length_reverse, nds_len, numsD_length]; exact ⟨by omega, by omega⟩) | exact nds_each | (refine map_each ?_; intro x; rfl) | (refine first_map ?_; intro x; rfl) | exact first_nds | simp | (simp; omega)); done)); conv => whnf)
    | (refine Br.t (by assumption) ?_; conv => whnf)
    | (refine Br.f (by assumption) ?_; conv => whnf)
    | (refine Br.self ?_; conv => whnf)
    | (refine Br.decT (by assumption) ?_; conv => whnf)
    | (refine Br.decF (by assumption) ?_; conv => whnf)
    | (refine Br.eqT (by assumption) ?_; conv => whnf)
    | (refine Br.eqF (by assumption) ?_; conv => whnf)
    | (refine Br.dec (fun hc => ?_) (fun hc => ?_) <;> (try simp only [List.length_map, List.length_append, List.length_take, List.length_drop, List.length_cons, List.length_nil, List.length_replicate, List.length_set, List.length_reverse, nds_len, numsD_length] at hc) <;> first | (exfalso; omega) | exact absurd trivial hc | exact absurd rfl hc | conv => whnf)
    | (refine Br.eq (fun hc => ?_) (fun hc => ?_) <;> first | (exfalso; omega) | exact absurd trivial hc | exact absurd rfl hc | conv => whnf)
    | (refine Br.ne (fun hc => ?_) (fun hc => ?_) <;> first | (exfalso; omega) | exact absurd trivial hc | exact absurd rfl hc | conv => whnf)
    | (with_reducible refine Br.and ?_)
    | (with_reducible refine Br.or ?_)
    | (refine Br.any (fun hc => ?_) (fun hc => ?_) <;> conv => whnf)
    | (refine Fit.inl ?_ ?_; (focus ((first | omega | exact ⟨by omega, by omega⟩ | rfl | exact trivial | assumption | (simp only [List.length_map, List.length_append, List.length_take, List.length_drop, List.length_cons, List.length_nil, List.length_replicate, List.length_set, List.length_reverse, nds_len, numsD_length]; omega) | (simp only [List.length_map, List.length_append, List.length_take, List.length_drop, List.length_cons, List.length_nil, List.length_replicate, List.length_set, List.length_reverse, nds_len, numsD_length]; exact ⟨by omega, by omega⟩) | exact nds_each | (refine map_each ?_; intro x; rfl) | (refine first_map ?_; intro x; rfl) | exact first_nds | simp | (simp; omega)); done)); conv => whnf)
    | (refine Each.mapAt (by assumption) ?_; conv => whnf)
    | (refine Each.ndsAt (by assumption) ?_; conv => whnf)
    | (refine Each.at (by assumption) ?_; conv => whnf)
    | (refine Each.map (fun x hx => ?_); (try simp only [Int.toNat_natCast, Int.toNat_zero, Int.toNat_one, Int.toNat_natCast_add_one] at hx); conv => whnf)
    | (refine Each.nds (fun a b c ps hx => ?_); (try simp only [Int.toNat_natCast, Int.toNat_zero, Int.toNat_one, Int.toNat_natCast_add_one] at hx); conv => whnf)
    | (refine Each.rep ?_; conv => whnf)
    | (refine Each.drop ?_)
    | (refine Each.take (fun hi => ?_))
    | (refine Each.any (fun x hx => ?_); (try simp only [Int.toNat_natCast, Int.toNat_zero, Int.toNat_one, Int.toNat_natCast_add_one] at hx); conv => whnf)
    | (refine NilB.any (fun hn => ?_) ?_ <;> conv => whnf)
    | (refine ⟨_, bytesOfD_nums _, ?_⟩; conv => whnf)
    | (refine WP.still (id := 3) tabOK hmix (by kernel_rfl) ?_; conv => whnf)
    | (refine WP.sch (id := 6) tabOK hmix (.mob 0 (.mob 1 (.mob 2 (.mob 3 (.alt [(4, .mob 5 (.mob 6 (.alt [(7, .alt [(8, .done)])]))), (7, .alt [(4, .mob 5 (.mob 6 (.alt [(8, .done)])))])]))))) (by kernel_rfl) ?_; conv => whnf)
    | (refine WP.sch (id := 10) tabOK hmix (.mob 0 (.mob 2 (.mob 3 (.alt [(1, .alt [(4, .alt [(5, .mob 6 (.alt [(7, .alt [(8, .alt [(9, .alt [(10, .mob 11 (.done))])])])]))]), (5, .mob 6 (.alt [(4, .alt [(7, .alt [(8, .alt [(9, .alt [(10, .mob 11 (.done))])])])])]))]), (4, .alt [(1, .alt [(5, .mob 6 (.alt [(7, .alt [(8, .alt [(9, .alt [(10, .mob 11 (.done))])])])]))]), (5, .mob 6 (.alt [(1, .alt [(7, .alt [(8, .alt [(9, .alt [(10, .mob 11 (.done))])])])]), (7, .alt [(1, .alt [(8, .alt [(9, .alt [(10, .mob 11 (.done))])])])])]))]), (5, .mob 6 (.alt [(1, .alt [(4, .alt [(7, .alt [(8, .alt [(9, .alt [(10, .mob 11 (.done))])])])])]), (4, .alt [(1, .alt [(7, .alt [(8, .alt [(9, .alt [(10, .mob 11 (.done))])])])]), (7, .alt [(1, .alt [(8, .alt [(9, .alt [(10, .mob 11 (.done))])])])])])]))])))) (by kernel_rfl) ?_; conv => whnf)
    | exact ⟨rfl, rfl⟩
    | (refine Fin.bool ?_ rfl)
    | (refine Fin.int ?_ rfl)
    | (refine Fin.str ?_ rfl)
    | (refine Fin.sl ?_ rfl)
    | exact trivial)
      rw [hv]; exact ⟨rfl, rfl⟩
    | cons r rest =>
      obtain ⟨⟨t, ht⟩, hml⟩ := hp2 r (by simp)
      have hr0 : (r :: rest)[0]? = some r := rfl
      have hlen : rest.length + 1 ≤ l.length := hl2
      have hout : out.length + (rest.length + 1) ≤ l.length := hl3
      by_cases hd : r.marks.length = p.length
      · rw [nstV_leaf (fun q hq => (hp2 q hq).1) hd] at hv
        conv => whnf
        repeat' (first
    | (refine Br.tt ?_; conv => whnf)
    | (refine Br.ff ?_; conv => whnf)
    | (refine Both.mk ?_ ?_ <;> conv => whnf)
    | (refine Br.not ?_)
    | (refine Need.mk ?_ ?_; (focus ((first | omega | exact ⟨by omega, by omega⟩ | rfl | exact trivial | assumption | (simp only [List.length_map, List.length_append, List.length_take, List.length_drop, List.length_cons, List.length_nil, List.length_replicate, List.length_set, List.length_reverse, nds_len, numsD_length]; omega) | (simp only [List.length_map, List.length_append, List.length_take, List.length_drop, List.length_cons, List.length_nil, List.length_replicate, List.length_set, List.length_reverse, nds_len, numsD_length]; exact ⟨by omega, by omega⟩) | exact nds_each | (refine map_each ?_; intro x; rfl) | (refine first_map ?_; intro x; rfl) | exact first_nds | simp | (simp; omega)); done)); conv => whnf)
    | (refine Br.t (by assumption) ?_; conv => whnf)
    | (refine Br.f (by assumption) ?_; conv => whnf)
    | (refine Br.self ?_; conv => whnf)
    | (refine Br.decT (by assumption) ?_; conv => whnf)
    | (refine Br.decF (by assumption) ?_; conv => whnf)
    | (refine Br.eqT (by assumption) ?_; conv => whnf)
    | (refine Br.eqF (by assumption) ?_; conv => whnf)
    | (refine Br.dec (fun hc => ?_) (fun hc => ?_) <;> (try simp only [List.length_map, List.length_append, List.length_take, List.length_drop, List.length_cons, List.length_nil, List.length_replicate, List.length_set, List.length_reverse, nds_len, numsD_length] at hc) <;> first | (exfalso; omega) | exact absurd trivial hc | exact absurd rfl hc | conv => whnf)
    | (refine Br.eq (fun hc => ?_) (fun hc => ?_) <;> first | (exfalso; omega) | exact absurd trivial hc | exact absurd rfl hc | conv => whnf)
    | (refine Br.ne (fun hc => ?_) (fun hc => ?_) <;> first | (exfalso; omega) | exact absurd trivial hc | exact absurd rfl hc | conv => whnf)
    | (with_reducible refine Br.and ?_)
    | (with_reducible refine Br.or ?_)
    | (refine Br.any (fun hc => ?_) (fun hc => ?_) <;> conv => whnf)
    | (refine Fit.inl ?_ ?_; (focus ((first | omega | exact ⟨by omega, by omega⟩ | rfl | exact trivial | assumption | (simp only [List.length_map, List.length_append, List.length_take, List.length_drop, List.length_cons, List.length_nil, List.length_replicate, List.length_set, List.length_reverse, nds_len, numsD_length]; omega) | (simp only [List.length_map, List.length_append, List.length_take, List.length_drop, List.length_cons, List.length_nil, List.length_replicate, List.length_set, List.length_reverse, nds_len, numsD_length]; exact ⟨by omega, by omega⟩) | exact nds_each | (refine map_each ?_; intro x; rfl) | (refine first_map ?_; intro x; rfl) | exact first_nds | simp | (simp; omega)); done)); conv => whnf)
    | (refine Each.mapAt (by assumption) ?_; conv => whnf)
    | (refine Each.ndsAt (by assumption) ?_; conv => whnf)
    | (refine Each.at (by assumption) ?_; conv => whnf)
    | (refine Each.map (fun x hx => ?_); (try simp only [Int.toNat_natCast, Int.toNat_zero, Int.toNat_one, Int.toNat_natCast_add_one] at hx); conv => whnf)
    | (refine Each.nds (fun a b c ps hx => ?_); (try simp only [Int.toNat_natCast, Int.toNat_zero, Int.toNat_one, Int.toNat_natCast_add_one] at hx); conv => whnf)
    | (refine Each.rep ?_; conv => whnf)
    | (refine Each.drop ?_)
    | (refine Each.take (fun hi => ?_))
    | (refine Each.any (fun x hx => ?_); (try simp only [Int.toNat_natCast, Int.toNat_zero, Int.toNat_one, Int.toNat_natCast_add_one] at hx); conv => whnf)
    | (refine NilB.any (fun hn => ?_) ?_ <;> conv => whnf)
    | (refine ⟨_, bytesOfD_nums _, ?_⟩; conv => whnf)
    | (refine WP.still (id := 3) tabOK hmix (by kernel_rfl) ?_; conv => whnf)
    | (refine WP.sch (id := 6) tabOK hmix (.mob 0 (.mob 1 (.mob 2 (.mob 3 (.alt [(4, .mob 5 (.mob 6 (.alt [(7, .alt [(8, .done)])]))), (7, .alt [(4, .mob 5 (.mob 6 (.alt [(8, .done)])))])]))))) (by kernel_rfl) ?_; conv => whnf)
    | (refine WP.sch (id := 10) tabOK hmix (.mob 0 (.mob 2 (.mob 3 (.alt [(1, .alt [(4, .alt [(5, .mob 6 (.alt [(7, .alt [(8, .alt [(9, .alt [(10, .mob 11 (.done))])])])]))]), (5, .mob 6 (.alt [(4, .alt [(7, .alt [(8, .alt [(9, .alt [(10, .mob 11 (.done))])])])])]))]), (4, .alt [(1, .alt [(5, .mob 6 (.alt [(7, .alt [(8, .alt [(9, .alt [(10, .mob 11 (.done))])])])]))]), (5, .mob 6 (.alt [(1, .alt [(7, .alt [(8, .alt [(9, .alt [(10, .mob 11 (.done))])])])]), (7, .alt [(1, .alt [(8, .alt [(9, .alt [(10, .mob 11 (.done))])])])])]))]), (5, .mob 6 (.alt [(1, .alt [(4, .alt [(7, .alt [(8, .alt [(9, .alt [(10, .mob 11 (.done))])])])])]), (4, .alt [(1, .alt [(7, .alt [(8, .alt [(9, .alt [(10, .mob 11 (.done))])])])]), (7, .alt [(1, .alt [(8, .alt [(9, .alt [(10, .mob 11 (.done))])])])])])]))])))) (by kernel_rfl) ?_; conv => whnf)
    | exact ⟨rfl, rfl⟩
    | (refine Fin.bool ?_ rfl)
    | (refine Fin.int ?_ rfl)
    | (refine Fin.str ?_ rfl)
    | (refine Fin.sl ?_ rfl)
    | exact trivial)
        refine ⟨(rest, out ++ [.mk [] [] r.text []]), ⟨by rw [wtN_cons] at hw2; omega, by omega, by simp; omega, fun q hq => hp2 q (by simp [hq]), by rw [hv]; simp⟩, by simp, ?_⟩
        clear hv hw2 hp2
        conv => whnf
        repeat (first | exact True.intro | (refine Need.mk ?_ ?_; (focus ((first | rfl | assumption | omega | (simp only [List.length_map, List.length_append, List.length_take, List.length_drop, List.length_cons, List.length_nil, List.length_replicate, List.length_set, List.length_reverse, nds_len, numsD_length]; omega) | simp [nds, nds_app, Nd.d]); done)); conv => whnf) | ((conv => whnf); exact True.intro))
      · obtain ⟨m, hm⟩ : ∃ m, r.marks[p.length]? = some m := ⟨_, List.getElem?_eq_getElem (by have := congrArg List.length ht; simp at this; omega)⟩
        have hpm : p.length < r.marks.length := (List.getElem?_eq_some_iff.1 hm).1
        have hin : inG p.length m r = true := by unfold inG; rw [hm]; simp
        obtain ⟨c1, c2⟩ := cnt_take p.length m (r :: rest)
        have c3 := cnt_le p.length m (r :: rest)
        have c4 : 0 < cnt p.length m (r :: rest) := by unfold cnt; rw [List.takeWhile_cons, if_pos hin]; simp
        have c5 := idx_cnt p.length m (r :: rest)
        have hsp := List.takeWhile_append_dropWhile (p := inG p.length m) (l := r :: rest)
        rw [← c1, ← c2] at hsp
        have hg1 : ∀ q ∈ (r :: rest).take (cnt p.length m (r :: rest)), inG p.length m q = true := fun q hq => tw_all _ _ q (by rw [← c1]; exact hq)
        have hnode := nstV_node (p := p) (m := m) (l1 := (r :: rest).take (cnt p.length m (r :: rest))) (l2 := (r :: rest).drop (cnt p.length m (r :: rest))) (by rw [hsp]; exact fun q hq => (hp2 q hq).1)
          (by intro h; have := congrArg List.length h; simp at this; omega) hg1 (fun q hq => by
            have h2 := List.head?_dropWhile_not (inG p.length m) (r :: rest)
            rw [← c2, hq] at h2
            simpa using h2)
        rw [hsp] at hnode
        have hwa : wtN p.length ((r :: rest).take (cnt p.length m (r :: rest))) + wtN p.length ((r :: rest).drop (cnt p.length m (r :: rest))) < N + 1 := by rw [← wtN_app, hsp]; exact hw2
        have hup := wtN_up p.length ((r :: rest).take (cnt p.length m (r :: rest))) (fun q hq => by
          have := hg1 q hq
          unfold inG at this
          simp at this
          exact (List.getElem?_eq_some_iff.1 this).1)
        have hlt : ((r :: rest).take (cnt p.length m (r :: rest))).length = cnt p.length m (r :: rest) := by rw [List.length_take]; omega
        have hrec := ih (p ++ [m]) ((r :: rest).take (cnt p.length m (r :: rest))) (by rw [show (p ++ [m]).length = p.length + 1 by simp]; omega) (by omega) (by omega) (by simp; omega) (fun q hq => by
          have hq2 : q ∈ r :: rest := List.mem_of_mem_take hq
          obtain ⟨h1, h2⟩ := hp2 q hq2
          obtain ⟨t, ht⟩ := (inG_iff h1).1 (hg1 q hq)
          exact ⟨⟨t, by rw [ht]; simp⟩, h2⟩)
        rw [show (p ++ [m]).length = p.length + 1 by simp] at hrec
        have hidx := out_idx p.length m (r :: rest) (by simp; omega) (fun q hq => by
          obtain ⟨⟨t, ht⟩, h2⟩ := hp2 q hq
          exact ⟨h2, by have := congrArg List.length ht; simp at this; omega⟩)
        generalize cnt p.length m (r :: rest) = k at *
        have hinv : wtN p.length ((r :: rest).drop k) < N + 1 ∧ ((r :: rest).drop k).length ≤ l.length ∧ (out ++ [Nd.mk m [] [] (nstV (p.length + 1) ((r :: rest).take k))]).length + ((r :: rest).drop k).length ≤ l.length ∧
            (∀ q ∈ (r :: rest).drop k, (∃ t, q.marks = p ++ t) ∧ q.marks.length < 2 ^ 40) ∧ nstV p.length l = (out ++ [Nd.mk m [] [] (nstV (p.length + 1) ((r :: rest).take k))]) ++ nstV p.length ((r :: rest).drop k) := by
          simp only [List.length_cons] at c3
          refine ⟨by omega, by simp; omega, by simp; omega, fun q hq => hp2 q (List.mem_of_mem_drop hq), by rw [hv, hnode]; simp⟩
        have hmea : ((r :: rest).drop k).length < (r :: rest).length := by simp only [List.length_cons] at c3; rw [List.length_drop]; simp; omega
        have c3' : k ≤ rest.length + 1 := c3
        rcases c5 with ⟨c5, c6⟩ | c5
        · rw [c5] at hidx
          have hrec2 : CallWP Tryd.prog 8 [(.d (.sl (List.drop (Int.toNat 0) (List.take (((((r :: rest).map Run.d).length : Nat) : Int)).toNat ((r :: rest).map Run.d))))), (.d (.int .i64 ((p.length : Int) + 1)))] [] (fun r_1 h => r_1 = (.d (.sl (nds (nstV (p.length + 1) ((r :: rest).take k))))) ∧ h = []) := by
            have e : List.drop (Int.toNat 0) (List.take (((((r :: rest).map Run.d).length : Nat) : Int)).toNat ((r :: rest).map Run.d)) = ((r :: rest).take k).map Run.d := by
              rw [c6, List.take_length, Int.toNat_natCast, List.take_length]; rfl
            rw [e]; exact hrec
          have hdr : List.drop (((((r :: rest).map Run.d).length : Nat) : Int)).toNat ((r :: rest).map Run.d) = ((r :: rest).drop k).map Run.d := by
            rw [c6, Int.toNat_natCast, List.drop_length, List.drop_length]; rfl
          clear hv hnode hup hwa hsp c1 c2 hg1 hlt hp2 ih hp hw hw2 hrec
          conv => whnf
          repeat' (first
    | (refine Br.tt ?_; conv => whnf)
    | (refine Br.ff ?_; conv => whnf)
    | (refine Both.mk ?_ ?_ <;> conv => whnf)
    | (refine Br.not ?_)
    | (refine Need.mk ?_ ?_; (focus ((first | omega | exact ⟨by omega, by omega⟩ | rfl | exact trivial | assumption | (simp only [List.length_map, List.length_append, List.length_take, List.length_drop, List.length_cons, List.length_nil, List.length_replicate, List.length_set, List.length_reverse, nds_len, numsD_length]; omega) | (simp only [List.length_map, List.length_append, List.length_take, List.length_drop, List.length_cons, List.length_nil, List.length_replicate, List.length_set, List.length_reverse, nds_len, numsD_length]; exact ⟨by omega, by omega⟩) | exact nds_each | (refine map_each ?_; intro x; rfl) | (refine first_map ?_; intro x; rfl) | exact first_nds | simp | (simp; omega)); done)); conv => whnf)
    | (refine Br.t (by assumption) ?_; conv => whnf)
    | (refine Br.f (by assumption) ?_; conv => whnf)
    | (refine Br.self ?_; conv => whnf)
    | (refine Br.decT (by assumption) ?_; conv => whnf)
    | (refine Br.decF (by assumption) ?_; conv => whnf)
    | (refine Br.eqT (by assumption) ?_; conv => whnf)
    | (refine Br.eqF (by assumption) ?_; conv => whnf)
    | (refine Br.dec (fun hc => ?_) (fun hc => ?_) <;> (try simp only [List.length_map, List.length_append, List.length_take, List.length_drop, List.length_cons, List.length_nil, List.length_replicate, List.length_set, List.length_reverse, nds_len, numsD_length] at hc) <;> first | (exfalso; omega) | exact absurd trivial hc | exact absurd rfl hc | conv => whnf)
    | (refine Br.eq (fun hc => ?_) (fun hc => ?_) <;> first | (exfalso; omega) | exact absurd trivial hc | exact absurd rfl hc | conv => whnf)
    | (refine Br.ne (fun hc => ?_) (fun hc => ?_) <;> first | (exfalso; omega) | exact absurd trivial hc | exact absurd rfl hc | conv => whnf)
    | (with_reducible refine Br.and ?_)
    | (with_reducible refine Br.or ?_)
    | (refine Br.any (fun hc => ?_) (fun hc => ?_) <;> conv => whnf)
    | (refine Fit.inl ?_ ?_; (focus ((first | omega | exact ⟨by omega, by omega⟩ | rfl | exact trivial | assumption | (simp only [List.length_map, List.length_append, List.length_take, List.length_drop, List.length_cons, List.length_nil, List.length_replicate, List.length_set, List.length_reverse, nds_len, numsD_length]; omega) | (simp only [List.length_map, List.length_append, List.length_take, List.length_drop, List.length_cons, List.length_nil, List.length_replicate, List.length_set, List.length_reverse, nds_len, numsD_length]; exact ⟨by omega, by omega⟩) | exact nds_each | (refine map_each ?_; intro x; rfl) | (refine first_map ?_; intro x; rfl) | exact first_nds | simp | (simp; omega)); done)); conv => whnf)
    | (refine Each.mapAt (by assumption) ?_; conv => whnf)
    | (refine Each.ndsAt (by assumption) ?_; conv => whnf)
    | (refine Each.at (by assumption) ?_; conv => whnf)
    | (refine Each.map (fun x hx => ?_); (try simp only [Int.toNat_natCast, Int.toNat_zero, Int.toNat_one, Int.toNat_natCast_add_one] at hx); conv => whnf)
    | (refine Each.nds (fun a b c ps hx => ?_); (try simp only [Int.toNat_natCast, Int.toNat_zero, Int.toNat_one, Int.toNat_natCast_add_one] at hx); conv => whnf)
    | (refine Each.rep ?_; conv => whnf)
    | (refine Each.drop ?_)
    | (refine Each.take (fun hi => ?_))
    | (refine Each.any (fun x hx => ?_); (try simp only [Int.toNat_natCast, Int.toNat_zero, Int.toNat_one, Int.toNat_natCast_add_one] at hx); conv => whnf)
    | (refine NilB.any (fun hn => ?_) ?_ <;> conv => whnf)
    | (refine CallWP.mono (hidx) ?_; rintro r h ⟨rfl, rfl⟩; conv => whnf)
    | (refine CallWP.mono (hrec2) ?_; rintro r h ⟨rfl, rfl⟩; conv => whnf)
    | (refine ⟨_, bytesOfD_nums _, ?_⟩; conv => whnf)
    | (refine WP.still (id := 3) tabOK hmix (by kernel_rfl) ?_; conv => whnf)
    | (refine WP.sch (id := 6) tabOK hmix (.mob 0 (.mob 1 (.mob 2 (.mob 3 (.alt [(4, .mob 5 (.mob 6 (.alt [(7, .alt [(8, .done)])]))), (7, .alt [(4, .mob 5 (.mob 6 (.alt [(8, .done)])))])]))))) (by kernel_rfl) ?_; conv => whnf)
    | (refine WP.sch (id := 10) tabOK hmix (.mob 0 (.mob 2 (.mob 3 (.alt [(1, .alt [(4, .alt [(5, .mob 6 (.alt [(7, .alt [(8, .alt [(9, .alt [(10, .mob 11 (.done))])])])]))]), (5, .mob 6 (.alt [(4, .alt [(7, .alt [(8, .alt [(9, .alt [(10, .mob 11 (.done))])])])])]))]), (4, .alt [(1, .alt [(5, .mob 6 (.alt [(7, .alt [(8, .alt [(9, .alt [(10, .mob 11 (.done))])])])]))]), (5, .mob 6 (.alt [(1, .alt [(7, .alt [(8, .alt [(9, .alt [(10, .mob 11 (.done))])])])]), (7, .alt [(1, .alt [(8, .alt [(9, .alt [(10, .mob 11 (.done))])])])])]))]), (5, .mob 6 (.alt [(1, .alt [(4, .alt [(7, .alt [(8, .alt [(9, .alt [(10, .mob 11 (.done))])])])])]), (4, .alt [(1, .alt [(7, .alt [(8, .alt [(9, .alt [(10, .mob 11 (.done))])])])]), (7, .alt [(1, .alt [(8, .alt [(9, .alt [(10, .mob 11 (.done))])])])])])]))])))) (by kernel_rfl) ?_; conv => whnf)
    | exact ⟨rfl, rfl⟩
    | (refine Fin.bool ?_ rfl)
    | (refine Fin.int ?_ rfl)
    | (refine Fin.str ?_ rfl)
    | (refine Fin.sl ?_ rfl)
    | exact trivial)
          all_goals
            refine ⟨(_, _), hinv, hmea, ?_⟩
            clear hinv hmea hidx hrec2
            conv => whnf
            repeat (first | exact True.intro | (refine Need.mk ?_ ?_; (focus ((first | rfl | assumption | omega | (simp only [List.length_map, List.length_append, List.length_take, List.length_drop, List.length_cons, List.length_nil, List.length_replicate, List.length_set, List.length_reverse, nds_len, numsD_length]; omega) | simp [nds, nds_app, Nd.d, hdr]); done)); conv => whnf) | ((conv => whnf); exact True.intro))
        · rw [c5] at hidx
          have hrec2 : CallWP Tryd.prog 8 [(.d (.sl (List.drop (Int.toNat 0) (List.take ((k : Int)).toNat ((r :: rest).map Run.d))))), (.d (.int .i64 ((p.length : Int) + 1)))] [] (fun r_1 h => r_1 = (.d (.sl (nds (nstV (p.length + 1) ((r :: rest).take k))))) ∧ h = []) := by
            have e : List.drop (Int.toNat 0) (List.take ((k : Int)).toNat ((r :: rest).map Run.d)) = ((r :: rest).take k).map Run.d := by
              rw [Int.toNat_natCast, List.map_take]; rfl
            rw [e]; exact hrec
          have hdr : List.drop ((k : Int)).toNat ((r :: rest).map Run.d) = ((r :: rest).drop k).map Run.d := by
            rw [Int.toNat_natCast, List.map_drop]
          clear hv hnode hup hwa hsp c1 c2 hg1 hlt hp2 ih hp hw hw2 hrec
          conv => whnf
          repeat' (first
    | (refine Br.tt ?_; conv => whnf)
    | (refine Br.ff ?_; conv => whnf)
    | (refine Both.mk ?_ ?_ <;> conv => whnf)
    | (refine Br.not ?_)
    | (refine Need.mk ?_ ?_; (focus ((first | omega | exact ⟨by omega, by omega⟩ | rfl | exact trivial | assumption | (simp only [List.length_map, List.length_append, List.length_take, List.length_drop, List.length_cons, List.length_nil, List.length_replicate, List.length_set, List.length_reverse, nds_len, numsD_length]; omega) | (simp only [List.length_map, List.length_append, List.length_take, List.length_drop, List.length_cons, List.length_nil, List.length_replicate, List.length_set, List.length_reverse, nds_len, numsD_length]; exact ⟨by omega, by omega⟩) | exact nds_each | (refine map_each ?_; intro x; rfl) | (refine first_map ?_; intro x; rfl) | exact first_nds | simp | (simp; omega)); done)); conv => whnf)
    | (refine Br.t (by assumption) ?_; conv => whnf)
    | (refine Br.f (by assumption) ?_; conv => whnf)
    | (refine Br.self ?_; conv => whnf)
    | (refine Br.decT (by assumption) ?_; conv => whnf)
    | (refine Br.decF (by assumption) ?_; conv => whnf)
    | (refine Br.eqT (by assumption) ?_; conv => whnf)
    | (refine Br.eqF (by assumption) ?_; conv => whnf)
    | (refine Br.dec (fun hc => ?_) (fun hc => ?_) <;> (try simp only [List.length_map, List.length_append, List.length_take, List.length_drop, List.length_cons, List.length_nil, List.length_replicate, List.length_set, List.length_reverse, nds_len, numsD_length] at hc) <;> first | (exfalso; omega) | exact absurd trivial hc | exact absurd rfl hc | conv => whnf)
    | (refine Br.eq (fun hc => ?_) (fun hc => ?_) <;> first | (exfalso; omega) | exact absurd trivial hc | exact absurd rfl hc | conv => whnf)
    | (refine Br.ne (fun hc => ?_) (fun hc => ?_) <;> first | (exfalso; omega) | exact absurd trivial hc | exact absurd rfl hc | conv => whnf)
    | (with_reducible refine Br.and ?_)
    | (with_reducible refine Br.or ?_)
    | (refine Br.any (fun hc => ?_) (fun hc => ?_) <;> conv => whnf)
    | (refine Fit.inl ?_ ?_; (focus ((first | omega | exact ⟨by omega, by omega⟩ | rfl | exact trivial | assumption | (simp only [List.length_map, List.length_append, List.length_take, List.length_drop, List.length_cons, List.length_nil, List.length_replicate, List.length_set, List.length_reverse, nds_len, numsD_length]; omega) | (simp only [List.length_map, List.length_append, List.length_take, List.length_drop, List.length_cons, List.length_nil, List.length_replicate, List.length_set, List.length_reverse, nds_len, numsD_length]; exact ⟨by omega, by omega⟩) | exact nds_each | (refine map_each ?_; intro x; rfl) | (refine first_map ?_; intro x; rfl) | exact first_nds | simp | (simp; omega)); done)); conv => whnf)
    | (refine Each.mapAt (by assumption) ?_; conv => whnf)
    | (refine Each.ndsAt (by assumption) ?_; conv => whnf)
    | (refine Each.at (by assumption) ?_; conv => whnf)
    | (refine Each.map (fun x hx => ?_); (try simp only [Int.toNat_natCast, Int.toNat_zero, Int.toNat_one, Int.toNat_natCast_add_one] at hx); conv => whnf)
    | (refine Each.nds (fun a b c ps hx => ?_); (try simp only [Int.toNat_natCast, Int.toNat_zero, Int.toNat_one, Int.toNat_natCast_add_one] at hx); conv => whnf)
    | (refine Each.rep ?_; conv => whnf)
    | (refine Each.drop ?_)
    | (refine Each.take (fun hi => ?_))
    | (refine Each.any (fun x hx => ?_); (try simp only [Int.toNat_natCast, Int.toNat_zero, Int.toNat_one, Int.toNat_natCast_add_one] at hx); conv => whnf)
    | (refine NilB.any (fun hn => ?_) ?_ <;> conv => whnf)
    | (refine CallWP.mono (hidx) ?_; rintro r h ⟨rfl, rfl⟩; conv => whnf)
    | (refine CallWP.mono (hrec2) ?_; rintro r h ⟨rfl, rfl⟩; conv => whnf)
    | (refine ⟨_, bytesOfD_nums _, ?_⟩; conv => whnf)
    | (refine WP.still (id := 3) tabOK hmix (by kernel_rfl) ?_; conv => whnf)
    | (refine WP.sch (id := 6) tabOK hmix (.mob 0 (.mob 1 (.mob 2 (.mob 3 (.alt [(4, .mob 5 (.mob 6 (.alt [(7, .alt [(8, .done)])]))), (7, .alt [(4, .mob 5 (.mob 6 (.alt [(8, .done)])))])]))))) (by kernel_rfl) ?_; conv => whnf)
    | (refine WP.sch (id := 10) tabOK hmix (.mob 0 (.mob 2 (.mob 3 (.alt [(1, .alt [(4, .alt [(5, .mob 6 (.alt [(7, .alt [(8, .alt [(9, .alt [(10, .mob 11 (.done))])])])]))]), (5, .mob 6 (.alt [(4, .alt [(7, .alt [(8, .alt [(9, .alt [(10, .mob 11 (.done))])])])])]))]), (4, .alt [(1, .alt [(5, .mob 6 (.alt [(7, .alt [(8, .alt [(9, .alt [(10, .mob 11 (.done))])])])]))]), (5, .mob 6 (.alt [(1, .alt [(7, .alt [(8, .alt [(9, .alt [(10, .mob 11 (.done))])])])]), (7, .alt [(1, .alt [(8, .alt [(9, .alt [(10, .mob 11 (.done))])])])])]))]), (5, .mob 6 (.alt [(1, .alt [(4, .alt [(7, .alt [(8, .alt [(9, .alt [(10, .mob 11 (.done))])])])])]), (4, .alt [(1, .alt [(7, .alt [(8, .alt [(9, .alt [(10, .mob 11 (.done))])])])]), (7, .alt [(1, .alt [(8, .alt [(9, .alt [(10, .mob 11 (.done))])])])])])]))])))) (by kernel_rfl) ?_; conv => whnf)
    | exact ⟨rfl, rfl⟩
    | (refine Fin.bool ?_ rfl)
    | (refine Fin.int ?_ rfl)
    | (refine Fin.str ?_ rfl)
    | (refine Fin.sl ?_ rfl)
    | exact trivial)
          all_goals
            refine ⟨(_, _), hinv, hmea, ?_⟩
            clear hinv hmea hidx hrec2
            conv => whnf
            repeat (first | exact True.intro | (refine Need.mk ?_ ?_; (focus ((first | rfl | assumption | omega | (simp only [List.length_map, List.length_append, List.length_take, List.length_drop, List.length_cons, List.length_nil, List.length_replicate, List.length_set, List.length_reverse, nds_len, numsD_length]; omega) | simp [nds, nds_app, Nd.d, hdr]); done)); conv => whnf) | ((conv => whnf); exact True.intro))
end Go.VL.NestP
