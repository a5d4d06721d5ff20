/- expr.text and its reference answer alike. -/
import Derived.Test.YtekmfhoppbpobaaExprCheck
import Derived.Test.YtekmfhoppbpobaaGrow
set_option linter.unusedVariables false
set_option linter.unusedSimpArgs false
namespace Go.VL.ExprText
open Go Go.Proofs Go.VL Go.VL.Join
set_option maxRecDepth 100000
--OWN 53 3
def sign (k : Int) : UInt8 := if k = 4 then 42 else if k = 5 then 43 else 63
def wrap (k q : Int) (s : Str) : Str := if (q = 3 ∧ k ≠ 3) ∨ (q = 2 ∧ k ≥ 4) then [40] ++ s ++ [41] else s
def put (k t : Int) (l : List Str) : Str := if k = 1 then [UInt8.ofNat (97 + t.toNat)] else if k = 2 then jn [] l else if k = 3 then jn [124] l else l.headD [] ++ [sign k]
mutual
def _root_.Go.VL.Xp.tx : Xp → Str
  | .mk k t ps => put k t (txs k ps)
def txs (k : Int) : List Xp → List Str
  | [] => []
  | p :: r => wrap k p.kind p.tx :: txs k r
end
theorem tx_eq (x : Xp) : x.tx = put x.kind x.ty (txs x.kind x.ps) := by cases x; rw [Xp.tx]; rfl
theorem txs_map (k : Int) : ∀ l : List Xp, txs k l = l.map fun p => wrap k p.kind p.tx
  | [] => rfl
  | p :: r => by rw [txs, txs_map k r]; rfl
theorem txs_take (k : Int) {l : List Xp} {i : Nat} {p : Xp} (h : l[i]? = some p) : txs k (l.take (i + 1)) = txs k (l.take i) ++ [wrap k p.kind p.tx] := by
  rw [txs_map, txs_map, List.take_add_one, h]; simp
theorem txs_at (k : Int) {l : List Xp} {i : Nat} {p : Xp} (h : l[i]? = some p) : (txs k l)[i]? = some (wrap k p.kind p.tx) := by rw [txs_map, List.getElem?_map, h]; rfl
theorem txs_len (k : Int) (l : List Xp) : (txs k l).length = l.length := by rw [txs_map, List.length_map]
theorem wrap_len (k q : Int) (s : Str) : (wrap k q s).length ≤ s.length + 2 := by
  unfold wrap; split
  · simp
  · omega
theorem jn_len {sep : Str} (hs : sep.length ≤ 1) : ∀ l : List Str, (jn sep l).length ≤ sumL l + l.length
  | [] => by simp [jn]
  | x :: r => by
    have h := tl_len sep r
    have : sep.length * r.length ≤ r.length := by
      have : sep.length = 0 ∨ sep.length = 1 := by omega
      rcases this with e | e <;> rw [e] <;> omega
    rw [jn_tl]; simp only [List.length_append, sumL, List.length_cons]; omega
theorem headD_len (l : List Str) : (l.headD []).length ≤ sumL l := by cases l <;> simp [sumL]
theorem put_len (k t : Int) (l : List Str) : (put k t l).length ≤ sumL l + l.length + 1 := by
  have h1 := jn_len (sep := []) (by simp) l
  have h2 := jn_len (sep := [124]) (by simp) l
  have h3 := headD_len l
  unfold put
  split
  · simp
  · split
    · omega
    · split
      · omega
      · simp only [List.length_append, List.length_cons, List.length_nil]; omega
mutual
theorem tx_sz : ∀ x : Xp, x.tx.length + 3 ≤ 2 * szL x.d
  | .mk k t ps => by
    have h1 := put_len k t (txs k ps)
    have h2 := txs_sz k ps
    have h3 : (Xp.mk k t ps).es = xps ps := by rw [Xp.es]
    rw [Xp.tx]
    simp only [Xp.d, szL, szD, h3]
    omega
theorem txs_sz (k : Int) : ∀ l : List Xp, sumL (txs k l) + (txs k l).length ≤ 2 * szLL (xps l)
  | [] => by simp [txs, sumL]
  | p :: r => by
    have h1 := tx_sz p
    have h2 := txs_sz k r
    have h3 := wrap_len k p.kind p.tx
    simp only [txs, sumL, List.length_cons, xps, szLL]
    simp only [Xp.d] at h1
    omega
end
theorem jn_nil_snoc : ∀ (l : List Str) (s : Str), jn [] (l ++ [s]) = jn [] l ++ s
  | [], s => by simp [jn]
  | x :: r, s => by rw [List.cons_append, jn_tl, jn_tl]; simp [tl]
theorem jn_bar_snoc : ∀ (l : List Str) (s : Str), l ≠ [] → jn [124] (l ++ [s]) = jn [124] l ++ [124] ++ s
  | [], s, h => absurd rfl h
  | x :: r, s, _ => by rw [List.cons_append, jn_tl, jn_tl]; simp [tl]
theorem txs_take_sz (k : Int) (ps : List Xp) (i : Nat) : sumL (txs k (ps.take i)) ≤ sumL (txs k ps) ∧ (txs k (ps.take i)).length ≤ (txs k ps).length := by
  have e : txs k (ps.take i) = (txs k ps).take i := by rw [txs_map, txs_map, List.map_take]
  rw [e]
  exact ⟨sumL_le _ _, by rw [List.length_take]; omega⟩
theorem headF_any {k t : Int} {ps : List Xp} (h : headF k t ps = 0) (hk : k = 2 ∨ k = 3) : ps.any (kdP k) = false := by
  unfold headF at h
  split at h
  · cases h
  · split at h
    · cases h
    · split at h
      · cases h
      · rename_i hn
        cases ha : ps.any (kdP k)
        · rfl
        · exact absurd ⟨hk, ha⟩ hn
theorem each0' {α : Type} {a : α} {l : List α} {K : α → Prop} (h : K a) : Each (a :: l) 0 K := fun x hx => by simp at hx; subst hx; exact h
theorem sumL_at {l : List Str} {i : Nat} {s : Str} (h : l[i]? = some s) : s.length ≤ sumL l := by
  have h1 := sumL_take h
  have h2 := sumL_le l (i + 1)
  omega
theorem headD_at {l : List Str} {s : Str} (h : l[0]? = some s) : l.headD [] = s := by
  cases l with
  | nil => simp at h
  | cons x r => simpa using h
theorem put1 {k t : Int} (l : List Str) (h : k = 1) (h0 : 0 ≤ t) (h8 : t < 8) : List.drop t.toNat (List.take (t + 1).toNat [97, 98, 99, 100, 101, 102, 103, 104]) = put k t l := by
  rw [put, if_pos h]
  obtain rfl | rfl | rfl | rfl | rfl | rfl | rfl | rfl : t = 0 ∨ t = 1 ∨ t = 2 ∨ t = 3 ∨ t = 4 ∨ t = 5 ∨ t = 6 ∨ t = 7 := by omega
  all_goals rfl
theorem put2 {k t : Int} (l : List Str) (h : k = 2) : jn [] l = put k t l := by rw [put, if_neg (by omega), if_pos h]
theorem put3 {k t : Int} (l : List Str) (h : k = 3) : jn [124] l = put k t l := by rw [put, if_neg (by omega), if_neg (by omega), if_pos h]
theorem put4 {k t : Int} {l : List Str} {s : Str} (h : k ≥ 4) (hs : l[0]? = some s) : put k t l = s ++ [sign k] := by rw [put, if_neg (by omega), if_neg (by omega), if_neg (by omega), headD_at hs]
attribute [local irreducible] CallWP WP Need Br Each NilB fit Both
set_option maxHeartbeats 4000000 in
theorem textC (m : Nat) : ∀ x : Xp, szL x.d < m → szL x.d ≤ 1048576 → x.fl = 0 → CallWP Try.prog 51 [.agg [(.d (.int .i64 (x.kind))), (.d (.int .i64 (x.ty))), (.d (.sl (x.es)))]] [] (fun r h => r = .d (.str x.tx) ∧ h = []) := by
  induction m with
  | zero => intro x h; omega
  | succ m ih =>
  intro x hm hb hf
  obtain ⟨hhead, hparts⟩ := Xp.fl_zero hf
  obtain ⟨q1, q2, q3, q4, q5, q6, q7⟩ := headF_zero hhead
  have hlen := len_xps x
  have hih : ∀ p ∈ x.ps, p.tx.length ≤ 2 * 1048576 ∧ CallWP Try.prog 51 [.agg [(.d (.int .i64 (p.kind))), (.d (.int .i64 (p.ty))), (.d (.sl (p.es)))]] [] (fun r h => r = .d (.str p.tx) ∧ h = []) := fun p hp => by
    have h1 := Xp.sz_part hp
    have h2 := tx_sz p
    exact ⟨by omega, ih p (by omega) (by omega) (hparts p hp)⟩
  have htz := txs_sz x.kind x.ps
  rw [xps_eq, ← Xp.es_eq] at htz
  have hez : szLL x.es + 3 ≤ szL x.d := by simp only [Xp.d, szL, szD]; omega
  rw [Xp.es_eq, tx_eq]
  generalize x.kind = k at *
  generalize x.ty = t at *
  generalize x.ps = ps at *
  have htl := txs_len k ps
  (refine CallWP.go tabOK Try.func51 0 72 rfl rfl rfl rfl ?_; conv => whnf)
  repeat' (first
    | (refine Br.tt ?_; conv => whnf)
    | (refine Br.ff ?_; conv => whnf)
    | (refine Both.mk ?_ ?_ <;> conv => whnf)
    | (refine Br.not ?_)
    | (refine Need.mk ?_ ?_; (focus ((first | omega | exact ⟨by omega, by omega⟩ | rfl | exact trivial | assumption | (simp only [List.length_map, List.length_append, List.length_take, List.length_drop, List.length_cons, List.length_nil, List.length_replicate, List.length_set, List.length_reverse, nds_len, numsD_length]; omega) | (simp only [List.length_map, List.length_append, List.length_take, List.length_drop, List.length_cons, List.length_nil, List.length_replicate, List.length_set, List.length_reverse, nds_len, numsD_length]; exact ⟨by omega, by omega⟩) | exact nds_each | (refine map_each ?_; intro x; rfl) | (refine first_map ?_; intro x; rfl) | exact first_nds | simp | (simp; omega)); done)); conv => whnf)
    | (refine Br.t (by assumption) ?_; conv => whnf)
    | (refine Br.f (by assumption) ?_; conv => whnf)
    | (refine Br.self ?_; conv => whnf)
    | (refine Br.decT (by assumption) ?_; conv => whnf)
    | (refine Br.decF (by assumption) ?_; conv => whnf)
    | (refine Br.eqT (by assumption) ?_; conv => whnf)
    | (refine Br.eqF (by assumption) ?_; conv => whnf)
    | (refine Br.dec (fun hc => ?_) (fun hc => ?_) <;> (try simp only [List.length_map, List.length_append, List.length_take, List.length_drop, List.length_cons, List.length_nil, List.length_replicate, List.length_set, List.length_reverse, nds_len, numsD_length] at hc) <;> first | (exfalso; omega) | exact absurd trivial hc | exact absurd rfl hc | conv => whnf)
    | (refine Br.eq (fun hc => ?_) (fun hc => ?_) <;> first | (exfalso; omega) | exact absurd trivial hc | exact absurd rfl hc | conv => whnf)
    | (refine Br.ne (fun hc => ?_) (fun hc => ?_) <;> first | (exfalso; omega) | exact absurd trivial hc | exact absurd rfl hc | conv => whnf)
    | (with_reducible refine Br.and ?_)
    | (with_reducible refine Br.or ?_)
    | (refine Br.any (fun hc => ?_) (fun hc => ?_) <;> conv => whnf)
    | (refine Fit.inl ?_ ?_; (focus ((first | omega | exact ⟨by omega, by omega⟩ | rfl | exact trivial | assumption | (simp only [List.length_map, List.length_append, List.length_take, List.length_drop, List.length_cons, List.length_nil, List.length_replicate, List.length_set, List.length_reverse, nds_len, numsD_length]; omega) | (simp only [List.length_map, List.length_append, List.length_take, List.length_drop, List.length_cons, List.length_nil, List.length_replicate, List.length_set, List.length_reverse, nds_len, numsD_length]; exact ⟨by omega, by omega⟩) | exact nds_each | (refine map_each ?_; intro x; rfl) | (refine first_map ?_; intro x; rfl) | exact first_nds | simp | (simp; omega)); done)); conv => whnf)
    | (refine Each.mapAt (by assumption) ?_; conv => whnf)
    | (refine Each.ndsAt (by assumption) ?_; conv => whnf)
    | (refine Each.at (by assumption) ?_; conv => whnf)
    | (refine Each.map (fun x hx => ?_); (try simp only [Int.toNat_natCast, Int.toNat_zero, Int.toNat_one, Int.toNat_natCast_add_one] at hx); conv => whnf)
    | (refine Each.nds (fun a b c ps hx => ?_); (try simp only [Int.toNat_natCast, Int.toNat_zero, Int.toNat_one, Int.toNat_natCast_add_one] at hx); conv => whnf)
    | (refine Each.rep ?_; conv => whnf)
    | (refine Each.drop ?_)
    | (refine Each.take (fun hi => ?_))
    | (refine Each.any (fun x hx => ?_); (try simp only [Int.toNat_natCast, Int.toNat_zero, Int.toNat_one, Int.toNat_natCast_add_one] at hx); conv => whnf)
    | (refine NilB.any (fun hn => ?_) ?_ <;> conv => whnf)
    | (refine ⟨_, bytesOfD_nums _, ?_⟩; conv => whnf)
    | (refine WP.still (id := 18) tabOK hmix (by kernel_rfl) ?_; conv => whnf)
    | exact ⟨rfl, rfl⟩
    | (refine Fin.bool ?_ rfl)
    | (refine Fin.int ?_ rfl)
    | (refine Fin.str ?_ rfl)
    | (refine Fin.sl ?_ rfl)
    | exact trivial)
  refine WP.loop (α := Nat) tabOK (fun i => i ≤ ps.length) (fun i => ⟨[(1, .ref 0 0 0), (3, .full 1), (9, (.d (.sl (ps.map Xp.d)))), (10, (.d (.int .i64 ((ps.map Xp.d).length)))), (11, (.d (.int .i64 (i))))], [(0, .var 41 [(.d (.int .i64 (k))), (.d (.int .i64 (t))), (.d (.sl (ps.map Xp.d)))]), (1, .row 9 ((txs k (ps.take i)).map iS))], 2, 72⟩) (fun i => ps.length - i) (0) ?_ ?_ ?_
  · exact Nat.zero_le _
  · conv => whnf
    repeat (first | exact True.intro | (refine Need.mk ?_ ?_; (focus ((first | rfl | assumption | omega | (simp only [List.length_map, List.length_append, List.length_take, List.length_drop, List.length_cons, List.length_nil, List.length_replicate, List.length_set, List.length_reverse, nds_len, numsD_length]; omega) | simp [txs]); done)); conv => whnf) | ((conv => whnf); exact True.intro))
  intro i hi
  by_cases hlt : i < ps.length
  · obtain ⟨p, hp⟩ : ∃ y, ps[i]? = some y := ⟨ps[i], by simp [hlt]⟩
    obtain ⟨hpl, hcp⟩ := hih p (List.mem_of_getElem? hp)
    have hta := txs_take k hp
    have htk := txs_len k (ps.take i)
    rw [List.length_take] at htk
    by_cases hw : (p.kind = 3 ∧ k ≠ 3) ∨ (p.kind = 2 ∧ k ≥ 4)
    · have e : wrap k p.kind p.tx = [40] ++ p.tx ++ [41] := by rw [wrap, if_pos hw]
      conv => whnf
      repeat' (first
    | (refine Br.tt ?_; conv => whnf)
    | (refine Br.ff ?_; conv => whnf)
    | (refine Both.mk ?_ ?_ <;> conv => whnf)
    | (refine Br.not ?_)
    | (refine Need.mk ?_ ?_; (focus ((first | omega | exact ⟨by omega, by omega⟩ | rfl | exact trivial | assumption | (simp only [List.length_map, List.length_append, List.length_take, List.length_drop, List.length_cons, List.length_nil, List.length_replicate, List.length_set, List.length_reverse, nds_len, numsD_length]; omega) | (simp only [List.length_map, List.length_append, List.length_take, List.length_drop, List.length_cons, List.length_nil, List.length_replicate, List.length_set, List.length_reverse, nds_len, numsD_length]; exact ⟨by omega, by omega⟩) | exact nds_each | (refine map_each ?_; intro x; rfl) | (refine first_map ?_; intro x; rfl) | exact first_nds | simp | (simp; omega)); done)); conv => whnf)
    | (refine Br.t (by assumption) ?_; conv => whnf)
    | (refine Br.f (by assumption) ?_; conv => whnf)
    | (refine Br.self ?_; conv => whnf)
    | (refine Br.decT (by assumption) ?_; conv => whnf)
    | (refine Br.decF (by assumption) ?_; conv => whnf)
    | (refine Br.eqT (by assumption) ?_; conv => whnf)
    | (refine Br.eqF (by assumption) ?_; conv => whnf)
    | (refine Br.dec (fun hc => ?_) (fun hc => ?_) <;> (try simp only [List.length_map, List.length_append, List.length_take, List.length_drop, List.length_cons, List.length_nil, List.length_replicate, List.length_set, List.length_reverse, nds_len, numsD_length] at hc) <;> first | (exfalso; omega) | exact absurd trivial hc | exact absurd rfl hc | conv => whnf)
    | (refine Br.eq (fun hc => ?_) (fun hc => ?_) <;> first | (exfalso; omega) | exact absurd trivial hc | exact absurd rfl hc | conv => whnf)
    | (refine Br.ne (fun hc => ?_) (fun hc => ?_) <;> first | (exfalso; omega) | exact absurd trivial hc | exact absurd rfl hc | conv => whnf)
    | (with_reducible refine Br.and ?_)
    | (with_reducible refine Br.or ?_)
    | (refine Br.any (fun hc => ?_) (fun hc => ?_) <;> conv => whnf)
    | (refine Fit.inl ?_ ?_; (focus ((first | omega | exact ⟨by omega, by omega⟩ | rfl | exact trivial | assumption | (simp only [List.length_map, List.length_append, List.length_take, List.length_drop, List.length_cons, List.length_nil, List.length_replicate, List.length_set, List.length_reverse, nds_len, numsD_length]; omega) | (simp only [List.length_map, List.length_append, List.length_take, List.length_drop, List.length_cons, List.length_nil, List.length_replicate, List.length_set, List.length_reverse, nds_len, numsD_length]; exact ⟨by omega, by omega⟩) | exact nds_each | (refine map_each ?_; intro x; rfl) | (refine first_map ?_; intro x; rfl) | exact first_nds | simp | (simp; omega)); done)); conv => whnf)
    | (refine Each.mapAt (by assumption) ?_; conv => whnf)
    | (refine Each.ndsAt (by assumption) ?_; conv => whnf)
    | (refine Each.at (by assumption) ?_; conv => whnf)
    | (refine Each.map (fun x hx => ?_); (try simp only [Int.toNat_natCast, Int.toNat_zero, Int.toNat_one, Int.toNat_natCast_add_one] at hx); conv => whnf)
    | (refine Each.nds (fun a b c ps hx => ?_); (try simp only [Int.toNat_natCast, Int.toNat_zero, Int.toNat_one, Int.toNat_natCast_add_one] at hx); conv => whnf)
    | (refine Each.rep ?_; conv => whnf)
    | (refine Each.drop ?_)
    | (refine Each.take (fun hi => ?_))
    | (refine Each.any (fun x hx => ?_); (try simp only [Int.toNat_natCast, Int.toNat_zero, Int.toNat_one, Int.toNat_natCast_add_one] at hx); conv => whnf)
    | (refine NilB.any (fun hn => ?_) ?_ <;> conv => whnf)
    | (refine CallWP.mono (hcp) ?_; rintro r h ⟨rfl, rfl⟩; conv => whnf)
    | (refine ⟨_, bytesOfD_nums _, ?_⟩; conv => whnf)
    | (refine WP.still (id := 18) tabOK hmix (by kernel_rfl) ?_; conv => whnf)
    | exact ⟨rfl, rfl⟩
    | (refine Fin.bool ?_ rfl)
    | (refine Fin.int ?_ rfl)
    | (refine Fin.str ?_ rfl)
    | (refine Fin.sl ?_ rfl)
    | exact trivial)
      all_goals
        refine ⟨i + 1, by omega, by dsimp only; omega, ?_⟩
        conv => whnf
        repeat (first | exact True.intro | (refine Need.mk ?_ ?_; (focus ((first | rfl | assumption | omega | (simp only [List.length_map, List.length_append, List.length_take, List.length_drop, List.length_cons, List.length_nil, List.length_replicate, List.length_set, List.length_reverse, nds_len, numsD_length]; omega) | simp [hta, e, iS]); done)); conv => whnf) | ((conv => whnf); exact True.intro))
    · have e : wrap k p.kind p.tx = p.tx := by rw [wrap, if_neg hw]
      conv => whnf
      repeat' (first
    | (refine Br.tt ?_; conv => whnf)
    | (refine Br.ff ?_; conv => whnf)
    | (refine Both.mk ?_ ?_ <;> conv => whnf)
    | (refine Br.not ?_)
    | (refine Need.mk ?_ ?_; (focus ((first | omega | exact ⟨by omega, by omega⟩ | rfl | exact trivial | assumption | (simp only [List.length_map, List.length_append, List.length_take, List.length_drop, List.length_cons, List.length_nil, List.length_replicate, List.length_set, List.length_reverse, nds_len, numsD_length]; omega) | (simp only [List.length_map, List.length_append, List.length_take, List.length_drop, List.length_cons, List.length_nil, List.length_replicate, List.length_set, List.length_reverse, nds_len, numsD_length]; exact ⟨by omega, by omega⟩) | exact nds_each | (refine map_each ?_; intro x; rfl) | (refine first_map ?_; intro x; rfl) | exact first_nds | simp | (simp; omega)); done)); conv => whnf)
    | (refine Br.t (by assumption) ?_; conv => whnf)
    | (refine Br.f (by assumption) ?_; conv => whnf)
    | (refine Br.self ?_; conv => whnf)
    | (refine Br.decT (by assumption) ?_; conv => whnf)
    | (refine Br.decF (by assumption) ?_; conv => whnf)
    | (refine Br.eqT (by assumption) ?_; conv => whnf)
    | (refine Br.eqF (by assumption) ?_; conv => whnf)
    | (refine Br.dec (fun hc => ?_) (fun hc => ?_) <;> (try simp only [List.length_map, List.length_append, List.length_take, List.length_drop, List.length_cons, List.length_nil, List.length_replicate, List.length_set, List.length_reverse, nds_len, numsD_length] at hc) <;> first | (exfalso; omega) | exact absurd trivial hc | exact absurd rfl hc | conv => whnf)
    | (refine Br.eq (fun hc => ?_) (fun hc => ?_) <;> first | (exfalso; omega) | exact absurd trivial hc | exact absurd rfl hc | conv => whnf)
    | (refine Br.ne (fun hc => ?_) (fun hc => ?_) <;> first | (exfalso; omega) | exact absurd trivial hc | exact absurd rfl hc | conv => whnf)
    | (with_reducible refine Br.and ?_)
    | (with_reducible refine Br.or ?_)
    | (refine Br.any (fun hc => ?_) (fun hc => ?_) <;> conv => whnf)
    | (refine Fit.inl ?_ ?_; (focus ((first | omega | exact ⟨by omega, by omega⟩ | rfl | exact trivial | assumption | (simp only [List.length_map, List.length_append, List.length_take, List.length_drop, List.length_cons, List.length_nil, List.length_replicate, List.length_set, List.length_reverse, nds_len, numsD_length]; omega) | (simp only [List.length_map, List.length_append, List.length_take, List.length_drop, List.length_cons, List.length_nil, List.length_replicate, List.length_set, List.length_reverse, nds_len, numsD_length]; exact ⟨by omega, by omega⟩) | exact nds_each | (refine map_each ?_; intro x; rfl) | (refine first_map ?_; intro x; rfl) | exact first_nds | simp | (simp; omega)); done)); conv => whnf)
    | (refine Each.mapAt (by assumption) ?_; conv => whnf)
    | (refine Each.ndsAt (by assumption) ?_; conv => whnf)
    | (refine Each.at (by assumption) ?_; conv => whnf)
    | (refine Each.map (fun x hx => ?_); (try simp only [Int.toNat_natCast, Int.toNat_zero, Int.toNat_one, Int.toNat_natCast_add_one] at hx); conv => whnf)
    | (refine Each.nds (fun a b c ps hx => ?_); (try simp only [Int.toNat_natCast, Int.toNat_zero, Int.toNat_one, Int.toNat_natCast_add_one] at hx); conv => whnf)
    | (refine Each.rep ?_; conv => whnf)
    | (refine Each.drop ?_)
    | (refine Each.take (fun hi => ?_))
    | (refine Each.any (fun x hx => ?_); (try simp only [Int.toNat_natCast, Int.toNat_zero, Int.toNat_one, Int.toNat_natCast_add_one] at hx); conv => whnf)
    | (refine NilB.any (fun hn => ?_) ?_ <;> conv => whnf)
    | (refine CallWP.mono (hcp) ?_; rintro r h ⟨rfl, rfl⟩; conv => whnf)
    | (refine ⟨_, bytesOfD_nums _, ?_⟩; conv => whnf)
    | (refine WP.still (id := 18) tabOK hmix (by kernel_rfl) ?_; conv => whnf)
    | exact ⟨rfl, rfl⟩
    | (refine Fin.bool ?_ rfl)
    | (refine Fin.int ?_ rfl)
    | (refine Fin.str ?_ rfl)
    | (refine Fin.sl ?_ rfl)
    | exact trivial)
      all_goals
        refine ⟨i + 1, by omega, by dsimp only; omega, ?_⟩
        conv => whnf
        repeat (first | exact True.intro | (refine Need.mk ?_ ?_; (focus ((first | rfl | assumption | omega | (simp only [List.length_map, List.length_append, List.length_take, List.length_drop, List.length_cons, List.length_nil, List.length_replicate, List.length_set, List.length_reverse, nds_len, numsD_length]; omega) | simp [hta, e, iS]); done)); conv => whnf) | ((conv => whnf); exact True.intro))
  have e : ps.take i = ps := List.take_of_length_le (by omega)
  rw [e]
  by_cases hk4 : k ≥ 4
  · obtain ⟨p, hp⟩ : ∃ y, ps[0]? = some y := ⟨ps[0]'(by have := q4 hk4; omega), by simp⟩
    have hs := txs_at k hp
    have hsl := sumL_at hs
    rw [put4 hk4 hs]
    generalize wrap k p.kind p.tx = s at *
    clear hhead
    obtain rfl | rfl | rfl : k = 4 ∨ k = 5 ∨ k = 6 := by omega
    all_goals
      conv => whnf
      repeat' (first
    | (refine Br.tt ?_; conv => whnf)
    | (refine Br.ff ?_; conv => whnf)
    | (refine Both.mk ?_ ?_ <;> conv => whnf)
    | (refine Br.not ?_)
    | (refine Need.mk ?_ ?_; (focus ((first | omega | exact ⟨by omega, by omega⟩ | rfl | exact trivial | assumption | (simp only [List.length_map, List.length_append, List.length_take, List.length_drop, List.length_cons, List.length_nil, List.length_replicate, List.length_set, List.length_reverse, nds_len, numsD_length]; omega) | (simp only [List.length_map, List.length_append, List.length_take, List.length_drop, List.length_cons, List.length_nil, List.length_replicate, List.length_set, List.length_reverse, nds_len, numsD_length]; exact ⟨by omega, by omega⟩) | exact nds_each | (refine map_each ?_; intro x; rfl) | (refine first_map ?_; intro x; rfl) | exact first_nds | simp | (simp; omega)); done)); conv => whnf)
    | (refine Br.t (by assumption) ?_; conv => whnf)
    | (refine Br.f (by assumption) ?_; conv => whnf)
    | (refine Br.self ?_; conv => whnf)
    | (refine Br.decT (by assumption) ?_; conv => whnf)
    | (refine Br.decF (by assumption) ?_; conv => whnf)
    | (refine Br.eqT (by assumption) ?_; conv => whnf)
    | (refine Br.eqF (by assumption) ?_; conv => whnf)
    | (refine Br.dec (fun hc => ?_) (fun hc => ?_) <;> (try simp only [List.length_map, List.length_append, List.length_take, List.length_drop, List.length_cons, List.length_nil, List.length_replicate, List.length_set, List.length_reverse, nds_len, numsD_length] at hc) <;> first | (exfalso; omega) | exact absurd trivial hc | exact absurd rfl hc | conv => whnf)
    | (refine Br.eq (fun hc => ?_) (fun hc => ?_) <;> first | (exfalso; omega) | exact absurd trivial hc | exact absurd rfl hc | conv => whnf)
    | (refine Br.ne (fun hc => ?_) (fun hc => ?_) <;> first | (exfalso; omega) | exact absurd trivial hc | exact absurd rfl hc | conv => whnf)
    | (with_reducible refine Br.and ?_)
    | (with_reducible refine Br.or ?_)
    | (refine Br.any (fun hc => ?_) (fun hc => ?_) <;> conv => whnf)
    | (refine Fit.inl ?_ ?_; (focus ((first | omega | exact ⟨by omega, by omega⟩ | rfl | exact trivial | assumption | (simp only [List.length_map, List.length_append, List.length_take, List.length_drop, List.length_cons, List.length_nil, List.length_replicate, List.length_set, List.length_reverse, nds_len, numsD_length]; omega) | (simp only [List.length_map, List.length_append, List.length_take, List.length_drop, List.length_cons, List.length_nil, List.length_replicate, List.length_set, List.length_reverse, nds_len, numsD_length]; exact ⟨by omega, by omega⟩) | exact nds_each | (refine map_each ?_; intro x; rfl) | (refine first_map ?_; intro x; rfl) | exact first_nds | simp | (simp; omega)); done)); conv => whnf)
    | (refine Each.mapAt (by assumption) ?_; conv => whnf)
    | (refine Each.ndsAt (by assumption) ?_; conv => whnf)
    | (refine Each.at (by assumption) ?_; conv => whnf)
    | (refine Each.map (fun x hx => ?_); (try simp only [Int.toNat_natCast, Int.toNat_zero, Int.toNat_one, Int.toNat_natCast_add_one] at hx); conv => whnf)
    | (refine Each.nds (fun a b c ps hx => ?_); (try simp only [Int.toNat_natCast, Int.toNat_zero, Int.toNat_one, Int.toNat_natCast_add_one] at hx); conv => whnf)
    | (refine Each.rep ?_; conv => whnf)
    | (refine Each.drop ?_)
    | (refine Each.take (fun hi => ?_))
    | (refine Each.any (fun x hx => ?_); (try simp only [Int.toNat_natCast, Int.toNat_zero, Int.toNat_one, Int.toNat_natCast_add_one] at hx); conv => whnf)
    | (refine NilB.any (fun hn => ?_) ?_ <;> conv => whnf)
    | (refine ⟨_, bytesOfD_nums _, ?_⟩; conv => whnf)
    | (refine WP.still (id := 18) tabOK hmix (by kernel_rfl) ?_; conv => whnf)
    | exact ⟨rfl, rfl⟩
    | (refine Fin.bool ?_ rfl)
    | (refine Fin.int ?_ rfl)
    | (refine Fin.str ?_ rfl)
    | (refine Fin.sl ?_ rfl)
    | exact trivial)
    all_goals rfl
  conv => whnf
  repeat' (first
    | (refine Br.tt ?_; conv => whnf)
    | (refine Br.ff ?_; conv => whnf)
    | (refine Both.mk ?_ ?_ <;> conv => whnf)
    | (refine Br.not ?_)
    | (refine Need.mk ?_ ?_; (focus ((first | omega | exact ⟨by omega, by omega⟩ | rfl | exact trivial | assumption | (simp only [List.length_map, List.length_append, List.length_take, List.length_drop, List.length_cons, List.length_nil, List.length_replicate, List.length_set, List.length_reverse, nds_len, numsD_length]; omega) | (simp only [List.length_map, List.length_append, List.length_take, List.length_drop, List.length_cons, List.length_nil, List.length_replicate, List.length_set, List.length_reverse, nds_len, numsD_length]; exact ⟨by omega, by omega⟩) | exact nds_each | (refine map_each ?_; intro x; rfl) | (refine first_map ?_; intro x; rfl) | exact first_nds | simp | (simp; omega)); done)); conv => whnf)
    | (refine Br.t (by assumption) ?_; conv => whnf)
    | (refine Br.f (by assumption) ?_; conv => whnf)
    | (refine Br.self ?_; conv => whnf)
    | (refine Br.decT (by assumption) ?_; conv => whnf)
    | (refine Br.decF (by assumption) ?_; conv => whnf)
    | (refine Br.eqT (by assumption) ?_; conv => whnf)
    | (refine Br.eqF (by assumption) ?_; conv => whnf)
    | (refine Br.dec (fun hc => ?_) (fun hc => ?_) <;> (try simp only [List.length_map, List.length_append, List.length_take, List.length_drop, List.length_cons, List.length_nil, List.length_replicate, List.length_set, List.length_reverse, nds_len, numsD_length] at hc) <;> first | (exfalso; omega) | exact absurd trivial hc | exact absurd rfl hc | conv => whnf)
    | (refine Br.eq (fun hc => ?_) (fun hc => ?_) <;> first | (exfalso; omega) | exact absurd trivial hc | exact absurd rfl hc | conv => whnf)
    | (refine Br.ne (fun hc => ?_) (fun hc => ?_) <;> first | (exfalso; omega) | exact absurd trivial hc | exact absurd rfl hc | conv => whnf)
    | (with_reducible refine Br.and ?_)
    | (with_reducible refine Br.or ?_)
    | (refine Br.any (fun hc => ?_) (fun hc => ?_) <;> conv => whnf)
    | (refine Fit.inl ?_ ?_; (focus ((first | omega | exact ⟨by omega, by omega⟩ | rfl | exact trivial | assumption | (simp only [List.length_map, List.length_append, List.length_take, List.length_drop, List.length_cons, List.length_nil, List.length_replicate, List.length_set, List.length_reverse, nds_len, numsD_length]; omega) | (simp only [List.length_map, List.length_append, List.length_take, List.length_drop, List.length_cons, List.length_nil, List.length_replicate, List.length_set, List.length_reverse, nds_len, numsD_length]; exact ⟨by omega, by omega⟩) | exact nds_each | (refine map_each ?_; intro x; rfl) | (refine first_map ?_; intro x; rfl) | exact first_nds | simp | (simp; omega)); done)); conv => whnf)
    | (refine Each.mapAt (by assumption) ?_; conv => whnf)
    | (refine Each.ndsAt (by assumption) ?_; conv => whnf)
    | (refine Each.at (by assumption) ?_; conv => whnf)
    | (refine Each.map (fun x hx => ?_); (try simp only [Int.toNat_natCast, Int.toNat_zero, Int.toNat_one, Int.toNat_natCast_add_one] at hx); conv => whnf)
    | (refine Each.nds (fun a b c ps hx => ?_); (try simp only [Int.toNat_natCast, Int.toNat_zero, Int.toNat_one, Int.toNat_natCast_add_one] at hx); conv => whnf)
    | (refine Each.rep ?_; conv => whnf)
    | (refine Each.drop ?_)
    | (refine Each.take (fun hi => ?_))
    | (refine Each.any (fun x hx => ?_); (try simp only [Int.toNat_natCast, Int.toNat_zero, Int.toNat_one, Int.toNat_natCast_add_one] at hx); conv => whnf)
    | (refine NilB.any (fun hn => ?_) ?_ <;> conv => whnf)
    | (refine CallWP.mono (join_ [] (txs k ps) (by simp) (by omega) (by omega)) ?_; rintro r h ⟨rfl, rfl⟩; conv => whnf)
    | (refine CallWP.mono (join_ [124] (txs k ps) (by simp) (by omega) (by omega)) ?_; rintro r h ⟨rfl, rfl⟩; conv => whnf)
    | (refine ⟨_, bytesOfD_nums _, ?_⟩; conv => whnf)
    | (refine WP.still (id := 18) tabOK hmix (by kernel_rfl) ?_; conv => whnf)
    | exact ⟨rfl, rfl⟩
    | (refine Fin.bool ?_ rfl)
    | (refine Fin.int ?_ rfl)
    | (refine Fin.str ?_ rfl)
    | (refine Fin.sl ?_ rfl)
    | exact trivial)
  · exact put1 _ hc q6 q7
  · exact put2 _ hc
  · exact put3 _ hc
def bd (b k : Int) (s : Str) : Str := if (k = 2 ∧ b ≥ 2) ∨ (k = 3 ∧ b ≠ 0) then [40] ++ s ++ [41] else s
theorem bd_two {q : Int} {s : Str} (h : q ≠ 2) : bd 1 q s = wrap 2 q s := by
  unfold bd wrap
  by_cases h3 : q = 3
  · rw [if_pos (by omega), if_pos (by omega)]
  · rw [if_neg (by omega), if_neg (by omega)]
theorem bd_three {q : Int} {s : Str} : bd 0 q s = wrap 3 q s := by unfold bd wrap; rw [if_neg (by omega), if_neg (by omega)]
theorem bd_four {k q : Int} {s : Str} (h : k ≥ 4) : bd 2 q s = wrap k q s := by
  unfold bd wrap
  by_cases h3 : q = 2 ∨ q = 3
  · rw [if_pos (by omega), if_pos (by omega)]
  · rw [if_neg (by omega), if_neg (by omega)]
theorem bd_len (b k : Int) (s : Str) : (bd b k s).length ≤ s.length + 2 := by
  unfold bd; split
  · simp
  · omega
theorem byte1 {k t : Int} (l : List Str) (h : k = 1) (h0 : 0 ≤ t) (h8 : t < 8) : numsD (put k t l) = [[D.int .u8 (97 + t)]] := by
  rw [put, if_pos h]
  obtain rfl | rfl | rfl | rfl | rfl | rfl | rfl | rfl : t = 0 ∨ t = 1 ∨ t = 2 ∨ t = 3 ∨ t = 4 ∨ t = 5 ∨ t = 6 ∨ t = 7 := by omega
  all_goals rfl
set_option maxHeartbeats 4000000 in
theorem textR (m : Nat) : ∀ (x : Xp) (b : Int), szL x.d < m → szL x.d ≤ 1048576 → x.fl = 0 → 0 ≤ b → b ≤ 2 → CallWP Try.prog 53 [.agg [(.d (.int .i64 (x.kind))), (.d (.int .i64 (x.ty))), (.d (.sl (x.es)))], (.d (.int .i64 (b)))] [] (fun r h => r = .d (.str (bd b x.kind x.tx)) ∧ h = []) := by
  induction m with
  | zero => intro x b h; omega
  | succ m ih =>
  intro x b hm hb hf hb0 hb2
  obtain ⟨hhead, hparts⟩ := Xp.fl_zero hf
  obtain ⟨q1, q2, q3, q4, q5, q6, q7⟩ := headF_zero hhead
  have hlen := len_xps x
  have hih : ∀ p ∈ x.ps, ∀ b : Int, 0 ≤ b → b ≤ 2 → p.tx.length ≤ 2 * 1048576 ∧ CallWP Try.prog 53 [.agg [(.d (.int .i64 (p.kind))), (.d (.int .i64 (p.ty))), (.d (.sl (p.es)))], (.d (.int .i64 (b)))] [] (fun r h => r = .d (.str (bd b p.kind p.tx)) ∧ h = []) := fun p hp b e1 e2 => by
    have h1 := Xp.sz_part hp
    have h2 := tx_sz p
    exact ⟨by omega, ih p b (by omega) (by omega) (hparts p hp) e1 e2⟩
  have htz := txs_sz x.kind x.ps
  rw [xps_eq, ← Xp.es_eq] at htz
  have hez : szLL x.es + 3 ≤ szL x.d := by simp only [Xp.d, szL, szD]; omega
  rw [Xp.es_eq, tx_eq]
  generalize x.kind = k at *
  generalize x.ty = t at *
  generalize x.ps = ps at *
  have htl := txs_len k ps
  obtain hk | hk | hk | hk : k = 1 ∨ k = 2 ∨ k = 3 ∨ k ≥ 4 := by omega
  · have e : bd b k (put k t (txs k ps)) = put k t (txs k ps) := by rw [bd, if_neg (by omega)]
    rw [e]
    have hb1 := byte1 (t := t) (txs k ps) hk q6 q7
    have hbd := bytesOfD_nums (put k t (txs k ps))
    rw [hb1] at hbd
    (refine CallWP.go tabOK Try.func53 0 74 rfl rfl rfl rfl ?_; conv => whnf)
    repeat' (first
    | (refine Br.tt ?_; conv => whnf)
    | (refine Br.ff ?_; conv => whnf)
    | (refine Both.mk ?_ ?_ <;> conv => whnf)
    | (refine Br.not ?_)
    | (refine Need.mk ?_ ?_; (focus ((first | omega | exact ⟨by omega, by omega⟩ | rfl | exact trivial | assumption | (simp only [List.length_map, List.length_append, List.length_take, List.length_drop, List.length_cons, List.length_nil, List.length_replicate, List.length_set, List.length_reverse, nds_len, numsD_length]; omega) | (simp only [List.length_map, List.length_append, List.length_take, List.length_drop, List.length_cons, List.length_nil, List.length_replicate, List.length_set, List.length_reverse, nds_len, numsD_length]; exact ⟨by omega, by omega⟩) | exact nds_each | (refine map_each ?_; intro x; rfl) | (refine first_map ?_; intro x; rfl) | exact first_nds | simp | (simp; omega)); done)); conv => whnf)
    | (refine Br.t (by assumption) ?_; conv => whnf)
    | (refine Br.f (by assumption) ?_; conv => whnf)
    | (refine Br.self ?_; conv => whnf)
    | (refine Br.decT (by assumption) ?_; conv => whnf)
    | (refine Br.decF (by assumption) ?_; conv => whnf)
    | (refine Br.eqT (by assumption) ?_; conv => whnf)
    | (refine Br.eqF (by assumption) ?_; conv => whnf)
    | (refine Br.dec (fun hc => ?_) (fun hc => ?_) <;> (try simp only [List.length_map, List.length_append, List.length_take, List.length_drop, List.length_cons, List.length_nil, List.length_replicate, List.length_set, List.length_reverse, nds_len, numsD_length] at hc) <;> first | (exfalso; omega) | exact absurd trivial hc | exact absurd rfl hc | conv => whnf)
    | (refine Br.eq (fun hc => ?_) (fun hc => ?_) <;> first | (exfalso; omega) | exact absurd trivial hc | exact absurd rfl hc | conv => whnf)
    | (refine Br.ne (fun hc => ?_) (fun hc => ?_) <;> first | (exfalso; omega) | exact absurd trivial hc | exact absurd rfl hc | conv => whnf)
    | (with_reducible refine Br.and ?_)
    | (with_reducible refine Br.or ?_)
    | (refine Br.any (fun hc => ?_) (fun hc => ?_) <;> conv => whnf)
    | (refine Fit.inl ?_ ?_; (focus ((first | omega | exact ⟨by omega, by omega⟩ | rfl | exact trivial | assumption | (simp only [List.length_map, List.length_append, List.length_take, List.length_drop, List.length_cons, List.length_nil, List.length_replicate, List.length_set, List.length_reverse, nds_len, numsD_length]; omega) | (simp only [List.length_map, List.length_append, List.length_take, List.length_drop, List.length_cons, List.length_nil, List.length_replicate, List.length_set, List.length_reverse, nds_len, numsD_length]; exact ⟨by omega, by omega⟩) | exact nds_each | (refine map_each ?_; intro x; rfl) | (refine first_map ?_; intro x; rfl) | exact first_nds | simp | (simp; omega)); done)); conv => whnf)
    | (refine Each.mapAt (by assumption) ?_; conv => whnf)
    | (refine Each.ndsAt (by assumption) ?_; conv => whnf)
    | (refine Each.at (by assumption) ?_; conv => whnf)
    | (refine Each.map (fun x hx => ?_); (try simp only [Int.toNat_natCast, Int.toNat_zero, Int.toNat_one, Int.toNat_natCast_add_one] at hx); conv => whnf)
    | (refine Each.nds (fun a b c ps hx => ?_); (try simp only [Int.toNat_natCast, Int.toNat_zero, Int.toNat_one, Int.toNat_natCast_add_one] at hx); conv => whnf)
    | (refine Each.rep ?_; conv => whnf)
    | (refine Each.drop ?_)
    | (refine Each.take (fun hi => ?_))
    | (refine Each.any (fun x hx => ?_); (try simp only [Int.toNat_natCast, Int.toNat_zero, Int.toNat_one, Int.toNat_natCast_add_one] at hx); conv => whnf)
    | (refine NilB.any (fun hn => ?_) ?_ <;> conv => whnf)
    | (refine ⟨_, hbd, ?_⟩; conv => whnf)
    | (refine ⟨_, bytesOfD_nums _, ?_⟩; conv => whnf)
    | (refine WP.sch (id := 3) tabOK hmix (.mob 0 (.mob 6 (.alt [(1, .mob 2 (.alt [(3, .alt [(4, .alt [(5, .alt [(7, .mob 8 (.mob 9 (.alt [(10, .mob 11 (.mob 12 (.done)))])))]), (7, .mob 8 (.alt [(5, .mob 9 (.alt [(10, .mob 11 (.mob 12 (.done)))]))]))]), (5, .alt [(4, .alt [(7, .mob 8 (.mob 9 (.alt [(10, .mob 11 (.mob 12 (.done)))])))]), (7, .mob 8 (.mob 9 (.alt [(4, .alt [(10, .mob 11 (.mob 12 (.done)))]), (10, .alt [(4, .mob 11 (.mob 12 (.done)))])])))]), (7, .mob 8 (.alt [(4, .alt [(5, .mob 9 (.alt [(10, .mob 11 (.mob 12 (.done)))]))]), (5, .mob 9 (.alt [(4, .alt [(10, .mob 11 (.mob 12 (.done)))]), (10, .alt [(4, .mob 11 (.mob 12 (.done)))])]))]))]), (5, .alt [(3, .alt [(4, .alt [(7, .mob 8 (.mob 9 (.alt [(10, .mob 11 (.mob 12 (.done)))])))]), (7, .mob 8 (.mob 9 (.alt [(4, .alt [(10, .mob 11 (.mob 12 (.done)))]), (10, .alt [(4, .mob 11 (.mob 12 (.done)))])])))]), (7, .mob 8 (.mob 9 (.alt [(3, .alt [(4, .alt [(10, .mob 11 (.mob 12 (.done)))]), (10, .alt [(4, .mob 11 (.mob 12 (.done)))])]), (10, .alt [(3, .alt [(4, .mob 11 (.mob 12 (.done)))])])])))]), (7, .mob 8 (.alt [(3, .alt [(4, .alt [(5, .mob 9 (.alt [(10, .mob 11 (.mob 12 (.done)))]))]), (5, .mob 9 (.alt [(4, .alt [(10, .mob 11 (.mob 12 (.done)))]), (10, .alt [(4, .mob 11 (.mob 12 (.done)))])]))]), (5, .mob 9 (.alt [(3, .alt [(4, .alt [(10, .mob 11 (.mob 12 (.done)))]), (10, .alt [(4, .mob 11 (.mob 12 (.done)))])]), (10, .alt [(3, .alt [(4, .mob 11 (.mob 12 (.done)))])])]))]))])), (5, .alt [(1, .mob 2 (.alt [(3, .alt [(4, .alt [(7, .mob 8 (.mob 9 (.alt [(10, .mob 11 (.mob 12 (.done)))])))]), (7, .mob 8 (.mob 9 (.alt [(4, .alt [(10, .mob 11 (.mob 12 (.done)))]), (10, .alt [(4, .mob 11 (.mob 12 (.done)))])])))]), (7, .mob 8 (.mob 9 (.alt [(3, .alt [(4, .alt [(10, .mob 11 (.mob 12 (.done)))]), (10, .alt [(4, .mob 11 (.mob 12 (.done)))])]), (10, .alt [(3, .alt [(4, .mob 11 (.mob 12 (.done)))])])])))])), (7, .mob 8 (.mob 9 (.alt [(1, .mob 2 (.alt [(3, .alt [(4, .alt [(10, .mob 11 (.mob 12 (.done)))]), (10, .alt [(4, .mob 11 (.mob 12 (.done)))])]), (10, .alt [(3, .alt [(4, .mob 11 (.mob 12 (.done)))])])])), (10, .alt [(1, .mob 2 (.alt [(3, .alt [(4, .mob 11 (.mob 12 (.done)))])]))])])))]), (7, .mob 8 (.alt [(1, .mob 2 (.alt [(3, .alt [(4, .alt [(5, .mob 9 (.alt [(10, .mob 11 (.mob 12 (.done)))]))]), (5, .mob 9 (.alt [(4, .alt [(10, .mob 11 (.mob 12 (.done)))]), (10, .alt [(4, .mob 11 (.mob 12 (.done)))])]))]), (5, .mob 9 (.alt [(3, .alt [(4, .alt [(10, .mob 11 (.mob 12 (.done)))]), (10, .alt [(4, .mob 11 (.mob 12 (.done)))])]), (10, .alt [(3, .alt [(4, .mob 11 (.mob 12 (.done)))])])]))])), (5, .mob 9 (.alt [(1, .mob 2 (.alt [(3, .alt [(4, .alt [(10, .mob 11 (.mob 12 (.done)))]), (10, .alt [(4, .mob 11 (.mob 12 (.done)))])]), (10, .alt [(3, .alt [(4, .mob 11 (.mob 12 (.done)))])])])), (10, .alt [(1, .mob 2 (.alt [(3, .alt [(4, .mob 11 (.mob 12 (.done)))])]))])]))]))]))) (by kernel_rfl) ?_; conv => whnf)
    | exact ⟨rfl, rfl⟩
    | (refine Fin.bool ?_ rfl)
    | (refine Fin.int ?_ rfl)
    | (refine Fin.str ?_ rfl)
    | (refine Fin.sl ?_ rfl)
    | exact trivial)
  · rw [← put2 (t := t) (txs k ps) hk]
    (refine CallWP.go tabOK Try.func53 0 74 rfl rfl rfl rfl ?_; conv => whnf)
    repeat' (first
    | (refine Br.tt ?_; conv => whnf)
    | (refine Br.ff ?_; conv => whnf)
    | (refine Both.mk ?_ ?_ <;> conv => whnf)
    | (refine Br.not ?_)
    | (refine Need.mk ?_ ?_; (focus ((first | omega | exact ⟨by omega, by omega⟩ | rfl | exact trivial | assumption | (simp only [List.length_map, List.length_append, List.length_take, List.length_drop, List.length_cons, List.length_nil, List.length_replicate, List.length_set, List.length_reverse, nds_len, numsD_length]; omega) | (simp only [List.length_map, List.length_append, List.length_take, List.length_drop, List.length_cons, List.length_nil, List.length_replicate, List.length_set, List.length_reverse, nds_len, numsD_length]; exact ⟨by omega, by omega⟩) | exact nds_each | (refine map_each ?_; intro x; rfl) | (refine first_map ?_; intro x; rfl) | exact first_nds | simp | (simp; omega)); done)); conv => whnf)
    | (refine Br.t (by assumption) ?_; conv => whnf)
    | (refine Br.f (by assumption) ?_; conv => whnf)
    | (refine Br.self ?_; conv => whnf)
    | (refine Br.decT (by assumption) ?_; conv => whnf)
    | (refine Br.decF (by assumption) ?_; conv => whnf)
    | (refine Br.eqT (by assumption) ?_; conv => whnf)
    | (refine Br.eqF (by assumption) ?_; conv => whnf)
    | (refine Br.dec (fun hc => ?_) (fun hc => ?_) <;> (try simp only [List.length_map, List.length_append, List.length_take, List.length_drop, List.length_cons, List.length_nil, List.length_replicate, List.length_set, List.length_reverse, nds_len, numsD_length] at hc) <;> first | (exfalso; omega) | exact absurd trivial hc | exact absurd rfl hc | conv => whnf)
    | (refine Br.eq (fun hc => ?_) (fun hc => ?_) <;> first | (exfalso; omega) | exact absurd trivial hc | exact absurd rfl hc | conv => whnf)
    | (refine Br.ne (fun hc => ?_) (fun hc => ?_) <;> first | (exfalso; omega) | exact absurd trivial hc | exact absurd rfl hc | conv => whnf)
    | (with_reducible refine Br.and ?_)
    | (with_reducible refine Br.or ?_)
    | (refine Br.any (fun hc => ?_) (fun hc => ?_) <;> conv => whnf)
    | (refine Fit.inl ?_ ?_; (focus ((first | omega | exact ⟨by omega, by omega⟩ | rfl | exact trivial | assumption | (simp only [List.length_map, List.length_append, List.length_take, List.length_drop, List.length_cons, List.length_nil, List.length_replicate, List.length_set, List.length_reverse, nds_len, numsD_length]; omega) | (simp only [List.length_map, List.length_append, List.length_take, List.length_drop, List.length_cons, List.length_nil, List.length_replicate, List.length_set, List.length_reverse, nds_len, numsD_length]; exact ⟨by omega, by omega⟩) | exact nds_each | (refine map_each ?_; intro x; rfl) | (refine first_map ?_; intro x; rfl) | exact first_nds | simp | (simp; omega)); done)); conv => whnf)
    | (refine Each.mapAt (by assumption) ?_; conv => whnf)
    | (refine Each.ndsAt (by assumption) ?_; conv => whnf)
    | (refine Each.at (by assumption) ?_; conv => whnf)
    | (refine Each.map (fun x hx => ?_); (try simp only [Int.toNat_natCast, Int.toNat_zero, Int.toNat_one, Int.toNat_natCast_add_one] at hx); conv => whnf)
    | (refine Each.nds (fun a b c ps hx => ?_); (try simp only [Int.toNat_natCast, Int.toNat_zero, Int.toNat_one, Int.toNat_natCast_add_one] at hx); conv => whnf)
    | (refine Each.rep ?_; conv => whnf)
    | (refine Each.drop ?_)
    | (refine Each.take (fun hi => ?_))
    | (refine Each.any (fun x hx => ?_); (try simp only [Int.toNat_natCast, Int.toNat_zero, Int.toNat_one, Int.toNat_natCast_add_one] at hx); conv => whnf)
    | (refine NilB.any (fun hn => ?_) ?_ <;> conv => whnf)
    | (refine ⟨_, bytesOfD_nums _, ?_⟩; conv => whnf)
    | (refine WP.sch (id := 3) tabOK hmix (.mob 0 (.mob 6 (.alt [(1, .mob 2 (.alt [(3, .alt [(4, .alt [(5, .alt [(7, .mob 8 (.mob 9 (.alt [(10, .mob 11 (.mob 12 (.done)))])))]), (7, .mob 8 (.alt [(5, .mob 9 (.alt [(10, .mob 11 (.mob 12 (.done)))]))]))]), (5, .alt [(4, .alt [(7, .mob 8 (.mob 9 (.alt [(10, .mob 11 (.mob 12 (.done)))])))]), (7, .mob 8 (.mob 9 (.alt [(4, .alt [(10, .mob 11 (.mob 12 (.done)))]), (10, .alt [(4, .mob 11 (.mob 12 (.done)))])])))]), (7, .mob 8 (.alt [(4, .alt [(5, .mob 9 (.alt [(10, .mob 11 (.mob 12 (.done)))]))]), (5, .mob 9 (.alt [(4, .alt [(10, .mob 11 (.mob 12 (.done)))]), (10, .alt [(4, .mob 11 (.mob 12 (.done)))])]))]))]), (5, .alt [(3, .alt [(4, .alt [(7, .mob 8 (.mob 9 (.alt [(10, .mob 11 (.mob 12 (.done)))])))]), (7, .mob 8 (.mob 9 (.alt [(4, .alt [(10, .mob 11 (.mob 12 (.done)))]), (10, .alt [(4, .mob 11 (.mob 12 (.done)))])])))]), (7, .mob 8 (.mob 9 (.alt [(3, .alt [(4, .alt [(10, .mob 11 (.mob 12 (.done)))]), (10, .alt [(4, .mob 11 (.mob 12 (.done)))])]), (10, .alt [(3, .alt [(4, .mob 11 (.mob 12 (.done)))])])])))]), (7, .mob 8 (.alt [(3, .alt [(4, .alt [(5, .mob 9 (.alt [(10, .mob 11 (.mob 12 (.done)))]))]), (5, .mob 9 (.alt [(4, .alt [(10, .mob 11 (.mob 12 (.done)))]), (10, .alt [(4, .mob 11 (.mob 12 (.done)))])]))]), (5, .mob 9 (.alt [(3, .alt [(4, .alt [(10, .mob 11 (.mob 12 (.done)))]), (10, .alt [(4, .mob 11 (.mob 12 (.done)))])]), (10, .alt [(3, .alt [(4, .mob 11 (.mob 12 (.done)))])])]))]))])), (5, .alt [(1, .mob 2 (.alt [(3, .alt [(4, .alt [(7, .mob 8 (.mob 9 (.alt [(10, .mob 11 (.mob 12 (.done)))])))]), (7, .mob 8 (.mob 9 (.alt [(4, .alt [(10, .mob 11 (.mob 12 (.done)))]), (10, .alt [(4, .mob 11 (.mob 12 (.done)))])])))]), (7, .mob 8 (.mob 9 (.alt [(3, .alt [(4, .alt [(10, .mob 11 (.mob 12 (.done)))]), (10, .alt [(4, .mob 11 (.mob 12 (.done)))])]), (10, .alt [(3, .alt [(4, .mob 11 (.mob 12 (.done)))])])])))])), (7, .mob 8 (.mob 9 (.alt [(1, .mob 2 (.alt [(3, .alt [(4, .alt [(10, .mob 11 (.mob 12 (.done)))]), (10, .alt [(4, .mob 11 (.mob 12 (.done)))])]), (10, .alt [(3, .alt [(4, .mob 11 (.mob 12 (.done)))])])])), (10, .alt [(1, .mob 2 (.alt [(3, .alt [(4, .mob 11 (.mob 12 (.done)))])]))])])))]), (7, .mob 8 (.alt [(1, .mob 2 (.alt [(3, .alt [(4, .alt [(5, .mob 9 (.alt [(10, .mob 11 (.mob 12 (.done)))]))]), (5, .mob 9 (.alt [(4, .alt [(10, .mob 11 (.mob 12 (.done)))]), (10, .alt [(4, .mob 11 (.mob 12 (.done)))])]))]), (5, .mob 9 (.alt [(3, .alt [(4, .alt [(10, .mob 11 (.mob 12 (.done)))]), (10, .alt [(4, .mob 11 (.mob 12 (.done)))])]), (10, .alt [(3, .alt [(4, .mob 11 (.mob 12 (.done)))])])]))])), (5, .mob 9 (.alt [(1, .mob 2 (.alt [(3, .alt [(4, .alt [(10, .mob 11 (.mob 12 (.done)))]), (10, .alt [(4, .mob 11 (.mob 12 (.done)))])]), (10, .alt [(3, .alt [(4, .mob 11 (.mob 12 (.done)))])])])), (10, .alt [(1, .mob 2 (.alt [(3, .alt [(4, .mob 11 (.mob 12 (.done)))])]))])]))]))]))) (by kernel_rfl) ?_; conv => whnf)
    | exact ⟨rfl, rfl⟩
    | (refine Fin.bool ?_ rfl)
    | (refine Fin.int ?_ rfl)
    | (refine Fin.str ?_ rfl)
    | (refine Fin.sl ?_ rfl)
    | exact trivial)
    refine WP.loop (α := Nat) tabOK (fun i => i ≤ ps.length) (fun i => ⟨[(1, (.d (.int .i64 (b)))), (5, (.d (.str (jn [] (txs k (ps.take i)))))), (35, (.d (.sl (ps.map Xp.d)))), (36, (.d (.int .i64 ((ps.map Xp.d).length)))), (37, (.d (.int .i64 (i))))], [], 0, 74⟩) (fun i => ps.length - i) (0) ?_ ?_ ?_
    · exact Nat.zero_le _
    · conv => whnf
      repeat (first | exact True.intro | (refine Need.mk ?_ ?_; (focus ((first | rfl | assumption | omega | (simp only [List.length_map, List.length_append, List.length_take, List.length_drop, List.length_cons, List.length_nil, List.length_replicate, List.length_set, List.length_reverse, nds_len, numsD_length]; omega) | simp [txs, jn]); done)); conv => whnf) | ((conv => whnf); exact True.intro))
    intro i hi
    have hjl := jn_len (sep := []) (by simp) (txs k (ps.take i))
    have htake := txs_take_sz k ps i
    by_cases hlt : i < ps.length
    · obtain ⟨p, hp⟩ : ∃ y, ps[i]? = some y := ⟨ps[i], by simp [hlt]⟩
      obtain ⟨hpl, hcp⟩ := hih p (List.mem_of_getElem? hp) 1 (by omega) (by omega)
      have hp2 : p.kind ≠ 2 := fun e => by
        have h1 := headF_any hhead (.inl hk)
        rw [List.any_eq_false] at h1
        exact h1 p (List.mem_of_getElem? hp) (by unfold kdP; simp [e, hk])
      have hbl := bd_len 1 p.kind p.tx
      have hta := txs_take k hp
      have e : jn [] (txs k (ps.take (i + 1))) = jn [] (txs k (ps.take i)) ++ bd 1 p.kind p.tx := by rw [hta, jn_nil_snoc, bd_two hp2, hk]
      conv => whnf
      repeat' (first
    | (refine Br.tt ?_; conv => whnf)
    | (refine Br.ff ?_; conv => whnf)
    | (refine Both.mk ?_ ?_ <;> conv => whnf)
    | (refine Br.not ?_)
    | (refine Need.mk ?_ ?_; (focus ((first | omega | exact ⟨by omega, by omega⟩ | rfl | exact trivial | assumption | (simp only [List.length_map, List.length_append, List.length_take, List.length_drop, List.length_cons, List.length_nil, List.length_replicate, List.length_set, List.length_reverse, nds_len, numsD_length]; omega) | (simp only [List.length_map, List.length_append, List.length_take, List.length_drop, List.length_cons, List.length_nil, List.length_replicate, List.length_set, List.length_reverse, nds_len, numsD_length]; exact ⟨by omega, by omega⟩) | exact nds_each | (refine map_each ?_; intro x; rfl) | (refine first_map ?_; intro x; rfl) | exact first_nds | simp | (simp; omega)); done)); conv => whnf)
    | (refine Br.t (by assumption) ?_; conv => whnf)
    | (refine Br.f (by assumption) ?_; conv => whnf)
    | (refine Br.self ?_; conv => whnf)
    | (refine Br.decT (by assumption) ?_; conv => whnf)
    | (refine Br.decF (by assumption) ?_; conv => whnf)
    | (refine Br.eqT (by assumption) ?_; conv => whnf)
    | (refine Br.eqF (by assumption) ?_; conv => whnf)
    | (refine Br.dec (fun hc => ?_) (fun hc => ?_) <;> (try simp only [List.length_map, List.length_append, List.length_take, List.length_drop, List.length_cons, List.length_nil, List.length_replicate, List.length_set, List.length_reverse, nds_len, numsD_length] at hc) <;> first | (exfalso; omega) | exact absurd trivial hc | exact absurd rfl hc | conv => whnf)
    | (refine Br.eq (fun hc => ?_) (fun hc => ?_) <;> first | (exfalso; omega) | exact absurd trivial hc | exact absurd rfl hc | conv => whnf)
    | (refine Br.ne (fun hc => ?_) (fun hc => ?_) <;> first | (exfalso; omega) | exact absurd trivial hc | exact absurd rfl hc | conv => whnf)
    | (with_reducible refine Br.and ?_)
    | (with_reducible refine Br.or ?_)
    | (refine Br.any (fun hc => ?_) (fun hc => ?_) <;> conv => whnf)
    | (refine Fit.inl ?_ ?_; (focus ((first | omega | exact ⟨by omega, by omega⟩ | rfl | exact trivial | assumption | (simp only [List.length_map, List.length_append, List.length_take, List.length_drop, List.length_cons, List.length_nil, List.length_replicate, List.length_set, List.length_reverse, nds_len, numsD_length]; omega) | (simp only [List.length_map, List.length_append, List.length_take, List.length_drop, List.length_cons, List.length_nil, List.length_replicate, List.length_set, List.length_reverse, nds_len, numsD_length]; exact ⟨by omega, by omega⟩) | exact nds_each | (refine map_each ?_; intro x; rfl) | (refine first_map ?_; intro x; rfl) | exact first_nds | simp | (simp; omega)); done)); conv => whnf)
    | (refine Each.mapAt (by assumption) ?_; conv => whnf)
    | (refine Each.ndsAt (by assumption) ?_; conv => whnf)
    | (refine Each.at (by assumption) ?_; conv => whnf)
    | (refine Each.map (fun x hx => ?_); (try simp only [Int.toNat_natCast, Int.toNat_zero, Int.toNat_one, Int.toNat_natCast_add_one] at hx); conv => whnf)
    | (refine Each.nds (fun a b c ps hx => ?_); (try simp only [Int.toNat_natCast, Int.toNat_zero, Int.toNat_one, Int.toNat_natCast_add_one] at hx); conv => whnf)
    | (refine Each.rep ?_; conv => whnf)
    | (refine Each.drop ?_)
    | (refine Each.take (fun hi => ?_))
    | (refine Each.any (fun x hx => ?_); (try simp only [Int.toNat_natCast, Int.toNat_zero, Int.toNat_one, Int.toNat_natCast_add_one] at hx); conv => whnf)
    | (refine NilB.any (fun hn => ?_) ?_ <;> conv => whnf)
    | (refine CallWP.mono (hcp) ?_; rintro r h ⟨rfl, rfl⟩; conv => whnf)
    | (refine ⟨_, bytesOfD_nums _, ?_⟩; conv => whnf)
    | (refine WP.sch (id := 3) tabOK hmix (.mob 0 (.mob 6 (.alt [(1, .mob 2 (.alt [(3, .alt [(4, .alt [(5, .alt [(7, .mob 8 (.mob 9 (.alt [(10, .mob 11 (.mob 12 (.done)))])))]), (7, .mob 8 (.alt [(5, .mob 9 (.alt [(10, .mob 11 (.mob 12 (.done)))]))]))]), (5, .alt [(4, .alt [(7, .mob 8 (.mob 9 (.alt [(10, .mob 11 (.mob 12 (.done)))])))]), (7, .mob 8 (.mob 9 (.alt [(4, .alt [(10, .mob 11 (.mob 12 (.done)))]), (10, .alt [(4, .mob 11 (.mob 12 (.done)))])])))]), (7, .mob 8 (.alt [(4, .alt [(5, .mob 9 (.alt [(10, .mob 11 (.mob 12 (.done)))]))]), (5, .mob 9 (.alt [(4, .alt [(10, .mob 11 (.mob 12 (.done)))]), (10, .alt [(4, .mob 11 (.mob 12 (.done)))])]))]))]), (5, .alt [(3, .alt [(4, .alt [(7, .mob 8 (.mob 9 (.alt [(10, .mob 11 (.mob 12 (.done)))])))]), (7, .mob 8 (.mob 9 (.alt [(4, .alt [(10, .mob 11 (.mob 12 (.done)))]), (10, .alt [(4, .mob 11 (.mob 12 (.done)))])])))]), (7, .mob 8 (.mob 9 (.alt [(3, .alt [(4, .alt [(10, .mob 11 (.mob 12 (.done)))]), (10, .alt [(4, .mob 11 (.mob 12 (.done)))])]), (10, .alt [(3, .alt [(4, .mob 11 (.mob 12 (.done)))])])])))]), (7, .mob 8 (.alt [(3, .alt [(4, .alt [(5, .mob 9 (.alt [(10, .mob 11 (.mob 12 (.done)))]))]), (5, .mob 9 (.alt [(4, .alt [(10, .mob 11 (.mob 12 (.done)))]), (10, .alt [(4, .mob 11 (.mob 12 (.done)))])]))]), (5, .mob 9 (.alt [(3, .alt [(4, .alt [(10, .mob 11 (.mob 12 (.done)))]), (10, .alt [(4, .mob 11 (.mob 12 (.done)))])]), (10, .alt [(3, .alt [(4, .mob 11 (.mob 12 (.done)))])])]))]))])), (5, .alt [(1, .mob 2 (.alt [(3, .alt [(4, .alt [(7, .mob 8 (.mob 9 (.alt [(10, .mob 11 (.mob 12 (.done)))])))]), (7, .mob 8 (.mob 9 (.alt [(4, .alt [(10, .mob 11 (.mob 12 (.done)))]), (10, .alt [(4, .mob 11 (.mob 12 (.done)))])])))]), (7, .mob 8 (.mob 9 (.alt [(3, .alt [(4, .alt [(10, .mob 11 (.mob 12 (.done)))]), (10, .alt [(4, .mob 11 (.mob 12 (.done)))])]), (10, .alt [(3, .alt [(4, .mob 11 (.mob 12 (.done)))])])])))])), (7, .mob 8 (.mob 9 (.alt [(1, .mob 2 (.alt [(3, .alt [(4, .alt [(10, .mob 11 (.mob 12 (.done)))]), (10, .alt [(4, .mob 11 (.mob 12 (.done)))])]), (10, .alt [(3, .alt [(4, .mob 11 (.mob 12 (.done)))])])])), (10, .alt [(1, .mob 2 (.alt [(3, .alt [(4, .mob 11 (.mob 12 (.done)))])]))])])))]), (7, .mob 8 (.alt [(1, .mob 2 (.alt [(3, .alt [(4, .alt [(5, .mob 9 (.alt [(10, .mob 11 (.mob 12 (.done)))]))]), (5, .mob 9 (.alt [(4, .alt [(10, .mob 11 (.mob 12 (.done)))]), (10, .alt [(4, .mob 11 (.mob 12 (.done)))])]))]), (5, .mob 9 (.alt [(3, .alt [(4, .alt [(10, .mob 11 (.mob 12 (.done)))]), (10, .alt [(4, .mob 11 (.mob 12 (.done)))])]), (10, .alt [(3, .alt [(4, .mob 11 (.mob 12 (.done)))])])]))])), (5, .mob 9 (.alt [(1, .mob 2 (.alt [(3, .alt [(4, .alt [(10, .mob 11 (.mob 12 (.done)))]), (10, .alt [(4, .mob 11 (.mob 12 (.done)))])]), (10, .alt [(3, .alt [(4, .mob 11 (.mob 12 (.done)))])])])), (10, .alt [(1, .mob 2 (.alt [(3, .alt [(4, .mob 11 (.mob 12 (.done)))])]))])]))]))]))) (by kernel_rfl) ?_; conv => whnf)
    | exact ⟨rfl, rfl⟩
    | (refine Fin.bool ?_ rfl)
    | (refine Fin.int ?_ rfl)
    | (refine Fin.str ?_ rfl)
    | (refine Fin.sl ?_ rfl)
    | exact trivial)
      all_goals
        refine ⟨i + 1, by omega, by dsimp only; omega, ?_⟩
        conv => whnf
        repeat (first | exact True.intro | (refine Need.mk ?_ ?_; (focus ((first | rfl | assumption | omega | (simp only [List.length_map, List.length_append, List.length_take, List.length_drop, List.length_cons, List.length_nil, List.length_replicate, List.length_set, List.length_reverse, nds_len, numsD_length]; omega) | simp [e]); done)); conv => whnf) | ((conv => whnf); exact True.intro))
    have e : ps.take i = ps := List.take_of_length_le (by omega)
    rw [e] at hjl ⊢
    by_cases hb3 : b < 2
    · have e2 : bd b k (jn [] (txs k ps)) = jn [] (txs k ps) := by rw [bd, if_neg (by omega)]
      rw [e2]
      conv => whnf
      repeat' (first
    | (refine Br.tt ?_; conv => whnf)
    | (refine Br.ff ?_; conv => whnf)
    | (refine Both.mk ?_ ?_ <;> conv => whnf)
    | (refine Br.not ?_)
    | (refine Need.mk ?_ ?_; (focus ((first | omega | exact ⟨by omega, by omega⟩ | rfl | exact trivial | assumption | (simp only [List.length_map, List.length_append, List.length_take, List.length_drop, List.length_cons, List.length_nil, List.length_replicate, List.length_set, List.length_reverse, nds_len, numsD_length]; omega) | (simp only [List.length_map, List.length_append, List.length_take, List.length_drop, List.length_cons, List.length_nil, List.length_replicate, List.length_set, List.length_reverse, nds_len, numsD_length]; exact ⟨by omega, by omega⟩) | exact nds_each | (refine map_each ?_; intro x; rfl) | (refine first_map ?_; intro x; rfl) | exact first_nds | simp | (simp; omega)); done)); conv => whnf)
    | (refine Br.t (by assumption) ?_; conv => whnf)
    | (refine Br.f (by assumption) ?_; conv => whnf)
    | (refine Br.self ?_; conv => whnf)
    | (refine Br.decT (by assumption) ?_; conv => whnf)
    | (refine Br.decF (by assumption) ?_; conv => whnf)
    | (refine Br.eqT (by assumption) ?_; conv => whnf)
    | (refine Br.eqF (by assumption) ?_; conv => whnf)
    | (refine Br.dec (fun hc => ?_) (fun hc => ?_) <;> (try simp only [List.length_map, List.length_append, List.length_take, List.length_drop, List.length_cons, List.length_nil, List.length_replicate, List.length_set, List.length_reverse, nds_len, numsD_length] at hc) <;> first | (exfalso; omega) | exact absurd trivial hc | exact absurd rfl hc | conv => whnf)
    | (refine Br.eq (fun hc => ?_) (fun hc => ?_) <;> first | (exfalso; omega) | exact absurd trivial hc | exact absurd rfl hc | conv => whnf)
    | (refine Br.ne (fun hc => ?_) (fun hc => ?_) <;> first | (exfalso; omega) | exact absurd trivial hc | exact absurd rfl hc | conv => whnf)
    | (with_reducible refine Br.and ?_)
    | (with_reducible refine Br.or ?_)
    | (refine Br.any (fun hc => ?_) (fun hc => ?_) <;> conv => whnf)
    | (refine Fit.inl ?_ ?_; (focus ((first | omega | exact ⟨by omega, by omega⟩ | rfl | exact trivial | assumption | (simp only [List.length_map, List.length_append, List.length_take, List.length_drop, List.length_cons, List.length_nil, List.length_replicate, List.length_set, List.length_reverse, nds_len, numsD_length]; omega) | (simp only [List.length_map, List.length_append, List.length_take, List.length_drop, List.length_cons, List.length_nil, List.length_replicate, List.length_set, List.length_reverse, nds_len, numsD_length]; exact ⟨by omega, by omega⟩) | exact nds_each | (refine map_each ?_; intro x; rfl) | (refine first_map ?_; intro x; rfl) | exact first_nds | simp | (simp; omega)); done)); conv => whnf)
    | (refine Each.mapAt (by assumption) ?_; conv => whnf)
    | (refine Each.ndsAt (by assumption) ?_; conv => whnf)
    | (refine Each.at (by assumption) ?_; conv => whnf)
    | (refine Each.map (fun x hx => ?_); (try simp only [Int.toNat_natCast, Int.toNat_zero, Int.toNat_one, Int.toNat_natCast_add_one] at hx); conv => whnf)
    | (refine Each.nds (fun a b c ps hx => ?_); (try simp only [Int.toNat_natCast, Int.toNat_zero, Int.toNat_one, Int.toNat_natCast_add_one] at hx); conv => whnf)
    | (refine Each.rep ?_; conv => whnf)
    | (refine Each.drop ?_)
    | (refine Each.take (fun hi => ?_))
    | (refine Each.any (fun x hx => ?_); (try simp only [Int.toNat_natCast, Int.toNat_zero, Int.toNat_one, Int.toNat_natCast_add_one] at hx); conv => whnf)
    | (refine NilB.any (fun hn => ?_) ?_ <;> conv => whnf)
    | (refine ⟨_, bytesOfD_nums _, ?_⟩; conv => whnf)
    | (refine WP.sch (id := 3) tabOK hmix (.mob 0 (.mob 6 (.alt [(1, .mob 2 (.alt [(3, .alt [(4, .alt [(5, .alt [(7, .mob 8 (.mob 9 (.alt [(10, .mob 11 (.mob 12 (.done)))])))]), (7, .mob 8 (.alt [(5, .mob 9 (.alt [(10, .mob 11 (.mob 12 (.done)))]))]))]), (5, .alt [(4, .alt [(7, .mob 8 (.mob 9 (.alt [(10, .mob 11 (.mob 12 (.done)))])))]), (7, .mob 8 (.mob 9 (.alt [(4, .alt [(10, .mob 11 (.mob 12 (.done)))]), (10, .alt [(4, .mob 11 (.mob 12 (.done)))])])))]), (7, .mob 8 (.alt [(4, .alt [(5, .mob 9 (.alt [(10, .mob 11 (.mob 12 (.done)))]))]), (5, .mob 9 (.alt [(4, .alt [(10, .mob 11 (.mob 12 (.done)))]), (10, .alt [(4, .mob 11 (.mob 12 (.done)))])]))]))]), (5, .alt [(3, .alt [(4, .alt [(7, .mob 8 (.mob 9 (.alt [(10, .mob 11 (.mob 12 (.done)))])))]), (7, .mob 8 (.mob 9 (.alt [(4, .alt [(10, .mob 11 (.mob 12 (.done)))]), (10, .alt [(4, .mob 11 (.mob 12 (.done)))])])))]), (7, .mob 8 (.mob 9 (.alt [(3, .alt [(4, .alt [(10, .mob 11 (.mob 12 (.done)))]), (10, .alt [(4, .mob 11 (.mob 12 (.done)))])]), (10, .alt [(3, .alt [(4, .mob 11 (.mob 12 (.done)))])])])))]), (7, .mob 8 (.alt [(3, .alt [(4, .alt [(5, .mob 9 (.alt [(10, .mob 11 (.mob 12 (.done)))]))]), (5, .mob 9 (.alt [(4, .alt [(10, .mob 11 (.mob 12 (.done)))]), (10, .alt [(4, .mob 11 (.mob 12 (.done)))])]))]), (5, .mob 9 (.alt [(3, .alt [(4, .alt [(10, .mob 11 (.mob 12 (.done)))]), (10, .alt [(4, .mob 11 (.mob 12 (.done)))])]), (10, .alt [(3, .alt [(4, .mob 11 (.mob 12 (.done)))])])]))]))])), (5, .alt [(1, .mob 2 (.alt [(3, .alt [(4, .alt [(7, .mob 8 (.mob 9 (.alt [(10, .mob 11 (.mob 12 (.done)))])))]), (7, .mob 8 (.mob 9 (.alt [(4, .alt [(10, .mob 11 (.mob 12 (.done)))]), (10, .alt [(4, .mob 11 (.mob 12 (.done)))])])))]), (7, .mob 8 (.mob 9 (.alt [(3, .alt [(4, .alt [(10, .mob 11 (.mob 12 (.done)))]), (10, .alt [(4, .mob 11 (.mob 12 (.done)))])]), (10, .alt [(3, .alt [(4, .mob 11 (.mob 12 (.done)))])])])))])), (7, .mob 8 (.mob 9 (.alt [(1, .mob 2 (.alt [(3, .alt [(4, .alt [(10, .mob 11 (.mob 12 (.done)))]), (10, .alt [(4, .mob 11 (.mob 12 (.done)))])]), (10, .alt [(3, .alt [(4, .mob 11 (.mob 12 (.done)))])])])), (10, .alt [(1, .mob 2 (.alt [(3, .alt [(4, .mob 11 (.mob 12 (.done)))])]))])])))]), (7, .mob 8 (.alt [(1, .mob 2 (.alt [(3, .alt [(4, .alt [(5, .mob 9 (.alt [(10, .mob 11 (.mob 12 (.done)))]))]), (5, .mob 9 (.alt [(4, .alt [(10, .mob 11 (.mob 12 (.done)))]), (10, .alt [(4, .mob 11 (.mob 12 (.done)))])]))]), (5, .mob 9 (.alt [(3, .alt [(4, .alt [(10, .mob 11 (.mob 12 (.done)))]), (10, .alt [(4, .mob 11 (.mob 12 (.done)))])]), (10, .alt [(3, .alt [(4, .mob 11 (.mob 12 (.done)))])])]))])), (5, .mob 9 (.alt [(1, .mob 2 (.alt [(3, .alt [(4, .alt [(10, .mob 11 (.mob 12 (.done)))]), (10, .alt [(4, .mob 11 (.mob 12 (.done)))])]), (10, .alt [(3, .alt [(4, .mob 11 (.mob 12 (.done)))])])])), (10, .alt [(1, .mob 2 (.alt [(3, .alt [(4, .mob 11 (.mob 12 (.done)))])]))])]))]))]))) (by kernel_rfl) ?_; conv => whnf)
    | exact ⟨rfl, rfl⟩
    | (refine Fin.bool ?_ rfl)
    | (refine Fin.int ?_ rfl)
    | (refine Fin.str ?_ rfl)
    | (refine Fin.sl ?_ rfl)
    | exact trivial)
    · have e2 : bd b k (jn [] (txs k ps)) = [40] ++ jn [] (txs k ps) ++ [41] := by rw [bd, if_pos (by omega)]
      rw [e2]
      conv => whnf
      repeat' (first
    | (refine Br.tt ?_; conv => whnf)
    | (refine Br.ff ?_; conv => whnf)
    | (refine Both.mk ?_ ?_ <;> conv => whnf)
    | (refine Br.not ?_)
    | (refine Need.mk ?_ ?_; (focus ((first | omega | exact ⟨by omega, by omega⟩ | rfl | exact trivial | assumption | (simp only [List.length_map, List.length_append, List.length_take, List.length_drop, List.length_cons, List.length_nil, List.length_replicate, List.length_set, List.length_reverse, nds_len, numsD_length]; omega) | (simp only [List.length_map, List.length_append, List.length_take, List.length_drop, List.length_cons, List.length_nil, List.length_replicate, List.length_set, List.length_reverse, nds_len, numsD_length]; exact ⟨by omega, by omega⟩) | exact nds_each | (refine map_each ?_; intro x; rfl) | (refine first_map ?_; intro x; rfl) | exact first_nds | simp | (simp; omega)); done)); conv => whnf)
    | (refine Br.t (by assumption) ?_; conv => whnf)
    | (refine Br.f (by assumption) ?_; conv => whnf)
    | (refine Br.self ?_; conv => whnf)
    | (refine Br.decT (by assumption) ?_; conv => whnf)
    | (refine Br.decF (by assumption) ?_; conv => whnf)
    | (refine Br.eqT (by assumption) ?_; conv => whnf)
    | (refine Br.eqF (by assumption) ?_; conv => whnf)
    | (refine Br.dec (fun hc => ?_) (fun hc => ?_) <;> (try simp only [List.length_map, List.length_append, List.length_take, List.length_drop, List.length_cons, List.length_nil, List.length_replicate, List.length_set, List.length_reverse, nds_len, numsD_length] at hc) <;> first | (exfalso; omega) | exact absurd trivial hc | exact absurd rfl hc | conv => whnf)
    | (refine Br.eq (fun hc => ?_) (fun hc => ?_) <;> first | (exfalso; omega) | exact absurd trivial hc | exact absurd rfl hc | conv => whnf)
    | (refine Br.ne (fun hc => ?_) (fun hc => ?_) <;> first | (exfalso; omega) | exact absurd trivial hc | exact absurd rfl hc | conv => whnf)
    | (with_reducible refine Br.and ?_)
    | (with_reducible refine Br.or ?_)
    | (refine Br.any (fun hc => ?_) (fun hc => ?_) <;> conv => whnf)
    | (refine Fit.inl ?_ ?_; (focus ((first | omega | exact ⟨by omega, by omega⟩ | rfl | exact trivial | assumption | (simp only [List.length_map, List.length_append, List.length_take, List.length_drop, List.length_cons, List.length_nil, List.length_replicate, List.length_set, List.length_reverse, nds_len, numsD_length]; omega) | (simp only [List.length_map, List.length_append, List.length_take, List.length_drop, List.length_cons, List.length_nil, List.length_replicate, List.length_set, List.length_reverse, nds_len, numsD_length]; exact ⟨by omega, by omega⟩) | exact nds_each | (refine map_each ?_; intro x; rfl) | (refine first_map ?_; intro x; rfl) | exact first_nds | simp | (simp; omega)); done)); conv => whnf)
    | (refine Each.mapAt (by assumption) ?_; conv => whnf)
    | (refine Each.ndsAt (by assumption) ?_; conv => whnf)
    | (refine Each.at (by assumption) ?_; conv => whnf)
    | (refine Each.map (fun x hx => ?_); (try simp only [Int.toNat_natCast, Int.toNat_zero, Int.toNat_one, Int.toNat_natCast_add_one] at hx); conv => whnf)
    | (refine Each.nds (fun a b c ps hx => ?_); (try simp only [Int.toNat_natCast, Int.toNat_zero, Int.toNat_one, Int.toNat_natCast_add_one] at hx); conv => whnf)
    | (refine Each.rep ?_; conv => whnf)
    | (refine Each.drop ?_)
    | (refine Each.take (fun hi => ?_))
    | (refine Each.any (fun x hx => ?_); (try simp only [Int.toNat_natCast, Int.toNat_zero, Int.toNat_one, Int.toNat_natCast_add_one] at hx); conv => whnf)
    | (refine NilB.any (fun hn => ?_) ?_ <;> conv => whnf)
    | (refine ⟨_, bytesOfD_nums _, ?_⟩; conv => whnf)
    | (refine WP.sch (id := 3) tabOK hmix (.mob 0 (.mob 6 (.alt [(1, .mob 2 (.alt [(3, .alt [(4, .alt [(5, .alt [(7, .mob 8 (.mob 9 (.alt [(10, .mob 11 (.mob 12 (.done)))])))]), (7, .mob 8 (.alt [(5, .mob 9 (.alt [(10, .mob 11 (.mob 12 (.done)))]))]))]), (5, .alt [(4, .alt [(7, .mob 8 (.mob 9 (.alt [(10, .mob 11 (.mob 12 (.done)))])))]), (7, .mob 8 (.mob 9 (.alt [(4, .alt [(10, .mob 11 (.mob 12 (.done)))]), (10, .alt [(4, .mob 11 (.mob 12 (.done)))])])))]), (7, .mob 8 (.alt [(4, .alt [(5, .mob 9 (.alt [(10, .mob 11 (.mob 12 (.done)))]))]), (5, .mob 9 (.alt [(4, .alt [(10, .mob 11 (.mob 12 (.done)))]), (10, .alt [(4, .mob 11 (.mob 12 (.done)))])]))]))]), (5, .alt [(3, .alt [(4, .alt [(7, .mob 8 (.mob 9 (.alt [(10, .mob 11 (.mob 12 (.done)))])))]), (7, .mob 8 (.mob 9 (.alt [(4, .alt [(10, .mob 11 (.mob 12 (.done)))]), (10, .alt [(4, .mob 11 (.mob 12 (.done)))])])))]), (7, .mob 8 (.mob 9 (.alt [(3, .alt [(4, .alt [(10, .mob 11 (.mob 12 (.done)))]), (10, .alt [(4, .mob 11 (.mob 12 (.done)))])]), (10, .alt [(3, .alt [(4, .mob 11 (.mob 12 (.done)))])])])))]), (7, .mob 8 (.alt [(3, .alt [(4, .alt [(5, .mob 9 (.alt [(10, .mob 11 (.mob 12 (.done)))]))]), (5, .mob 9 (.alt [(4, .alt [(10, .mob 11 (.mob 12 (.done)))]), (10, .alt [(4, .mob 11 (.mob 12 (.done)))])]))]), (5, .mob 9 (.alt [(3, .alt [(4, .alt [(10, .mob 11 (.mob 12 (.done)))]), (10, .alt [(4, .mob 11 (.mob 12 (.done)))])]), (10, .alt [(3, .alt [(4, .mob 11 (.mob 12 (.done)))])])]))]))])), (5, .alt [(1, .mob 2 (.alt [(3, .alt [(4, .alt [(7, .mob 8 (.mob 9 (.alt [(10, .mob 11 (.mob 12 (.done)))])))]), (7, .mob 8 (.mob 9 (.alt [(4, .alt [(10, .mob 11 (.mob 12 (.done)))]), (10, .alt [(4, .mob 11 (.mob 12 (.done)))])])))]), (7, .mob 8 (.mob 9 (.alt [(3, .alt [(4, .alt [(10, .mob 11 (.mob 12 (.done)))]), (10, .alt [(4, .mob 11 (.mob 12 (.done)))])]), (10, .alt [(3, .alt [(4, .mob 11 (.mob 12 (.done)))])])])))])), (7, .mob 8 (.mob 9 (.alt [(1, .mob 2 (.alt [(3, .alt [(4, .alt [(10, .mob 11 (.mob 12 (.done)))]), (10, .alt [(4, .mob 11 (.mob 12 (.done)))])]), (10, .alt [(3, .alt [(4, .mob 11 (.mob 12 (.done)))])])])), (10, .alt [(1, .mob 2 (.alt [(3, .alt [(4, .mob 11 (.mob 12 (.done)))])]))])])))]), (7, .mob 8 (.alt [(1, .mob 2 (.alt [(3, .alt [(4, .alt [(5, .mob 9 (.alt [(10, .mob 11 (.mob 12 (.done)))]))]), (5, .mob 9 (.alt [(4, .alt [(10, .mob 11 (.mob 12 (.done)))]), (10, .alt [(4, .mob 11 (.mob 12 (.done)))])]))]), (5, .mob 9 (.alt [(3, .alt [(4, .alt [(10, .mob 11 (.mob 12 (.done)))]), (10, .alt [(4, .mob 11 (.mob 12 (.done)))])]), (10, .alt [(3, .alt [(4, .mob 11 (.mob 12 (.done)))])])]))])), (5, .mob 9 (.alt [(1, .mob 2 (.alt [(3, .alt [(4, .alt [(10, .mob 11 (.mob 12 (.done)))]), (10, .alt [(4, .mob 11 (.mob 12 (.done)))])]), (10, .alt [(3, .alt [(4, .mob 11 (.mob 12 (.done)))])])])), (10, .alt [(1, .mob 2 (.alt [(3, .alt [(4, .mob 11 (.mob 12 (.done)))])]))])]))]))]))) (by kernel_rfl) ?_; conv => whnf)
    | exact ⟨rfl, rfl⟩
    | (refine Fin.bool ?_ rfl)
    | (refine Fin.int ?_ rfl)
    | (refine Fin.str ?_ rfl)
    | (refine Fin.sl ?_ rfl)
    | exact trivial)
  · rw [← put3 (t := t) (txs k ps) hk]
    (refine CallWP.go tabOK Try.func53 0 74 rfl rfl rfl rfl ?_; conv => whnf)
    repeat' (first
    | (refine Br.tt ?_; conv => whnf)
    | (refine Br.ff ?_; conv => whnf)
    | (refine Both.mk ?_ ?_ <;> conv => whnf)
    | (refine Br.not ?_)
    | (refine Need.mk ?_ ?_; (focus ((first | omega | exact ⟨by omega, by omega⟩ | rfl | exact trivial | assumption | (simp only [List.length_map, List.length_append, List.length_take, List.length_drop, List.length_cons, List.length_nil, List.length_replicate, List.length_set, List.length_reverse, nds_len, numsD_length]; omega) | (simp only [List.length_map, List.length_append, List.length_take, List.length_drop, List.length_cons, List.length_nil, List.length_replicate, List.length_set, List.length_reverse, nds_len, numsD_length]; exact ⟨by omega, by omega⟩) | exact nds_each | (refine map_each ?_; intro x; rfl) | (refine first_map ?_; intro x; rfl) | exact first_nds | simp | (simp; omega)); done)); conv => whnf)
    | (refine Br.t (by assumption) ?_; conv => whnf)
    | (refine Br.f (by assumption) ?_; conv => whnf)
    | (refine Br.self ?_; conv => whnf)
    | (refine Br.decT (by assumption) ?_; conv => whnf)
    | (refine Br.decF (by assumption) ?_; conv => whnf)
    | (refine Br.eqT (by assumption) ?_; conv => whnf)
    | (refine Br.eqF (by assumption) ?_; conv => whnf)
    | (refine Br.dec (fun hc => ?_) (fun hc => ?_) <;> (try simp only [List.length_map, List.length_append, List.length_take, List.length_drop, List.length_cons, List.length_nil, List.length_replicate, List.length_set, List.length_reverse, nds_len, numsD_length] at hc) <;> first | (exfalso; omega) | exact absurd trivial hc | exact absurd rfl hc | conv => whnf)
    | (refine Br.eq (fun hc => ?_) (fun hc => ?_) <;> first | (exfalso; omega) | exact absurd trivial hc | exact absurd rfl hc | conv => whnf)
    | (refine Br.ne (fun hc => ?_) (fun hc => ?_) <;> first | (exfalso; omega) | exact absurd trivial hc | exact absurd rfl hc | conv => whnf)
    | (with_reducible refine Br.and ?_)
    | (with_reducible refine Br.or ?_)
    | (refine Br.any (fun hc => ?_) (fun hc => ?_) <;> conv => whnf)
    | (refine Fit.inl ?_ ?_; (focus ((first | omega | exact ⟨by omega, by omega⟩ | rfl | exact trivial | assumption | (simp only [List.length_map, List.length_append, List.length_take, List.length_drop, List.length_cons, List.length_nil, List.length_replicate, List.length_set, List.length_reverse, nds_len, numsD_length]; omega) | (simp only [List.length_map, List.length_append, List.length_take, List.length_drop, List.length_cons, List.length_nil, List.length_replicate, List.length_set, List.length_reverse, nds_len, numsD_length]; exact ⟨by omega, by omega⟩) | exact nds_each | (refine map_each ?_; intro x; rfl) | (refine first_map ?_; intro x; rfl) | exact first_nds | simp | (simp; omega)); done)); conv => whnf)
    | (refine Each.mapAt (by assumption) ?_; conv => whnf)
    | (refine Each.ndsAt (by assumption) ?_; conv => whnf)
    | (refine Each.at (by assumption) ?_; conv => whnf)
    | (refine Each.map (fun x hx => ?_); (try simp only [Int.toNat_natCast, Int.toNat_zero, Int.toNat_one, Int.toNat_natCast_add_one] at hx); conv => whnf)
    | (refine Each.nds (fun a b c ps hx => ?_); (try simp only [Int.toNat_natCast, Int.toNat_zero, Int.toNat_one, Int.toNat_natCast_add_one] at hx); conv => whnf)
    | (refine Each.rep ?_; conv => whnf)
    | (refine Each.drop ?_)
    | (refine Each.take (fun hi => ?_))
    | (refine Each.any (fun x hx => ?_); (try simp only [Int.toNat_natCast, Int.toNat_zero, Int.toNat_one, Int.toNat_natCast_add_one] at hx); conv => whnf)
    | (refine NilB.any (fun hn => ?_) ?_ <;> conv => whnf)
    | (refine ⟨_, bytesOfD_nums _, ?_⟩; conv => whnf)
    | (refine WP.sch (id := 3) tabOK hmix (.mob 0 (.mob 6 (.alt [(1, .mob 2 (.alt [(3, .alt [(4, .alt [(5, .alt [(7, .mob 8 (.mob 9 (.alt [(10, .mob 11 (.mob 12 (.done)))])))]), (7, .mob 8 (.alt [(5, .mob 9 (.alt [(10, .mob 11 (.mob 12 (.done)))]))]))]), (5, .alt [(4, .alt [(7, .mob 8 (.mob 9 (.alt [(10, .mob 11 (.mob 12 (.done)))])))]), (7, .mob 8 (.mob 9 (.alt [(4, .alt [(10, .mob 11 (.mob 12 (.done)))]), (10, .alt [(4, .mob 11 (.mob 12 (.done)))])])))]), (7, .mob 8 (.alt [(4, .alt [(5, .mob 9 (.alt [(10, .mob 11 (.mob 12 (.done)))]))]), (5, .mob 9 (.alt [(4, .alt [(10, .mob 11 (.mob 12 (.done)))]), (10, .alt [(4, .mob 11 (.mob 12 (.done)))])]))]))]), (5, .alt [(3, .alt [(4, .alt [(7, .mob 8 (.mob 9 (.alt [(10, .mob 11 (.mob 12 (.done)))])))]), (7, .mob 8 (.mob 9 (.alt [(4, .alt [(10, .mob 11 (.mob 12 (.done)))]), (10, .alt [(4, .mob 11 (.mob 12 (.done)))])])))]), (7, .mob 8 (.mob 9 (.alt [(3, .alt [(4, .alt [(10, .mob 11 (.mob 12 (.done)))]), (10, .alt [(4, .mob 11 (.mob 12 (.done)))])]), (10, .alt [(3, .alt [(4, .mob 11 (.mob 12 (.done)))])])])))]), (7, .mob 8 (.alt [(3, .alt [(4, .alt [(5, .mob 9 (.alt [(10, .mob 11 (.mob 12 (.done)))]))]), (5, .mob 9 (.alt [(4, .alt [(10, .mob 11 (.mob 12 (.done)))]), (10, .alt [(4, .mob 11 (.mob 12 (.done)))])]))]), (5, .mob 9 (.alt [(3, .alt [(4, .alt [(10, .mob 11 (.mob 12 (.done)))]), (10, .alt [(4, .mob 11 (.mob 12 (.done)))])]), (10, .alt [(3, .alt [(4, .mob 11 (.mob 12 (.done)))])])]))]))])), (5, .alt [(1, .mob 2 (.alt [(3, .alt [(4, .alt [(7, .mob 8 (.mob 9 (.alt [(10, .mob 11 (.mob 12 (.done)))])))]), (7, .mob 8 (.mob 9 (.alt [(4, .alt [(10, .mob 11 (.mob 12 (.done)))]), (10, .alt [(4, .mob 11 (.mob 12 (.done)))])])))]), (7, .mob 8 (.mob 9 (.alt [(3, .alt [(4, .alt [(10, .mob 11 (.mob 12 (.done)))]), (10, .alt [(4, .mob 11 (.mob 12 (.done)))])]), (10, .alt [(3, .alt [(4, .mob 11 (.mob 12 (.done)))])])])))])), (7, .mob 8 (.mob 9 (.alt [(1, .mob 2 (.alt [(3, .alt [(4, .alt [(10, .mob 11 (.mob 12 (.done)))]), (10, .alt [(4, .mob 11 (.mob 12 (.done)))])]), (10, .alt [(3, .alt [(4, .mob 11 (.mob 12 (.done)))])])])), (10, .alt [(1, .mob 2 (.alt [(3, .alt [(4, .mob 11 (.mob 12 (.done)))])]))])])))]), (7, .mob 8 (.alt [(1, .mob 2 (.alt [(3, .alt [(4, .alt [(5, .mob 9 (.alt [(10, .mob 11 (.mob 12 (.done)))]))]), (5, .mob 9 (.alt [(4, .alt [(10, .mob 11 (.mob 12 (.done)))]), (10, .alt [(4, .mob 11 (.mob 12 (.done)))])]))]), (5, .mob 9 (.alt [(3, .alt [(4, .alt [(10, .mob 11 (.mob 12 (.done)))]), (10, .alt [(4, .mob 11 (.mob 12 (.done)))])]), (10, .alt [(3, .alt [(4, .mob 11 (.mob 12 (.done)))])])]))])), (5, .mob 9 (.alt [(1, .mob 2 (.alt [(3, .alt [(4, .alt [(10, .mob 11 (.mob 12 (.done)))]), (10, .alt [(4, .mob 11 (.mob 12 (.done)))])]), (10, .alt [(3, .alt [(4, .mob 11 (.mob 12 (.done)))])])])), (10, .alt [(1, .mob 2 (.alt [(3, .alt [(4, .mob 11 (.mob 12 (.done)))])]))])]))]))]))) (by kernel_rfl) ?_; conv => whnf)
    | exact ⟨rfl, rfl⟩
    | (refine Fin.bool ?_ rfl)
    | (refine Fin.int ?_ rfl)
    | (refine Fin.str ?_ rfl)
    | (refine Fin.sl ?_ rfl)
    | exact trivial)
    refine WP.loop (α := Nat) tabOK (fun i => i ≤ ps.length) (fun i => ⟨[(1, (.d (.int .i64 (b)))), (5, (.d (.str (jn [124] (txs k (ps.take i)))))), (52, (.d (.sl (ps.map Xp.d)))), (53, (.d (.int .i64 ((ps.map Xp.d).length)))), (54, (.d (.int .i64 (i))))], [], 0, 74⟩) (fun i => ps.length - i) (0) ?_ ?_ ?_
    · exact Nat.zero_le _
    · conv => whnf
      repeat (first | exact True.intro | (refine Need.mk ?_ ?_; (focus ((first | rfl | assumption | omega | (simp only [List.length_map, List.length_append, List.length_take, List.length_drop, List.length_cons, List.length_nil, List.length_replicate, List.length_set, List.length_reverse, nds_len, numsD_length]; omega) | simp [txs, jn]); done)); conv => whnf) | ((conv => whnf); exact True.intro))
    intro i hi
    have hjl := jn_len (sep := [124]) (by simp) (txs k (ps.take i))
    have htake := txs_take_sz k ps i
    by_cases hlt : i < ps.length
    · obtain ⟨p, hp⟩ : ∃ y, ps[i]? = some y := ⟨ps[i], by simp [hlt]⟩
      obtain ⟨hpl, hcp⟩ := hih p (List.mem_of_getElem? hp) 0 (by omega) (by omega)
      have hbl := bd_len 0 p.kind p.tx
      have hta := txs_take k hp
      by_cases hi0 : i = 0
      · subst hi0
        have e : jn [124] (txs k (ps.take (0 + 1))) = bd 0 p.kind p.tx := by rw [hta, bd_three, hk]; simp [txs, jn]
        conv => whnf
        repeat' (first
    | (refine Br.tt ?_; conv => whnf)
    | (refine Br.ff ?_; conv => whnf)
    | (refine Both.mk ?_ ?_ <;> conv => whnf)
    | (refine Br.not ?_)
    | (refine Need.mk ?_ ?_; (focus ((first | omega | exact ⟨by omega, by omega⟩ | rfl | exact trivial | assumption | (simp only [List.length_map, List.length_append, List.length_take, List.length_drop, List.length_cons, List.length_nil, List.length_replicate, List.length_set, List.length_reverse, nds_len, numsD_length]; omega) | (simp only [List.length_map, List.length_append, List.length_take, List.length_drop, List.length_cons, List.length_nil, List.length_replicate, List.length_set, List.length_reverse, nds_len, numsD_length]; exact ⟨by omega, by omega⟩) | exact nds_each | (refine map_each ?_; intro x; rfl) | (refine first_map ?_; intro x; rfl) | exact first_nds | simp | (simp; omega)); done)); conv => whnf)
    | (refine Br.t (by assumption) ?_; conv => whnf)
    | (refine Br.f (by assumption) ?_; conv => whnf)
    | (refine Br.self ?_; conv => whnf)
    | (refine Br.decT (by assumption) ?_; conv => whnf)
    | (refine Br.decF (by assumption) ?_; conv => whnf)
    | (refine Br.eqT (by assumption) ?_; conv => whnf)
    | (refine Br.eqF (by assumption) ?_; conv => whnf)
    | (refine Br.dec (fun hc => ?_) (fun hc => ?_) <;> (try simp only [List.length_map, List.length_append, List.length_take, List.length_drop, List.length_cons, List.length_nil, List.length_replicate, List.length_set, List.length_reverse, nds_len, numsD_length] at hc) <;> first | (exfalso; omega) | exact absurd trivial hc | exact absurd rfl hc | conv => whnf)
    | (refine Br.eq (fun hc => ?_) (fun hc => ?_) <;> first | (exfalso; omega) | exact absurd trivial hc | exact absurd rfl hc | conv => whnf)
    | (refine Br.ne (fun hc => ?_) (fun hc => ?_) <;> first | (exfalso; omega) | exact absurd trivial hc | exact absurd rfl hc | conv => whnf)
    | (with_reducible refine Br.and ?_)
    | (with_reducible refine Br.or ?_)
    | (refine Br.any (fun hc => ?_) (fun hc => ?_) <;> conv => whnf)
    | (refine Fit.inl ?_ ?_; (focus ((first | omega | exact ⟨by omega, by omega⟩ | rfl | exact trivial | assumption | (simp only [List.length_map, List.length_append, List.length_take, List.length_drop, List.length_cons, List.length_nil, List.length_replicate, List.length_set, List.length_reverse, nds_len, numsD_length]; omega) | (simp only [List.length_map, List.length_append, List.length_take, List.length_drop, List.length_cons, List.length_nil, List.length_replicate, List.length_set, List.length_reverse, nds_len, numsD_length]; exact ⟨by omega, by omega⟩) | exact nds_each | (refine map_each ?_; intro x; rfl) | (refine first_map ?_; intro x; rfl) | exact first_nds | simp | (simp; omega)); done)); conv => whnf)
    | (refine Each.mapAt (by assumption) ?_; conv => whnf)
    | (refine Each.ndsAt (by assumption) ?_; conv => whnf)
    | (refine Each.at (by assumption) ?_; conv => whnf)
    | (refine Each.map (fun x hx => ?_); (try simp only [Int.toNat_natCast, Int.toNat_zero, Int.toNat_one, Int.toNat_natCast_add_one] at hx); conv => whnf)
    | (refine Each.nds (fun a b c ps hx => ?_); (try simp only [Int.toNat_natCast, Int.toNat_zero, Int.toNat_one, Int.toNat_natCast_add_one] at hx); conv => whnf)
    | (refine Each.rep ?_; conv => whnf)
    | (refine Each.drop ?_)
    | (refine Each.take (fun hi => ?_))
    | (refine Each.any (fun x hx => ?_); (try simp only [Int.toNat_natCast, Int.toNat_zero, Int.toNat_one, Int.toNat_natCast_add_one] at hx); conv => whnf)
    | (refine NilB.any (fun hn => ?_) ?_ <;> conv => whnf)
    | (refine CallWP.mono (hcp) ?_; rintro r h ⟨rfl, rfl⟩; conv => whnf)
    | (refine ⟨_, bytesOfD_nums _, ?_⟩; conv => whnf)
    | (refine WP.sch (id := 3) tabOK hmix (.mob 0 (.mob 6 (.alt [(1, .mob 2 (.alt [(3, .alt [(4, .alt [(5, .alt [(7, .mob 8 (.mob 9 (.alt [(10, .mob 11 (.mob 12 (.done)))])))]), (7, .mob 8 (.alt [(5, .mob 9 (.alt [(10, .mob 11 (.mob 12 (.done)))]))]))]), (5, .alt [(4, .alt [(7, .mob 8 (.mob 9 (.alt [(10, .mob 11 (.mob 12 (.done)))])))]), (7, .mob 8 (.mob 9 (.alt [(4, .alt [(10, .mob 11 (.mob 12 (.done)))]), (10, .alt [(4, .mob 11 (.mob 12 (.done)))])])))]), (7, .mob 8 (.alt [(4, .alt [(5, .mob 9 (.alt [(10, .mob 11 (.mob 12 (.done)))]))]), (5, .mob 9 (.alt [(4, .alt [(10, .mob 11 (.mob 12 (.done)))]), (10, .alt [(4, .mob 11 (.mob 12 (.done)))])]))]))]), (5, .alt [(3, .alt [(4, .alt [(7, .mob 8 (.mob 9 (.alt [(10, .mob 11 (.mob 12 (.done)))])))]), (7, .mob 8 (.mob 9 (.alt [(4, .alt [(10, .mob 11 (.mob 12 (.done)))]), (10, .alt [(4, .mob 11 (.mob 12 (.done)))])])))]), (7, .mob 8 (.mob 9 (.alt [(3, .alt [(4, .alt [(10, .mob 11 (.mob 12 (.done)))]), (10, .alt [(4, .mob 11 (.mob 12 (.done)))])]), (10, .alt [(3, .alt [(4, .mob 11 (.mob 12 (.done)))])])])))]), (7, .mob 8 (.alt [(3, .alt [(4, .alt [(5, .mob 9 (.alt [(10, .mob 11 (.mob 12 (.done)))]))]), (5, .mob 9 (.alt [(4, .alt [(10, .mob 11 (.mob 12 (.done)))]), (10, .alt [(4, .mob 11 (.mob 12 (.done)))])]))]), (5, .mob 9 (.alt [(3, .alt [(4, .alt [(10, .mob 11 (.mob 12 (.done)))]), (10, .alt [(4, .mob 11 (.mob 12 (.done)))])]), (10, .alt [(3, .alt [(4, .mob 11 (.mob 12 (.done)))])])]))]))])), (5, .alt [(1, .mob 2 (.alt [(3, .alt [(4, .alt [(7, .mob 8 (.mob 9 (.alt [(10, .mob 11 (.mob 12 (.done)))])))]), (7, .mob 8 (.mob 9 (.alt [(4, .alt [(10, .mob 11 (.mob 12 (.done)))]), (10, .alt [(4, .mob 11 (.mob 12 (.done)))])])))]), (7, .mob 8 (.mob 9 (.alt [(3, .alt [(4, .alt [(10, .mob 11 (.mob 12 (.done)))]), (10, .alt [(4, .mob 11 (.mob 12 (.done)))])]), (10, .alt [(3, .alt [(4, .mob 11 (.mob 12 (.done)))])])])))])), (7, .mob 8 (.mob 9 (.alt [(1, .mob 2 (.alt [(3, .alt [(4, .alt [(10, .mob 11 (.mob 12 (.done)))]), (10, .alt [(4, .mob 11 (.mob 12 (.done)))])]), (10, .alt [(3, .alt [(4, .mob 11 (.mob 12 (.done)))])])])), (10, .alt [(1, .mob 2 (.alt [(3, .alt [(4, .mob 11 (.mob 12 (.done)))])]))])])))]), (7, .mob 8 (.alt [(1, .mob 2 (.alt [(3, .alt [(4, .alt [(5, .mob 9 (.alt [(10, .mob 11 (.mob 12 (.done)))]))]), (5, .mob 9 (.alt [(4, .alt [(10, .mob 11 (.mob 12 (.done)))]), (10, .alt [(4, .mob 11 (.mob 12 (.done)))])]))]), (5, .mob 9 (.alt [(3, .alt [(4, .alt [(10, .mob 11 (.mob 12 (.done)))]), (10, .alt [(4, .mob 11 (.mob 12 (.done)))])]), (10, .alt [(3, .alt [(4, .mob 11 (.mob 12 (.done)))])])]))])), (5, .mob 9 (.alt [(1, .mob 2 (.alt [(3, .alt [(4, .alt [(10, .mob 11 (.mob 12 (.done)))]), (10, .alt [(4, .mob 11 (.mob 12 (.done)))])]), (10, .alt [(3, .alt [(4, .mob 11 (.mob 12 (.done)))])])])), (10, .alt [(1, .mob 2 (.alt [(3, .alt [(4, .mob 11 (.mob 12 (.done)))])]))])]))]))]))) (by kernel_rfl) ?_; conv => whnf)
    | exact ⟨rfl, rfl⟩
    | (refine Fin.bool ?_ rfl)
    | (refine Fin.int ?_ rfl)
    | (refine Fin.str ?_ rfl)
    | (refine Fin.sl ?_ rfl)
    | exact trivial)
        all_goals
          refine ⟨0 + 1, by omega, by dsimp only; omega, ?_⟩
          conv => whnf
          repeat (first | exact True.intro | (refine Need.mk ?_ ?_; (focus ((first | rfl | assumption | omega | (simp only [List.length_map, List.length_append, List.length_take, List.length_drop, List.length_cons, List.length_nil, List.length_replicate, List.length_set, List.length_reverse, nds_len, numsD_length]; omega) | simp [e, txs, jn]); done)); conv => whnf) | ((conv => whnf); exact True.intro))
      · have e : jn [124] (txs k (ps.take (i + 1))) = jn [124] (txs k (ps.take i)) ++ [124] ++ bd 0 p.kind p.tx := by
          rw [hta, jn_bar_snoc _ _ (fun h => by have := congrArg List.length h; rw [txs_len, List.length_take, List.length_nil] at this; omega), bd_three, hk]
        conv => whnf
        repeat' (first
    | (refine Br.tt ?_; conv => whnf)
    | (refine Br.ff ?_; conv => whnf)
    | (refine Both.mk ?_ ?_ <;> conv => whnf)
    | (refine Br.not ?_)
    | (refine Need.mk ?_ ?_; (focus ((first | omega | exact ⟨by omega, by omega⟩ | rfl | exact trivial | assumption | (simp only [List.length_map, List.length_append, List.length_take, List.length_drop, List.length_cons, List.length_nil, List.length_replicate, List.length_set, List.length_reverse, nds_len, numsD_length]; omega) | (simp only [List.length_map, List.length_append, List.length_take, List.length_drop, List.length_cons, List.length_nil, List.length_replicate, List.length_set, List.length_reverse, nds_len, numsD_length]; exact ⟨by omega, by omega⟩) | exact nds_each | (refine map_each ?_; intro x; rfl) | (refine first_map ?_; intro x; rfl) | exact first_nds | simp | (simp; omega)); done)); conv => whnf)
    | (refine Br.t (by assumption) ?_; conv => whnf)
    | (refine Br.f (by assumption) ?_; conv => whnf)
    | (refine Br.self ?_; conv => whnf)
    | (refine Br.decT (by assumption) ?_; conv => whnf)
    | (refine Br.decF (by assumption) ?_; conv => whnf)
    | (refine Br.eqT (by assumption) ?_; conv => whnf)
    | (refine Br.eqF (by assumption) ?_; conv => whnf)
    | (refine Br.dec (fun hc => ?_) (fun hc => ?_) <;> (try simp only [List.length_map, List.length_append, List.length_take, List.length_drop, List.length_cons, List.length_nil, List.length_replicate, List.length_set, List.length_reverse, nds_len, numsD_length] at hc) <;> first | (exfalso; omega) | exact absurd trivial hc | exact absurd rfl hc | conv => whnf)
    | (refine Br.eq (fun hc => ?_) (fun hc => ?_) <;> first | (exfalso; omega) | exact absurd trivial hc | exact absurd rfl hc | conv => whnf)
    | (refine Br.ne (fun hc => ?_) (fun hc => ?_) <;> first | (exfalso; omega) | exact absurd trivial hc | exact absurd rfl hc | conv => whnf)
    | (with_reducible refine Br.and ?_)
    | (with_reducible refine Br.or ?_)
    | (refine Br.any (fun hc => ?_) (fun hc => ?_) <;> conv => whnf)
    | (refine Fit.inl ?_ ?_; (focus ((first | omega | exact ⟨by omega, by omega⟩ | rfl | exact trivial | assumption | (simp only [List.length_map, List.length_append, List.length_take, List.length_drop, List.length_cons, List.length_nil, List.length_replicate, List.length_set, List.length_reverse, nds_len, numsD_length]; omega) | (simp only [List.length_map, List.length_append, List.length_take, List.length_drop, List.length_cons, List.length_nil, List.length_replicate, List.length_set, List.length_reverse, nds_len, numsD_length]; exact ⟨by omega, by omega⟩) | exact nds_each | (refine map_each ?_; intro x; rfl) | (refine first_map ?_; intro x; rfl) | exact first_nds | simp | (simp; omega)); done)); conv => whnf)
    | (refine Each.mapAt (by assumption) ?_; conv => whnf)
    | (refine Each.ndsAt (by assumption) ?_; conv => whnf)
    | (refine Each.at (by assumption) ?_; conv => whnf)
    | (refine Each.map (fun x hx => ?_); (try simp only [Int.toNat_natCast, Int.toNat_zero, Int.toNat_one, Int.toNat_natCast_add_one] at hx); conv => whnf)
    | (refine Each.nds (fun a b c ps hx => ?_); (try simp only [Int.toNat_natCast, Int.toNat_zero, Int.toNat_one, Int.toNat_natCast_add_one] at hx); conv => whnf)
    | (refine Each.rep ?_; conv => whnf)
    | (refine Each.drop ?_)
    | (refine Each.take (fun hi => ?_))
    | (refine Each.any (fun x hx => ?_); (try simp only [Int.toNat_natCast, Int.toNat_zero, Int.toNat_one, Int.toNat_natCast_add_one] at hx); conv => whnf)
    | (refine NilB.any (fun hn => ?_) ?_ <;> conv => whnf)
    | (refine CallWP.mono (hcp) ?_; rintro r h ⟨rfl, rfl⟩; conv => whnf)
    | (refine ⟨_, bytesOfD_nums _, ?_⟩; conv => whnf)
    | (refine WP.sch (id := 3) tabOK hmix (.mob 0 (.mob 6 (.alt [(1, .mob 2 (.alt [(3, .alt [(4, .alt [(5, .alt [(7, .mob 8 (.mob 9 (.alt [(10, .mob 11 (.mob 12 (.done)))])))]), (7, .mob 8 (.alt [(5, .mob 9 (.alt [(10, .mob 11 (.mob 12 (.done)))]))]))]), (5, .alt [(4, .alt [(7, .mob 8 (.mob 9 (.alt [(10, .mob 11 (.mob 12 (.done)))])))]), (7, .mob 8 (.mob 9 (.alt [(4, .alt [(10, .mob 11 (.mob 12 (.done)))]), (10, .alt [(4, .mob 11 (.mob 12 (.done)))])])))]), (7, .mob 8 (.alt [(4, .alt [(5, .mob 9 (.alt [(10, .mob 11 (.mob 12 (.done)))]))]), (5, .mob 9 (.alt [(4, .alt [(10, .mob 11 (.mob 12 (.done)))]), (10, .alt [(4, .mob 11 (.mob 12 (.done)))])]))]))]), (5, .alt [(3, .alt [(4, .alt [(7, .mob 8 (.mob 9 (.alt [(10, .mob 11 (.mob 12 (.done)))])))]), (7, .mob 8 (.mob 9 (.alt [(4, .alt [(10, .mob 11 (.mob 12 (.done)))]), (10, .alt [(4, .mob 11 (.mob 12 (.done)))])])))]), (7, .mob 8 (.mob 9 (.alt [(3, .alt [(4, .alt [(10, .mob 11 (.mob 12 (.done)))]), (10, .alt [(4, .mob 11 (.mob 12 (.done)))])]), (10, .alt [(3, .alt [(4, .mob 11 (.mob 12 (.done)))])])])))]), (7, .mob 8 (.alt [(3, .alt [(4, .alt [(5, .mob 9 (.alt [(10, .mob 11 (.mob 12 (.done)))]))]), (5, .mob 9 (.alt [(4, .alt [(10, .mob 11 (.mob 12 (.done)))]), (10, .alt [(4, .mob 11 (.mob 12 (.done)))])]))]), (5, .mob 9 (.alt [(3, .alt [(4, .alt [(10, .mob 11 (.mob 12 (.done)))]), (10, .alt [(4, .mob 11 (.mob 12 (.done)))])]), (10, .alt [(3, .alt [(4, .mob 11 (.mob 12 (.done)))])])]))]))])), (5, .alt [(1, .mob 2 (.alt [(3, .alt [(4, .alt [(7, .mob 8 (.mob 9 (.alt [(10, .mob 11 (.mob 12 (.done)))])))]), (7, .mob 8 (.mob 9 (.alt [(4, .alt [(10, .mob 11 (.mob 12 (.done)))]), (10, .alt [(4, .mob 11 (.mob 12 (.done)))])])))]), (7, .mob 8 (.mob 9 (.alt [(3, .alt [(4, .alt [(10, .mob 11 (.mob 12 (.done)))]), (10, .alt [(4, .mob 11 (.mob 12 (.done)))])]), (10, .alt [(3, .alt [(4, .mob 11 (.mob 12 (.done)))])])])))])), (7, .mob 8 (.mob 9 (.alt [(1, .mob 2 (.alt [(3, .alt [(4, .alt [(10, .mob 11 (.mob 12 (.done)))]), (10, .alt [(4, .mob 11 (.mob 12 (.done)))])]), (10, .alt [(3, .alt [(4, .mob 11 (.mob 12 (.done)))])])])), (10, .alt [(1, .mob 2 (.alt [(3, .alt [(4, .mob 11 (.mob 12 (.done)))])]))])])))]), (7, .mob 8 (.alt [(1, .mob 2 (.alt [(3, .alt [(4, .alt [(5, .mob 9 (.alt [(10, .mob 11 (.mob 12 (.done)))]))]), (5, .mob 9 (.alt [(4, .alt [(10, .mob 11 (.mob 12 (.done)))]), (10, .alt [(4, .mob 11 (.mob 12 (.done)))])]))]), (5, .mob 9 (.alt [(3, .alt [(4, .alt [(10, .mob 11 (.mob 12 (.done)))]), (10, .alt [(4, .mob 11 (.mob 12 (.done)))])]), (10, .alt [(3, .alt [(4, .mob 11 (.mob 12 (.done)))])])]))])), (5, .mob 9 (.alt [(1, .mob 2 (.alt [(3, .alt [(4, .alt [(10, .mob 11 (.mob 12 (.done)))]), (10, .alt [(4, .mob 11 (.mob 12 (.done)))])]), (10, .alt [(3, .alt [(4, .mob 11 (.mob 12 (.done)))])])])), (10, .alt [(1, .mob 2 (.alt [(3, .alt [(4, .mob 11 (.mob 12 (.done)))])]))])]))]))]))) (by kernel_rfl) ?_; conv => whnf)
    | exact ⟨rfl, rfl⟩
    | (refine Fin.bool ?_ rfl)
    | (refine Fin.int ?_ rfl)
    | (refine Fin.str ?_ rfl)
    | (refine Fin.sl ?_ rfl)
    | exact trivial)
        all_goals
          refine ⟨i + 1, by omega, by dsimp only; omega, ?_⟩
          conv => whnf
          repeat (first | exact True.intro | (refine Need.mk ?_ ?_; (focus ((first | rfl | assumption | omega | (simp only [List.length_map, List.length_append, List.length_take, List.length_drop, List.length_cons, List.length_nil, List.length_replicate, List.length_set, List.length_reverse, nds_len, numsD_length]; omega) | simp [e]); done)); conv => whnf) | ((conv => whnf); exact True.intro))
    have e : ps.take i = ps := List.take_of_length_le (by omega)
    rw [e] at hjl ⊢
    by_cases hb3 : b = 0
    · have e2 : bd b k (jn [124] (txs k ps)) = jn [124] (txs k ps) := by rw [bd, if_neg (by omega)]
      rw [e2]
      conv => whnf
      repeat' (first
    | (refine Br.tt ?_; conv => whnf)
    | (refine Br.ff ?_; conv => whnf)
    | (refine Both.mk ?_ ?_ <;> conv => whnf)
    | (refine Br.not ?_)
    | (refine Need.mk ?_ ?_; (focus ((first | omega | exact ⟨by omega, by omega⟩ | rfl | exact trivial | assumption | (simp only [List.length_map, List.length_append, List.length_take, List.length_drop, List.length_cons, List.length_nil, List.length_replicate, List.length_set, List.length_reverse, nds_len, numsD_length]; omega) | (simp only [List.length_map, List.length_append, List.length_take, List.length_drop, List.length_cons, List.length_nil, List.length_replicate, List.length_set, List.length_reverse, nds_len, numsD_length]; exact ⟨by omega, by omega⟩) | exact nds_each | (refine map_each ?_; intro x; rfl) | (refine first_map ?_; intro x; rfl) | exact first_nds | simp | (simp; omega)); done)); conv => whnf)
    | (refine Br.t (by assumption) ?_; conv => whnf)
    | (refine Br.f (by assumption) ?_; conv => whnf)
    | (refine Br.self ?_; conv => whnf)
    | (refine Br.decT (by assumption) ?_; conv => whnf)
    | (refine Br.decF (by assumption) ?_; conv => whnf)
    | (refine Br.eqT (by assumption) ?_; conv => whnf)
    | (refine Br.eqF (by assumption) ?_; conv => whnf)
    | (refine Br.dec (fun hc => ?_) (fun hc => ?_) <;> (try simp only [List.length_map, List.length_append, List.length_take, List.length_drop, List.length_cons, List.length_nil, List.length_replicate, List.length_set, List.length_reverse, nds_len, numsD_length] at hc) <;> first | (exfalso; omega) | exact absurd trivial hc | exact absurd rfl hc | conv => whnf)
    | (refine Br.eq (fun hc => ?_) (fun hc => ?_) <;> first | (exfalso; omega) | exact absurd trivial hc | exact absurd rfl hc | conv => whnf)
    | (refine Br.ne (fun hc => ?_) (fun hc => ?_) <;> first | (exfalso; omega) | exact absurd trivial hc | exact absurd rfl hc | conv => whnf)
    | (with_reducible refine Br.and ?_)
    | (with_reducible refine Br.or ?_)
    | (refine Br.any (fun hc => ?_) (fun hc => ?_) <;> conv => whnf)
    | (refine Fit.inl ?_ ?_; (focus ((first | omega | exact ⟨by omega, by omega⟩ | rfl | exact trivial | assumption | (simp only [List.length_map, List.length_append, List.length_take, List.length_drop, List.length_cons, List.length_nil, List.length_replicate, List.length_set, List.length_reverse, nds_len, numsD_length]; omega) | (simp only [List.length_map, List.length_append, List.length_take, List.length_drop, List.length_cons, List.length_nil, List.length_replicate, List.length_set, List.length_reverse, nds_len, numsD_length]; exact ⟨by omega, by omega⟩) | exact nds_each | (refine map_each ?_; intro x; rfl) | (refine first_map ?_; intro x; rfl) | exact first_nds | simp | (simp; omega)); done)); conv => whnf)
    | (refine Each.mapAt (by assumption) ?_; conv => whnf)
    | (refine Each.ndsAt (by assumption) ?_; conv => whnf)
    | (refine Each.at (by assumption) ?_; conv => whnf)
    | (refine Each.map (fun x hx => ?_); (try simp only [Int.toNat_natCast, Int.toNat_zero, Int.toNat_one, Int.toNat_natCast_add_one] at hx); conv => whnf)
    | (refine Each.nds (fun a b c ps hx => ?_); (try simp only [Int.toNat_natCast, Int.toNat_zero, Int.toNat_one, Int.toNat_natCast_add_one] at hx); conv => whnf)
    | (refine Each.rep ?_; conv => whnf)
    | (refine Each.drop ?_)
    | (refine Each.take (fun hi => ?_))
    | (refine Each.any (fun x hx => ?_); (try simp only [Int.toNat_natCast, Int.toNat_zero, Int.toNat_one, Int.toNat_natCast_add_one] at hx); conv => whnf)
    | (refine NilB.any (fun hn => ?_) ?_ <;> conv => whnf)
    | (refine ⟨_, bytesOfD_nums _, ?_⟩; conv => whnf)
    | (refine WP.sch (id := 3) tabOK hmix (.mob 0 (.mob 6 (.alt [(1, .mob 2 (.alt [(3, .alt [(4, .alt [(5, .alt [(7, .mob 8 (.mob 9 (.alt [(10, .mob 11 (.mob 12 (.done)))])))]), (7, .mob 8 (.alt [(5, .mob 9 (.alt [(10, .mob 11 (.mob 12 (.done)))]))]))]), (5, .alt [(4, .alt [(7, .mob 8 (.mob 9 (.alt [(10, .mob 11 (.mob 12 (.done)))])))]), (7, .mob 8 (.mob 9 (.alt [(4, .alt [(10, .mob 11 (.mob 12 (.done)))]), (10, .alt [(4, .mob 11 (.mob 12 (.done)))])])))]), (7, .mob 8 (.alt [(4, .alt [(5, .mob 9 (.alt [(10, .mob 11 (.mob 12 (.done)))]))]), (5, .mob 9 (.alt [(4, .alt [(10, .mob 11 (.mob 12 (.done)))]), (10, .alt [(4, .mob 11 (.mob 12 (.done)))])]))]))]), (5, .alt [(3, .alt [(4, .alt [(7, .mob 8 (.mob 9 (.alt [(10, .mob 11 (.mob 12 (.done)))])))]), (7, .mob 8 (.mob 9 (.alt [(4, .alt [(10, .mob 11 (.mob 12 (.done)))]), (10, .alt [(4, .mob 11 (.mob 12 (.done)))])])))]), (7, .mob 8 (.mob 9 (.alt [(3, .alt [(4, .alt [(10, .mob 11 (.mob 12 (.done)))]), (10, .alt [(4, .mob 11 (.mob 12 (.done)))])]), (10, .alt [(3, .alt [(4, .mob 11 (.mob 12 (.done)))])])])))]), (7, .mob 8 (.alt [(3, .alt [(4, .alt [(5, .mob 9 (.alt [(10, .mob 11 (.mob 12 (.done)))]))]), (5, .mob 9 (.alt [(4, .alt [(10, .mob 11 (.mob 12 (.done)))]), (10, .alt [(4, .mob 11 (.mob 12 (.done)))])]))]), (5, .mob 9 (.alt [(3, .alt [(4, .alt [(10, .mob 11 (.mob 12 (.done)))]), (10, .alt [(4, .mob 11 (.mob 12 (.done)))])]), (10, .alt [(3, .alt [(4, .mob 11 (.mob 12 (.done)))])])]))]))])), (5, .alt [(1, .mob 2 (.alt [(3, .alt [(4, .alt [(7, .mob 8 (.mob 9 (.alt [(10, .mob 11 (.mob 12 (.done)))])))]), (7, .mob 8 (.mob 9 (.alt [(4, .alt [(10, .mob 11 (.mob 12 (.done)))]), (10, .alt [(4, .mob 11 (.mob 12 (.done)))])])))]), (7, .mob 8 (.mob 9 (.alt [(3, .alt [(4, .alt [(10, .mob 11 (.mob 12 (.done)))]), (10, .alt [(4, .mob 11 (.mob 12 (.done)))])]), (10, .alt [(3, .alt [(4, .mob 11 (.mob 12 (.done)))])])])))])), (7, .mob 8 (.mob 9 (.alt [(1, .mob 2 (.alt [(3, .alt [(4, .alt [(10, .mob 11 (.mob 12 (.done)))]), (10, .alt [(4, .mob 11 (.mob 12 (.done)))])]), (10, .alt [(3, .alt [(4, .mob 11 (.mob 12 (.done)))])])])), (10, .alt [(1, .mob 2 (.alt [(3, .alt [(4, .mob 11 (.mob 12 (.done)))])]))])])))]), (7, .mob 8 (.alt [(1, .mob 2 (.alt [(3, .alt [(4, .alt [(5, .mob 9 (.alt [(10, .mob 11 (.mob 12 (.done)))]))]), (5, .mob 9 (.alt [(4, .alt [(10, .mob 11 (.mob 12 (.done)))]), (10, .alt [(4, .mob 11 (.mob 12 (.done)))])]))]), (5, .mob 9 (.alt [(3, .alt [(4, .alt [(10, .mob 11 (.mob 12 (.done)))]), (10, .alt [(4, .mob 11 (.mob 12 (.done)))])]), (10, .alt [(3, .alt [(4, .mob 11 (.mob 12 (.done)))])])]))])), (5, .mob 9 (.alt [(1, .mob 2 (.alt [(3, .alt [(4, .alt [(10, .mob 11 (.mob 12 (.done)))]), (10, .alt [(4, .mob 11 (.mob 12 (.done)))])]), (10, .alt [(3, .alt [(4, .mob 11 (.mob 12 (.done)))])])])), (10, .alt [(1, .mob 2 (.alt [(3, .alt [(4, .mob 11 (.mob 12 (.done)))])]))])]))]))]))) (by kernel_rfl) ?_; conv => whnf)
    | exact ⟨rfl, rfl⟩
    | (refine Fin.bool ?_ rfl)
    | (refine Fin.int ?_ rfl)
    | (refine Fin.str ?_ rfl)
    | (refine Fin.sl ?_ rfl)
    | exact trivial)
    · have e2 : bd b k (jn [124] (txs k ps)) = [40] ++ jn [124] (txs k ps) ++ [41] := by rw [bd, if_pos (by omega)]
      rw [e2]
      conv => whnf
      repeat' (first
    | (refine Br.tt ?_; conv => whnf)
    | (refine Br.ff ?_; conv => whnf)
    | (refine Both.mk ?_ ?_ <;> conv => whnf)
    | (refine Br.not ?_)
    | (refine Need.mk ?_ ?_; (focus ((first | omega | exact ⟨by omega, by omega⟩ | rfl | exact trivial | assumption | (simp only [List.length_map, List.length_append, List.length_take, List.length_drop, List.length_cons, List.length_nil, List.length_replicate, List.length_set, List.length_reverse, nds_len, numsD_length]; omega) | (simp only [List.length_map, List.length_append, List.length_take, List.length_drop, List.length_cons, List.length_nil, List.length_replicate, List.length_set, List.length_reverse, nds_len, numsD_length]; exact ⟨by omega, by omega⟩) | exact nds_each | (refine map_each ?_; intro x; rfl) | (refine first_map ?_; intro x; rfl) | exact first_nds | simp | (simp; omega)); done)); conv => whnf)
    | (refine Br.t (by assumption) ?_; conv => whnf)
    | (refine Br.f (by assumption) ?_; conv => whnf)
    | (refine Br.self ?_; conv => whnf)
    | (refine Br.decT (by assumption) ?_; conv => whnf)
    | (refine Br.decF (by assumption) ?_; conv => whnf)
    | (refine Br.eqT (by assumption) ?_; conv => whnf)
    | (refine Br.eqF (by assumption) ?_; conv => whnf)
    | (refine Br.dec (fun hc => ?_) (fun hc => ?_) <;> (try simp only [List.length_map, List.length_append, List.length_take, List.length_drop, List.length_cons, List.length_nil, List.length_replicate, List.length_set, List.length_reverse, nds_len, numsD_length] at hc) <;> first | (exfalso; omega) | exact absurd trivial hc | exact absurd rfl hc | conv => whnf)
    | (refine Br.eq (fun hc => ?_) (fun hc => ?_) <;> first | (exfalso; omega) | exact absurd trivial hc | exact absurd rfl hc | conv => whnf)
    | (refine Br.ne (fun hc => ?_) (fun hc => ?_) <;> first | (exfalso; omega) | exact absurd trivial hc | exact absurd rfl hc | conv => whnf)
    | (with_reducible refine Br.and ?_)
    | (with_reducible refine Br.or ?_)
    | (refine Br.any (fun hc => ?_) (fun hc => ?_) <;> conv => whnf)
    | (refine Fit.inl ?_ ?_; (focus ((first | omega | exact ⟨by omega, by omega⟩ | rfl | exact trivial | assumption | (simp only [List.length_map, List.length_append, List.length_take, List.length_drop, List.length_cons, List.length_nil, List.length_replicate, List.length_set, List.length_reverse, nds_len, numsD_length]; omega) | (simp only [List.length_map, List.length_append, List.length_take, List.length_drop, List.length_cons, List.length_nil, List.length_replicate, List.length_set, List.length_reverse, nds_len, numsD_length]; exact ⟨by omega, by omega⟩) | exact nds_each | (refine map_each ?_; intro x; rfl) | (refine first_map ?_; intro x; rfl) | exact first_nds | simp | (simp; omega)); done)); conv => whnf)
    | (refine Each.mapAt (by assumption) ?_; conv => whnf)
    | (refine Each.ndsAt (by assumption) ?_; conv => whnf)
    | (refine Each.at (by assumption) ?_; conv => whnf)
    | (refine Each.map (fun x hx => ?_); (try simp only [Int.toNat_natCast, Int.toNat_zero, Int.toNat_one, Int.toNat_natCast_add_one] at hx); conv => whnf)
    | (refine Each.nds (fun a b c ps hx => ?_); (try simp only [Int.toNat_natCast, Int.toNat_zero, Int.toNat_one, Int.toNat_natCast_add_one] at hx); conv => whnf)
    | (refine Each.rep ?_; conv => whnf)
    | (refine Each.drop ?_)
    | (refine Each.take (fun hi => ?_))
    | (refine Each.any (fun x hx => ?_); (try simp only [Int.toNat_natCast, Int.toNat_zero, Int.toNat_one, Int.toNat_natCast_add_one] at hx); conv => whnf)
    | (refine NilB.any (fun hn => ?_) ?_ <;> conv => whnf)
    | (refine ⟨_, bytesOfD_nums _, ?_⟩; conv => whnf)
    | (refine WP.sch (id := 3) tabOK hmix (.mob 0 (.mob 6 (.alt [(1, .mob 2 (.alt [(3, .alt [(4, .alt [(5, .alt [(7, .mob 8 (.mob 9 (.alt [(10, .mob 11 (.mob 12 (.done)))])))]), (7, .mob 8 (.alt [(5, .mob 9 (.alt [(10, .mob 11 (.mob 12 (.done)))]))]))]), (5, .alt [(4, .alt [(7, .mob 8 (.mob 9 (.alt [(10, .mob 11 (.mob 12 (.done)))])))]), (7, .mob 8 (.mob 9 (.alt [(4, .alt [(10, .mob 11 (.mob 12 (.done)))]), (10, .alt [(4, .mob 11 (.mob 12 (.done)))])])))]), (7, .mob 8 (.alt [(4, .alt [(5, .mob 9 (.alt [(10, .mob 11 (.mob 12 (.done)))]))]), (5, .mob 9 (.alt [(4, .alt [(10, .mob 11 (.mob 12 (.done)))]), (10, .alt [(4, .mob 11 (.mob 12 (.done)))])]))]))]), (5, .alt [(3, .alt [(4, .alt [(7, .mob 8 (.mob 9 (.alt [(10, .mob 11 (.mob 12 (.done)))])))]), (7, .mob 8 (.mob 9 (.alt [(4, .alt [(10, .mob 11 (.mob 12 (.done)))]), (10, .alt [(4, .mob 11 (.mob 12 (.done)))])])))]), (7, .mob 8 (.mob 9 (.alt [(3, .alt [(4, .alt [(10, .mob 11 (.mob 12 (.done)))]), (10, .alt [(4, .mob 11 (.mob 12 (.done)))])]), (10, .alt [(3, .alt [(4, .mob 11 (.mob 12 (.done)))])])])))]), (7, .mob 8 (.alt [(3, .alt [(4, .alt [(5, .mob 9 (.alt [(10, .mob 11 (.mob 12 (.done)))]))]), (5, .mob 9 (.alt [(4, .alt [(10, .mob 11 (.mob 12 (.done)))]), (10, .alt [(4, .mob 11 (.mob 12 (.done)))])]))]), (5, .mob 9 (.alt [(3, .alt [(4, .alt [(10, .mob 11 (.mob 12 (.done)))]), (10, .alt [(4, .mob 11 (.mob 12 (.done)))])]), (10, .alt [(3, .alt [(4, .mob 11 (.mob 12 (.done)))])])]))]))])), (5, .alt [(1, .mob 2 (.alt [(3, .alt [(4, .alt [(7, .mob 8 (.mob 9 (.alt [(10, .mob 11 (.mob 12 (.done)))])))]), (7, .mob 8 (.mob 9 (.alt [(4, .alt [(10, .mob 11 (.mob 12 (.done)))]), (10, .alt [(4, .mob 11 (.mob 12 (.done)))])])))]), (7, .mob 8 (.mob 9 (.alt [(3, .alt [(4, .alt [(10, .mob 11 (.mob 12 (.done)))]), (10, .alt [(4, .mob 11 (.mob 12 (.done)))])]), (10, .alt [(3, .alt [(4, .mob 11 (.mob 12 (.done)))])])])))])), (7, .mob 8 (.mob 9 (.alt [(1, .mob 2 (.alt [(3, .alt [(4, .alt [(10, .mob 11 (.mob 12 (.done)))]), (10, .alt [(4, .mob 11 (.mob 12 (.done)))])]), (10, .alt [(3, .alt [(4, .mob 11 (.mob 12 (.done)))])])])), (10, .alt [(1, .mob 2 (.alt [(3, .alt [(4, .mob 11 (.mob 12 (.done)))])]))])])))]), (7, .mob 8 (.alt [(1, .mob 2 (.alt [(3, .alt [(4, .alt [(5, .mob 9 (.alt [(10, .mob 11 (.mob 12 (.done)))]))]), (5, .mob 9 (.alt [(4, .alt [(10, .mob 11 (.mob 12 (.done)))]), (10, .alt [(4, .mob 11 (.mob 12 (.done)))])]))]), (5, .mob 9 (.alt [(3, .alt [(4, .alt [(10, .mob 11 (.mob 12 (.done)))]), (10, .alt [(4, .mob 11 (.mob 12 (.done)))])]), (10, .alt [(3, .alt [(4, .mob 11 (.mob 12 (.done)))])])]))])), (5, .mob 9 (.alt [(1, .mob 2 (.alt [(3, .alt [(4, .alt [(10, .mob 11 (.mob 12 (.done)))]), (10, .alt [(4, .mob 11 (.mob 12 (.done)))])]), (10, .alt [(3, .alt [(4, .mob 11 (.mob 12 (.done)))])])])), (10, .alt [(1, .mob 2 (.alt [(3, .alt [(4, .mob 11 (.mob 12 (.done)))])]))])]))]))]))) (by kernel_rfl) ?_; conv => whnf)
    | exact ⟨rfl, rfl⟩
    | (refine Fin.bool ?_ rfl)
    | (refine Fin.int ?_ rfl)
    | (refine Fin.str ?_ rfl)
    | (refine Fin.sl ?_ rfl)
    | exact trivial)
  · obtain ⟨p, hp⟩ : ∃ y, ps[0]? = some y := ⟨ps[0]'(by have := q4 hk; omega), by simp⟩
    obtain ⟨hpl, hcp⟩ := hih p (List.mem_of_getElem? hp) 2 (by omega) (by omega)
    have hs := txs_at k hp
    have hwl := bd_len 2 p.kind p.tx
    have e : bd b k (put k t (txs k ps)) = put k t (txs k ps) := by rw [bd, if_neg (by omega)]
    rw [e, put4 hk hs]
    rw [bd_four hk] at hcp hwl
    generalize wrap k p.kind p.tx = s at *
    clear hhead
    obtain rfl | rfl | rfl : k = 4 ∨ k = 5 ∨ k = 6 := by omega
    all_goals
      (refine CallWP.go tabOK Try.func53 0 74 rfl rfl rfl rfl ?_; conv => whnf)
      repeat' (first
    | (refine Each.at (rfl : (_ : List (List D))[_]? = some _) ?_; conv => whnf)
    | (refine Br.tt ?_; conv => whnf)
    | (refine Br.ff ?_; conv => whnf)
    | (refine Both.mk ?_ ?_ <;> conv => whnf)
    | (refine Br.not ?_)
    | (refine Need.mk ?_ ?_; (focus ((first | omega | exact ⟨by omega, by omega⟩ | rfl | exact trivial | assumption | (simp only [List.length_map, List.length_append, List.length_take, List.length_drop, List.length_cons, List.length_nil, List.length_replicate, List.length_set, List.length_reverse, nds_len, numsD_length]; omega) | (simp only [List.length_map, List.length_append, List.length_take, List.length_drop, List.length_cons, List.length_nil, List.length_replicate, List.length_set, List.length_reverse, nds_len, numsD_length]; exact ⟨by omega, by omega⟩) | exact nds_each | (refine map_each ?_; intro x; rfl) | (refine first_map ?_; intro x; rfl) | exact first_nds | simp | (simp; omega)); done)); conv => whnf)
    | (refine Br.t (by assumption) ?_; conv => whnf)
    | (refine Br.f (by assumption) ?_; conv => whnf)
    | (refine Br.self ?_; conv => whnf)
    | (refine Br.decT (by assumption) ?_; conv => whnf)
    | (refine Br.decF (by assumption) ?_; conv => whnf)
    | (refine Br.eqT (by assumption) ?_; conv => whnf)
    | (refine Br.eqF (by assumption) ?_; conv => whnf)
    | (refine Br.dec (fun hc => ?_) (fun hc => ?_) <;> (try simp only [List.length_map, List.length_append, List.length_take, List.length_drop, List.length_cons, List.length_nil, List.length_replicate, List.length_set, List.length_reverse, nds_len, numsD_length] at hc) <;> first | (exfalso; omega) | exact absurd trivial hc | exact absurd rfl hc | conv => whnf)
    | (refine Br.eq (fun hc => ?_) (fun hc => ?_) <;> first | (exfalso; omega) | exact absurd trivial hc | exact absurd rfl hc | conv => whnf)
    | (refine Br.ne (fun hc => ?_) (fun hc => ?_) <;> first | (exfalso; omega) | exact absurd trivial hc | exact absurd rfl hc | conv => whnf)
    | (with_reducible refine Br.and ?_)
    | (with_reducible refine Br.or ?_)
    | (refine Br.any (fun hc => ?_) (fun hc => ?_) <;> conv => whnf)
    | (refine Fit.inl ?_ ?_; (focus ((first | omega | exact ⟨by omega, by omega⟩ | rfl | exact trivial | assumption | (simp only [List.length_map, List.length_append, List.length_take, List.length_drop, List.length_cons, List.length_nil, List.length_replicate, List.length_set, List.length_reverse, nds_len, numsD_length]; omega) | (simp only [List.length_map, List.length_append, List.length_take, List.length_drop, List.length_cons, List.length_nil, List.length_replicate, List.length_set, List.length_reverse, nds_len, numsD_length]; exact ⟨by omega, by omega⟩) | exact nds_each | (refine map_each ?_; intro x; rfl) | (refine first_map ?_; intro x; rfl) | exact first_nds | simp | (simp; omega)); done)); conv => whnf)
    | (refine Each.mapAt (by assumption) ?_; conv => whnf)
    | (refine Each.ndsAt (by assumption) ?_; conv => whnf)
    | (refine Each.at (by assumption) ?_; conv => whnf)
    | (refine Each.map (fun x hx => ?_); (try simp only [Int.toNat_natCast, Int.toNat_zero, Int.toNat_one, Int.toNat_natCast_add_one] at hx); conv => whnf)
    | (refine Each.nds (fun a b c ps hx => ?_); (try simp only [Int.toNat_natCast, Int.toNat_zero, Int.toNat_one, Int.toNat_natCast_add_one] at hx); conv => whnf)
    | (refine Each.rep ?_; conv => whnf)
    | (refine Each.drop ?_)
    | (refine Each.take (fun hi => ?_))
    | (refine Each.any (fun x hx => ?_); (try simp only [Int.toNat_natCast, Int.toNat_zero, Int.toNat_one, Int.toNat_natCast_add_one] at hx); conv => whnf)
    | (refine NilB.any (fun hn => ?_) ?_ <;> conv => whnf)
    | (refine CallWP.mono (hcp) ?_; rintro r h ⟨rfl, rfl⟩; conv => whnf)
    | (refine ⟨_, bytesOfD_nums _, ?_⟩; conv => whnf)
    | (refine WP.sch (id := 3) tabOK hmix (.mob 0 (.mob 6 (.alt [(1, .mob 2 (.alt [(3, .alt [(4, .alt [(5, .alt [(7, .mob 8 (.mob 9 (.alt [(10, .mob 11 (.mob 12 (.done)))])))]), (7, .mob 8 (.alt [(5, .mob 9 (.alt [(10, .mob 11 (.mob 12 (.done)))]))]))]), (5, .alt [(4, .alt [(7, .mob 8 (.mob 9 (.alt [(10, .mob 11 (.mob 12 (.done)))])))]), (7, .mob 8 (.mob 9 (.alt [(4, .alt [(10, .mob 11 (.mob 12 (.done)))]), (10, .alt [(4, .mob 11 (.mob 12 (.done)))])])))]), (7, .mob 8 (.alt [(4, .alt [(5, .mob 9 (.alt [(10, .mob 11 (.mob 12 (.done)))]))]), (5, .mob 9 (.alt [(4, .alt [(10, .mob 11 (.mob 12 (.done)))]), (10, .alt [(4, .mob 11 (.mob 12 (.done)))])]))]))]), (5, .alt [(3, .alt [(4, .alt [(7, .mob 8 (.mob 9 (.alt [(10, .mob 11 (.mob 12 (.done)))])))]), (7, .mob 8 (.mob 9 (.alt [(4, .alt [(10, .mob 11 (.mob 12 (.done)))]), (10, .alt [(4, .mob 11 (.mob 12 (.done)))])])))]), (7, .mob 8 (.mob 9 (.alt [(3, .alt [(4, .alt [(10, .mob 11 (.mob 12 (.done)))]), (10, .alt [(4, .mob 11 (.mob 12 (.done)))])]), (10, .alt [(3, .alt [(4, .mob 11 (.mob 12 (.done)))])])])))]), (7, .mob 8 (.alt [(3, .alt [(4, .alt [(5, .mob 9 (.alt [(10, .mob 11 (.mob 12 (.done)))]))]), (5, .mob 9 (.alt [(4, .alt [(10, .mob 11 (.mob 12 (.done)))]), (10, .alt [(4, .mob 11 (.mob 12 (.done)))])]))]), (5, .mob 9 (.alt [(3, .alt [(4, .alt [(10, .mob 11 (.mob 12 (.done)))]), (10, .alt [(4, .mob 11 (.mob 12 (.done)))])]), (10, .alt [(3, .alt [(4, .mob 11 (.mob 12 (.done)))])])]))]))])), (5, .alt [(1, .mob 2 (.alt [(3, .alt [(4, .alt [(7, .mob 8 (.mob 9 (.alt [(10, .mob 11 (.mob 12 (.done)))])))]), (7, .mob 8 (.mob 9 (.alt [(4, .alt [(10, .mob 11 (.mob 12 (.done)))]), (10, .alt [(4, .mob 11 (.mob 12 (.done)))])])))]), (7, .mob 8 (.mob 9 (.alt [(3, .alt [(4, .alt [(10, .mob 11 (.mob 12 (.done)))]), (10, .alt [(4, .mob 11 (.mob 12 (.done)))])]), (10, .alt [(3, .alt [(4, .mob 11 (.mob 12 (.done)))])])])))])), (7, .mob 8 (.mob 9 (.alt [(1, .mob 2 (.alt [(3, .alt [(4, .alt [(10, .mob 11 (.mob 12 (.done)))]), (10, .alt [(4, .mob 11 (.mob 12 (.done)))])]), (10, .alt [(3, .alt [(4, .mob 11 (.mob 12 (.done)))])])])), (10, .alt [(1, .mob 2 (.alt [(3, .alt [(4, .mob 11 (.mob 12 (.done)))])]))])])))]), (7, .mob 8 (.alt [(1, .mob 2 (.alt [(3, .alt [(4, .alt [(5, .mob 9 (.alt [(10, .mob 11 (.mob 12 (.done)))]))]), (5, .mob 9 (.alt [(4, .alt [(10, .mob 11 (.mob 12 (.done)))]), (10, .alt [(4, .mob 11 (.mob 12 (.done)))])]))]), (5, .mob 9 (.alt [(3, .alt [(4, .alt [(10, .mob 11 (.mob 12 (.done)))]), (10, .alt [(4, .mob 11 (.mob 12 (.done)))])]), (10, .alt [(3, .alt [(4, .mob 11 (.mob 12 (.done)))])])]))])), (5, .mob 9 (.alt [(1, .mob 2 (.alt [(3, .alt [(4, .alt [(10, .mob 11 (.mob 12 (.done)))]), (10, .alt [(4, .mob 11 (.mob 12 (.done)))])]), (10, .alt [(3, .alt [(4, .mob 11 (.mob 12 (.done)))])])])), (10, .alt [(1, .mob 2 (.alt [(3, .alt [(4, .mob 11 (.mob 12 (.done)))])]))])]))]))]))) (by kernel_rfl) ?_; conv => whnf)
    | exact ⟨rfl, rfl⟩
    | (refine Fin.bool ?_ rfl)
    | (refine Fin.int ?_ rfl)
    | (refine Fin.str ?_ rfl)
    | (refine Fin.sl ?_ rfl)
    | exact trivial)
def chk (x : Xp) : Int := if x.fl = 0 then (if x.tx.length > 40 then 1 else 0) else x.fl
def H (x : Xp) : Prop := szL x.d ≤ 1048576
theorem checkC (x : Xp) (hb : H x) : CallWP Try.prog 25 [.agg [(.d (.int .i64 (x.kind))), (.d (.int .i64 (x.ty))), (.d (.sl (x.es)))]] [] (fun r h => r = .d (.int .i64 (chk x)) ∧ h = []) := by
  unfold chk
  unfold H at hb
  by_cases hf : x.fl = 0
  · have h1 := ExprCheck.faultC _ x (Nat.lt_succ_self _) hb
    rw [hf] at h1
    (refine CallWP.go tabOK Try.func25 0 13 rfl rfl rfl rfl ?_; conv => whnf)
    repeat' (first
    | (refine Br.tt ?_; conv => whnf)
    | (refine Br.ff ?_; conv => whnf)
    | (refine Both.mk ?_ ?_ <;> conv => whnf)
    | (refine Br.not ?_)
    | (refine Need.mk ?_ ?_; (focus ((first | omega | exact ⟨by omega, by omega⟩ | rfl | exact trivial | assumption | (simp only [List.length_map, List.length_append, List.length_take, List.length_drop, List.length_cons, List.length_nil, List.length_replicate, List.length_set, List.length_reverse, nds_len, numsD_length]; omega) | (simp only [List.length_map, List.length_append, List.length_take, List.length_drop, List.length_cons, List.length_nil, List.length_replicate, List.length_set, List.length_reverse, nds_len, numsD_length]; exact ⟨by omega, by omega⟩) | exact nds_each | (refine map_each ?_; intro x; rfl) | (refine first_map ?_; intro x; rfl) | exact first_nds | simp | (simp; omega)); done)); conv => whnf)
    | (refine Br.t (by assumption) ?_; conv => whnf)
    | (refine Br.f (by assumption) ?_; conv => whnf)
    | (refine Br.self ?_; conv => whnf)
    | (refine Br.decT (by assumption) ?_; conv => whnf)
    | (refine Br.decF (by assumption) ?_; conv => whnf)
    | (refine Br.eqT (by assumption) ?_; conv => whnf)
    | (refine Br.eqF (by assumption) ?_; conv => whnf)
    | (refine Br.dec (fun hc => ?_) (fun hc => ?_) <;> (try simp only [List.length_map, List.length_append, List.length_take, List.length_drop, List.length_cons, List.length_nil, List.length_replicate, List.length_set, List.length_reverse, nds_len, numsD_length] at hc) <;> first | (exfalso; omega) | exact absurd trivial hc | exact absurd rfl hc | conv => whnf)
    | (refine Br.eq (fun hc => ?_) (fun hc => ?_) <;> first | (exfalso; omega) | exact absurd trivial hc | exact absurd rfl hc | conv => whnf)
    | (refine Br.ne (fun hc => ?_) (fun hc => ?_) <;> first | (exfalso; omega) | exact absurd trivial hc | exact absurd rfl hc | conv => whnf)
    | (with_reducible refine Br.and ?_)
    | (with_reducible refine Br.or ?_)
    | (refine Br.any (fun hc => ?_) (fun hc => ?_) <;> conv => whnf)
    | (refine Fit.inl ?_ ?_; (focus ((first | omega | exact ⟨by omega, by omega⟩ | rfl | exact trivial | assumption | (simp only [List.length_map, List.length_append, List.length_take, List.length_drop, List.length_cons, List.length_nil, List.length_replicate, List.length_set, List.length_reverse, nds_len, numsD_length]; omega) | (simp only [List.length_map, List.length_append, List.length_take, List.length_drop, List.length_cons, List.length_nil, List.length_replicate, List.length_set, List.length_reverse, nds_len, numsD_length]; exact ⟨by omega, by omega⟩) | exact nds_each | (refine map_each ?_; intro x; rfl) | (refine first_map ?_; intro x; rfl) | exact first_nds | simp | (simp; omega)); done)); conv => whnf)
    | (refine Each.mapAt (by assumption) ?_; conv => whnf)
    | (refine Each.ndsAt (by assumption) ?_; conv => whnf)
    | (refine Each.at (by assumption) ?_; conv => whnf)
    | (refine Each.map (fun x hx => ?_); (try simp only [Int.toNat_natCast, Int.toNat_zero, Int.toNat_one, Int.toNat_natCast_add_one] at hx); conv => whnf)
    | (refine Each.nds (fun a b c ps hx => ?_); (try simp only [Int.toNat_natCast, Int.toNat_zero, Int.toNat_one, Int.toNat_natCast_add_one] at hx); conv => whnf)
    | (refine Each.rep ?_; conv => whnf)
    | (refine Each.drop ?_)
    | (refine Each.take (fun hi => ?_))
    | (refine Each.any (fun x hx => ?_); (try simp only [Int.toNat_natCast, Int.toNat_zero, Int.toNat_one, Int.toNat_natCast_add_one] at hx); conv => whnf)
    | (refine NilB.any (fun hn => ?_) ?_ <;> conv => whnf)
    | (refine CallWP.mono (h1) ?_; rintro r h ⟨rfl, rfl⟩; conv => whnf)
    | (refine CallWP.mono (textC _ x (Nat.lt_succ_self _) hb hf) ?_; rintro r h ⟨rfl, rfl⟩; conv => whnf)
    | (refine ⟨_, bytesOfD_nums _, ?_⟩; conv => whnf)
    | exact ⟨rfl, rfl⟩
    | (refine Fin.bool ?_ rfl)
    | (refine Fin.int ?_ rfl)
    | (refine Fin.str ?_ rfl)
    | (refine Fin.sl ?_ rfl)
    | exact trivial)
    · rw [if_pos hf, if_pos (by omega)]
    · rw [if_pos hf, if_neg (by omega)]
  · rw [if_neg hf]
    (refine CallWP.go tabOK Try.func25 0 13 rfl rfl rfl rfl ?_; conv => whnf)
    repeat' (first
    | (refine Br.tt ?_; conv => whnf)
    | (refine Br.ff ?_; conv => whnf)
    | (refine Both.mk ?_ ?_ <;> conv => whnf)
    | (refine Br.not ?_)
    | (refine Need.mk ?_ ?_; (focus ((first | omega | exact ⟨by omega, by omega⟩ | rfl | exact trivial | assumption | (simp only [List.length_map, List.length_append, List.length_take, List.length_drop, List.length_cons, List.length_nil, List.length_replicate, List.length_set, List.length_reverse, nds_len, numsD_length]; omega) | (simp only [List.length_map, List.length_append, List.length_take, List.length_drop, List.length_cons, List.length_nil, List.length_replicate, List.length_set, List.length_reverse, nds_len, numsD_length]; exact ⟨by omega, by omega⟩) | exact nds_each | (refine map_each ?_; intro x; rfl) | (refine first_map ?_; intro x; rfl) | exact first_nds | simp | (simp; omega)); done)); conv => whnf)
    | (refine Br.t (by assumption) ?_; conv => whnf)
    | (refine Br.f (by assumption) ?_; conv => whnf)
    | (refine Br.self ?_; conv => whnf)
    | (refine Br.decT (by assumption) ?_; conv => whnf)
    | (refine Br.decF (by assumption) ?_; conv => whnf)
    | (refine Br.eqT (by assumption) ?_; conv => whnf)
    | (refine Br.eqF (by assumption) ?_; conv => whnf)
    | (refine Br.dec (fun hc => ?_) (fun hc => ?_) <;> (try simp only [List.length_map, List.length_append, List.length_take, List.length_drop, List.length_cons, List.length_nil, List.length_replicate, List.length_set, List.length_reverse, nds_len, numsD_length] at hc) <;> first | (exfalso; omega) | exact absurd trivial hc | exact absurd rfl hc | conv => whnf)
    | (refine Br.eq (fun hc => ?_) (fun hc => ?_) <;> first | (exfalso; omega) | exact absurd trivial hc | exact absurd rfl hc | conv => whnf)
    | (refine Br.ne (fun hc => ?_) (fun hc => ?_) <;> first | (exfalso; omega) | exact absurd trivial hc | exact absurd rfl hc | conv => whnf)
    | (with_reducible refine Br.and ?_)
    | (with_reducible refine Br.or ?_)
    | (refine Br.any (fun hc => ?_) (fun hc => ?_) <;> conv => whnf)
    | (refine Fit.inl ?_ ?_; (focus ((first | omega | exact ⟨by omega, by omega⟩ | rfl | exact trivial | assumption | (simp only [List.length_map, List.length_append, List.length_take, List.length_drop, List.length_cons, List.length_nil, List.length_replicate, List.length_set, List.length_reverse, nds_len, numsD_length]; omega) | (simp only [List.length_map, List.length_append, List.length_take, List.length_drop, List.length_cons, List.length_nil, List.length_replicate, List.length_set, List.length_reverse, nds_len, numsD_length]; exact ⟨by omega, by omega⟩) | exact nds_each | (refine map_each ?_; intro x; rfl) | (refine first_map ?_; intro x; rfl) | exact first_nds | simp | (simp; omega)); done)); conv => whnf)
    | (refine Each.mapAt (by assumption) ?_; conv => whnf)
    | (refine Each.ndsAt (by assumption) ?_; conv => whnf)
    | (refine Each.at (by assumption) ?_; conv => whnf)
    | (refine Each.map (fun x hx => ?_); (try simp only [Int.toNat_natCast, Int.toNat_zero, Int.toNat_one, Int.toNat_natCast_add_one] at hx); conv => whnf)
    | (refine Each.nds (fun a b c ps hx => ?_); (try simp only [Int.toNat_natCast, Int.toNat_zero, Int.toNat_one, Int.toNat_natCast_add_one] at hx); conv => whnf)
    | (refine Each.rep ?_; conv => whnf)
    | (refine Each.drop ?_)
    | (refine Each.take (fun hi => ?_))
    | (refine Each.any (fun x hx => ?_); (try simp only [Int.toNat_natCast, Int.toNat_zero, Int.toNat_one, Int.toNat_natCast_add_one] at hx); conv => whnf)
    | (refine NilB.any (fun hn => ?_) ?_ <;> conv => whnf)
    | (refine CallWP.mono (ExprCheck.faultC _ x (Nat.lt_succ_self _) hb) ?_; rintro r h ⟨rfl, rfl⟩; conv => whnf)
    | (refine ⟨_, bytesOfD_nums _, ?_⟩; conv => whnf)
    | exact ⟨rfl, rfl⟩
    | (refine Fin.bool ?_ rfl)
    | (refine Fin.int ?_ rfl)
    | (refine Fin.str ?_ rfl)
    | (refine Fin.sl ?_ rfl)
    | exact trivial)
theorem checkR (x : Xp) (hb : H x) : CallWP Try.prog 26 [.agg [(.d (.int .i64 (x.kind))), (.d (.int .i64 (x.ty))), (.d (.sl (x.es)))]] [] (fun r h => r = .d (.int .i64 (chk x)) ∧ h = []) := by
  unfold chk
  unfold H at hb
  by_cases hf : x.fl = 0
  · have h1 := ExprCheck.faultR _ x (Nat.lt_succ_self _) hb
    have h2 := textR _ x 0 (Nat.lt_succ_self _) hb hf (by omega) (by omega)
    rw [show bd 0 x.kind x.tx = x.tx by rw [bd, if_neg (by omega)]] at h2
    rw [hf] at h1
    (refine CallWP.go tabOK Try.func26 0 13 rfl rfl rfl rfl ?_; conv => whnf)
    repeat' (first
    | (refine Br.tt ?_; conv => whnf)
    | (refine Br.ff ?_; conv => whnf)
    | (refine Both.mk ?_ ?_ <;> conv => whnf)
    | (refine Br.not ?_)
    | (refine Need.mk ?_ ?_; (focus ((first | omega | exact ⟨by omega, by omega⟩ | rfl | exact trivial | assumption | (simp only [List.length_map, List.length_append, List.length_take, List.length_drop, List.length_cons, List.length_nil, List.length_replicate, List.length_set, List.length_reverse, nds_len, numsD_length]; omega) | (simp only [List.length_map, List.length_append, List.length_take, List.length_drop, List.length_cons, List.length_nil, List.length_replicate, List.length_set, List.length_reverse, nds_len, numsD_length]; exact ⟨by omega, by omega⟩) | exact nds_each | (refine map_each ?_; intro x; rfl) | (refine first_map ?_; intro x; rfl) | exact first_nds | simp | (simp; omega)); done)); conv => whnf)
    | (refine Br.t (by assumption) ?_; conv => whnf)
    | (refine Br.f (by assumption) ?_; conv => whnf)
    | (refine Br.self ?_; conv => whnf)
    | (refine Br.decT (by assumption) ?_; conv => whnf)
    | (refine Br.decF (by assumption) ?_; conv => whnf)
    | (refine Br.eqT (by assumption) ?_; conv => whnf)
    | (refine Br.eqF (by assumption) ?_; conv => whnf)
    | (refine Br.dec (fun hc => ?_) (fun hc => ?_) <;> (try simp only [List.length_map, List.length_append, List.length_take, List.length_drop, List.length_cons, List.length_nil, List.length_replicate, List.length_set, List.length_reverse, nds_len, numsD_length] at hc) <;> first | (exfalso; omega) | exact absurd trivial hc | exact absurd rfl hc | conv => whnf)
    | (refine Br.eq (fun hc => ?_) (fun hc => ?_) <;> first | (exfalso; omega) | exact absurd trivial hc | exact absurd rfl hc | conv => whnf)
    | (refine Br.ne (fun hc => ?_) (fun hc => ?_) <;> first | (exfalso; omega) | exact absurd trivial hc | exact absurd rfl hc | conv => whnf)
    | (with_reducible refine Br.and ?_)
    | (with_reducible refine Br.or ?_)
    | (refine Br.any (fun hc => ?_) (fun hc => ?_) <;> conv => whnf)
    | (refine Fit.inl ?_ ?_; (focus ((first | omega | exact ⟨by omega, by omega⟩ | rfl | exact trivial | assumption | (simp only [List.length_map, List.length_append, List.length_take, List.length_drop, List.length_cons, List.length_nil, List.length_replicate, List.length_set, List.length_reverse, nds_len, numsD_length]; omega) | (simp only [List.length_map, List.length_append, List.length_take, List.length_drop, List.length_cons, List.length_nil, List.length_replicate, List.length_set, List.length_reverse, nds_len, numsD_length]; exact ⟨by omega, by omega⟩) | exact nds_each | (refine map_each ?_; intro x; rfl) | (refine first_map ?_; intro x; rfl) | exact first_nds | simp | (simp; omega)); done)); conv => whnf)
    | (refine Each.mapAt (by assumption) ?_; conv => whnf)
    | (refine Each.ndsAt (by assumption) ?_; conv => whnf)
    | (refine Each.at (by assumption) ?_; conv => whnf)
    | (refine Each.map (fun x hx => ?_); (try simp only [Int.toNat_natCast, Int.toNat_zero, Int.toNat_one, Int.toNat_natCast_add_one] at hx); conv => whnf)
    | (refine Each.nds (fun a b c ps hx => ?_); (try simp only [Int.toNat_natCast, Int.toNat_zero, Int.toNat_one, Int.toNat_natCast_add_one] at hx); conv => whnf)
    | (refine Each.rep ?_; conv => whnf)
    | (refine Each.drop ?_)
    | (refine Each.take (fun hi => ?_))
    | (refine Each.any (fun x hx => ?_); (try simp only [Int.toNat_natCast, Int.toNat_zero, Int.toNat_one, Int.toNat_natCast_add_one] at hx); conv => whnf)
    | (refine NilB.any (fun hn => ?_) ?_ <;> conv => whnf)
    | (refine CallWP.mono (h1) ?_; rintro r h ⟨rfl, rfl⟩; conv => whnf)
    | (refine CallWP.mono (h2) ?_; rintro r h ⟨rfl, rfl⟩; conv => whnf)
    | (refine ⟨_, bytesOfD_nums _, ?_⟩; conv => whnf)
    | exact ⟨rfl, rfl⟩
    | (refine Fin.bool ?_ rfl)
    | (refine Fin.int ?_ rfl)
    | (refine Fin.str ?_ rfl)
    | (refine Fin.sl ?_ rfl)
    | exact trivial)
    · rw [if_pos hf, if_pos (by omega)]
    · rw [if_pos hf, if_neg (by omega)]
  · rw [if_neg hf]
    (refine CallWP.go tabOK Try.func26 0 13 rfl rfl rfl rfl ?_; conv => whnf)
    repeat' (first
    | (refine Br.tt ?_; conv => whnf)
    | (refine Br.ff ?_; conv => whnf)
    | (refine Both.mk ?_ ?_ <;> conv => whnf)
    | (refine Br.not ?_)
    | (refine Need.mk ?_ ?_; (focus ((first | omega | exact ⟨by omega, by omega⟩ | rfl | exact trivial | assumption | (simp only [List.length_map, List.length_append, List.length_take, List.length_drop, List.length_cons, List.length_nil, List.length_replicate, List.length_set, List.length_reverse, nds_len, numsD_length]; omega) | (simp only [List.length_map, List.length_append, List.length_take, List.length_drop, List.length_cons, List.length_nil, List.length_replicate, List.length_set, List.length_reverse, nds_len, numsD_length]; exact ⟨by omega, by omega⟩) | exact nds_each | (refine map_each ?_; intro x; rfl) | (refine first_map ?_; intro x; rfl) | exact first_nds | simp | (simp; omega)); done)); conv => whnf)
    | (refine Br.t (by assumption) ?_; conv => whnf)
    | (refine Br.f (by assumption) ?_; conv => whnf)
    | (refine Br.self ?_; conv => whnf)
    | (refine Br.decT (by assumption) ?_; conv => whnf)
    | (refine Br.decF (by assumption) ?_; conv => whnf)
    | (refine Br.eqT (by assumption) ?_; conv => whnf)
    | (refine Br.eqF (by assumption) ?_; conv => whnf)
    | (refine Br.dec (fun hc => ?_) (fun hc => ?_) <;> (try simp only [List.length_map, List.length_append, List.length_take, List.length_drop, List.length_cons, List.length_nil, List.length_replicate, List.length_set, List.length_reverse, nds_len, numsD_length] at hc) <;> first | (exfalso; omega) | exact absurd trivial hc | exact absurd rfl hc | conv => whnf)
    | (refine Br.eq (fun hc => ?_) (fun hc => ?_) <;> first | (exfalso; omega) | exact absurd trivial hc | exact absurd rfl hc | conv => whnf)
    | (refine Br.ne (fun hc => ?_) (fun hc => ?_) <;> first | (exfalso; omega) | exact absurd trivial hc | exact absurd rfl hc | conv => whnf)
    | (with_reducible refine Br.and ?_)
    | (with_reducible refine Br.or ?_)
    | (refine Br.any (fun hc => ?_) (fun hc => ?_) <;> conv => whnf)
    | (refine Fit.inl ?_ ?_; (focus ((first | omega | exact ⟨by omega, by omega⟩ | rfl | exact trivial | assumption | (simp only [List.length_map, List.length_append, List.length_take, List.length_drop, List.length_cons, List.length_nil, List.length_replicate, List.length_set, List.length_reverse, nds_len, numsD_length]; omega) | (simp only [List.length_map, List.length_append, List.length_take, List.length_drop, List.length_cons, List.length_nil, List.length_replicate, List.length_set, List.length_reverse, nds_len, numsD_length]; exact ⟨by omega, by omega⟩) | exact nds_each | (refine map_each ?_; intro x; rfl) | (refine first_map ?_; intro x; rfl) | exact first_nds | simp | (simp; omega)); done)); conv => whnf)
    | (refine Each.mapAt (by assumption) ?_; conv => whnf)
    | (refine Each.ndsAt (by assumption) ?_; conv => whnf)
    | (refine Each.at (by assumption) ?_; conv => whnf)
    | (refine Each.map (fun x hx => ?_); (try simp only [Int.toNat_natCast, Int.toNat_zero, Int.toNat_one, Int.toNat_natCast_add_one] at hx); conv => whnf)
    | (refine Each.nds (fun a b c ps hx => ?_); (try simp only [Int.toNat_natCast, Int.toNat_zero, Int.toNat_one, Int.toNat_natCast_add_one] at hx); conv => whnf)
    | (refine Each.rep ?_; conv => whnf)
    | (refine Each.drop ?_)
    | (refine Each.take (fun hi => ?_))
    | (refine Each.any (fun x hx => ?_); (try simp only [Int.toNat_natCast, Int.toNat_zero, Int.toNat_one, Int.toNat_natCast_add_one] at hx); conv => whnf)
    | (refine NilB.any (fun hn => ?_) ?_ <;> conv => whnf)
    | (refine CallWP.mono (ExprCheck.faultR _ x (Nat.lt_succ_self _) hb) ?_; rintro r h ⟨rfl, rfl⟩; conv => whnf)
    | (refine ⟨_, bytesOfD_nums _, ?_⟩; conv => whnf)
    | exact ⟨rfl, rfl⟩
    | (refine Fin.bool ?_ rfl)
    | (refine Fin.int ?_ rfl)
    | (refine Fin.str ?_ rfl)
    | (refine Fin.sl ?_ rfl)
    | exact trivial)
def res (x : Xp) : Str × Int := if chk x = 0 then (x.tx, 0) else ([], chk x)
theorem chk_fl {x : Xp} (h : chk x = 0) : x.fl = 0 := by
  unfold chk at h
  split at h
  · assumption
  · rename_i hn; exact absurd h hn
theorem printC (x : Xp) (hb : H x) : CallWP Try.prog 27 [.agg [(.d (.int .i64 (x.kind))), (.d (.int .i64 (x.ty))), (.d (.sl (x.es)))]] [] (fun r h => r = .tup [(.d (.str ((res x).1))), (.d (.int .i64 ((res x).2)))] ∧ h = []) := by
  unfold res
  by_cases hc : chk x = 0
  · have h1 := checkC x hb
    rw [hc] at h1
    rw [if_pos hc]
    have h2 := hb
    unfold H at h2
    (refine CallWP.go tabOK Try.func27 0 12 rfl rfl rfl rfl ?_; conv => whnf)
    repeat' (first
    | (refine Br.tt ?_; conv => whnf)
    | (refine Br.ff ?_; conv => whnf)
    | (refine Both.mk ?_ ?_ <;> conv => whnf)
    | (refine Br.not ?_)
    | (refine Need.mk ?_ ?_; (focus ((first | omega | exact ⟨by omega, by omega⟩ | rfl | exact trivial | assumption | (simp only [List.length_map, List.length_append, List.length_take, List.length_drop, List.length_cons, List.length_nil, List.length_replicate, List.length_set, List.length_reverse, nds_len, numsD_length]; omega) | (simp only [List.length_map, List.length_append, List.length_take, List.length_drop, List.length_cons, List.length_nil, List.length_replicate, List.length_set, List.length_reverse, nds_len, numsD_length]; exact ⟨by omega, by omega⟩) | exact nds_each | (refine map_each ?_; intro x; rfl) | (refine first_map ?_; intro x; rfl) | exact first_nds | simp | (simp; omega)); done)); conv => whnf)
    | (refine Br.t (by assumption) ?_; conv => whnf)
    | (refine Br.f (by assumption) ?_; conv => whnf)
    | (refine Br.self ?_; conv => whnf)
    | (refine Br.decT (by assumption) ?_; conv => whnf)
    | (refine Br.decF (by assumption) ?_; conv => whnf)
    | (refine Br.eqT (by assumption) ?_; conv => whnf)
    | (refine Br.eqF (by assumption) ?_; conv => whnf)
    | (refine Br.dec (fun hc => ?_) (fun hc => ?_) <;> (try simp only [List.length_map, List.length_append, List.length_take, List.length_drop, List.length_cons, List.length_nil, List.length_replicate, List.length_set, List.length_reverse, nds_len, numsD_length] at hc) <;> first | (exfalso; omega) | exact absurd trivial hc | exact absurd rfl hc | conv => whnf)
    | (refine Br.eq (fun hc => ?_) (fun hc => ?_) <;> first | (exfalso; omega) | exact absurd trivial hc | exact absurd rfl hc | conv => whnf)
    | (refine Br.ne (fun hc => ?_) (fun hc => ?_) <;> first | (exfalso; omega) | exact absurd trivial hc | exact absurd rfl hc | conv => whnf)
    | (with_reducible refine Br.and ?_)
    | (with_reducible refine Br.or ?_)
    | (refine Br.any (fun hc => ?_) (fun hc => ?_) <;> conv => whnf)
    | (refine Fit.inl ?_ ?_; (focus ((first | omega | exact ⟨by omega, by omega⟩ | rfl | exact trivial | assumption | (simp only [List.length_map, List.length_append, List.length_take, List.length_drop, List.length_cons, List.length_nil, List.length_replicate, List.length_set, List.length_reverse, nds_len, numsD_length]; omega) | (simp only [List.length_map, List.length_append, List.length_take, List.length_drop, List.length_cons, List.length_nil, List.length_replicate, List.length_set, List.length_reverse, nds_len, numsD_length]; exact ⟨by omega, by omega⟩) | exact nds_each | (refine map_each ?_; intro x; rfl) | (refine first_map ?_; intro x; rfl) | exact first_nds | simp | (simp; omega)); done)); conv => whnf)
    | (refine Each.mapAt (by assumption) ?_; conv => whnf)
    | (refine Each.ndsAt (by assumption) ?_; conv => whnf)
    | (refine Each.at (by assumption) ?_; conv => whnf)
    | (refine Each.map (fun x hx => ?_); (try simp only [Int.toNat_natCast, Int.toNat_zero, Int.toNat_one, Int.toNat_natCast_add_one] at hx); conv => whnf)
    | (refine Each.nds (fun a b c ps hx => ?_); (try simp only [Int.toNat_natCast, Int.toNat_zero, Int.toNat_one, Int.toNat_natCast_add_one] at hx); conv => whnf)
    | (refine Each.rep ?_; conv => whnf)
    | (refine Each.drop ?_)
    | (refine Each.take (fun hi => ?_))
    | (refine Each.any (fun x hx => ?_); (try simp only [Int.toNat_natCast, Int.toNat_zero, Int.toNat_one, Int.toNat_natCast_add_one] at hx); conv => whnf)
    | (refine NilB.any (fun hn => ?_) ?_ <;> conv => whnf)
    | (refine CallWP.mono (h1) ?_; rintro r h ⟨rfl, rfl⟩; conv => whnf)
    | (refine CallWP.mono (textC _ x (Nat.lt_succ_self _) h2 (chk_fl hc)) ?_; rintro r h ⟨rfl, rfl⟩; conv => whnf)
    | (refine ⟨_, bytesOfD_nums _, ?_⟩; conv => whnf)
    | exact ⟨rfl, rfl⟩
    | (refine Fin.bool ?_ rfl)
    | (refine Fin.int ?_ rfl)
    | (refine Fin.str ?_ rfl)
    | (refine Fin.sl ?_ rfl)
    | exact trivial)
  · rw [if_neg hc]
    (refine CallWP.go tabOK Try.func27 0 12 rfl rfl rfl rfl ?_; conv => whnf)
    repeat' (first
    | (refine Br.tt ?_; conv => whnf)
    | (refine Br.ff ?_; conv => whnf)
    | (refine Both.mk ?_ ?_ <;> conv => whnf)
    | (refine Br.not ?_)
    | (refine Need.mk ?_ ?_; (focus ((first | omega | exact ⟨by omega, by omega⟩ | rfl | exact trivial | assumption | (simp only [List.length_map, List.length_append, List.length_take, List.length_drop, List.length_cons, List.length_nil, List.length_replicate, List.length_set, List.length_reverse, nds_len, numsD_length]; omega) | (simp only [List.length_map, List.length_append, List.length_take, List.length_drop, List.length_cons, List.length_nil, List.length_replicate, List.length_set, List.length_reverse, nds_len, numsD_length]; exact ⟨by omega, by omega⟩) | exact nds_each | (refine map_each ?_; intro x; rfl) | (refine first_map ?_; intro x; rfl) | exact first_nds | simp | (simp; omega)); done)); conv => whnf)
    | (refine Br.t (by assumption) ?_; conv => whnf)
    | (refine Br.f (by assumption) ?_; conv => whnf)
    | (refine Br.self ?_; conv => whnf)
    | (refine Br.decT (by assumption) ?_; conv => whnf)
    | (refine Br.decF (by assumption) ?_; conv => whnf)
    | (refine Br.eqT (by assumption) ?_; conv => whnf)
    | (refine Br.eqF (by assumption) ?_; conv => whnf)
    | (refine Br.dec (fun hc => ?_) (fun hc => ?_) <;> (try simp only [List.length_map, List.length_append, List.length_take, List.length_drop, List.length_cons, List.length_nil, List.length_replicate, List.length_set, List.length_reverse, nds_len, numsD_length] at hc) <;> first | (exfalso; omega) | exact absurd trivial hc | exact absurd rfl hc | conv => whnf)
    | (refine Br.eq (fun hc => ?_) (fun hc => ?_) <;> first | (exfalso; omega) | exact absurd trivial hc | exact absurd rfl hc | conv => whnf)
    | (refine Br.ne (fun hc => ?_) (fun hc => ?_) <;> first | (exfalso; omega) | exact absurd trivial hc | exact absurd rfl hc | conv => whnf)
    | (with_reducible refine Br.and ?_)
    | (with_reducible refine Br.or ?_)
    | (refine Br.any (fun hc => ?_) (fun hc => ?_) <;> conv => whnf)
    | (refine Fit.inl ?_ ?_; (focus ((first | omega | exact ⟨by omega, by omega⟩ | rfl | exact trivial | assumption | (simp only [List.length_map, List.length_append, List.length_take, List.length_drop, List.length_cons, List.length_nil, List.length_replicate, List.length_set, List.length_reverse, nds_len, numsD_length]; omega) | (simp only [List.length_map, List.length_append, List.length_take, List.length_drop, List.length_cons, List.length_nil, List.length_replicate, List.length_set, List.length_reverse, nds_len, numsD_length]; exact ⟨by omega, by omega⟩) | exact nds_each | (refine map_each ?_; intro x; rfl) | (refine first_map ?_; intro x; rfl) | exact first_nds | simp | (simp; omega)); done)); conv => whnf)
    | (refine Each.mapAt (by assumption) ?_; conv => whnf)
    | (refine Each.ndsAt (by assumption) ?_; conv => whnf)
    | (refine Each.at (by assumption) ?_; conv => whnf)
    | (refine Each.map (fun x hx => ?_); (try simp only [Int.toNat_natCast, Int.toNat_zero, Int.toNat_one, Int.toNat_natCast_add_one] at hx); conv => whnf)
    | (refine Each.nds (fun a b c ps hx => ?_); (try simp only [Int.toNat_natCast, Int.toNat_zero, Int.toNat_one, Int.toNat_natCast_add_one] at hx); conv => whnf)
    | (refine Each.rep ?_; conv => whnf)
    | (refine Each.drop ?_)
    | (refine Each.take (fun hi => ?_))
    | (refine Each.any (fun x hx => ?_); (try simp only [Int.toNat_natCast, Int.toNat_zero, Int.toNat_one, Int.toNat_natCast_add_one] at hx); conv => whnf)
    | (refine NilB.any (fun hn => ?_) ?_ <;> conv => whnf)
    | (refine CallWP.mono (checkC x hb) ?_; rintro r h ⟨rfl, rfl⟩; conv => whnf)
    | (refine ⟨_, bytesOfD_nums _, ?_⟩; conv => whnf)
    | exact ⟨rfl, rfl⟩
    | (refine Fin.bool ?_ rfl)
    | (refine Fin.int ?_ rfl)
    | (refine Fin.str ?_ rfl)
    | (refine Fin.sl ?_ rfl)
    | exact trivial)
theorem printR (x : Xp) (hb : H x) : CallWP Try.prog 28 [.agg [(.d (.int .i64 (x.kind))), (.d (.int .i64 (x.ty))), (.d (.sl (x.es)))]] [] (fun r h => r = .tup [(.d (.str ((res x).1))), (.d (.int .i64 ((res x).2)))] ∧ h = []) := by
  unfold res
  by_cases hc : chk x = 0
  · have h1 := checkR x hb
    rw [hc] at h1
    rw [if_pos hc]
    have h3 := hb
    unfold H at h3
    have h2 := textR _ x 0 (Nat.lt_succ_self _) h3 (chk_fl hc) (by omega) (by omega)
    rw [show bd 0 x.kind x.tx = x.tx by rw [bd, if_neg (by omega)]] at h2
    (refine CallWP.go tabOK Try.func28 0 12 rfl rfl rfl rfl ?_; conv => whnf)
    repeat' (first
    | (refine Br.tt ?_; conv => whnf)
    | (refine Br.ff ?_; conv => whnf)
    | (refine Both.mk ?_ ?_ <;> conv => whnf)
    | (refine Br.not ?_)
    | (refine Need.mk ?_ ?_; (focus ((first | omega | exact ⟨by omega, by omega⟩ | rfl | exact trivial | assumption | (simp only [List.length_map, List.length_append, List.length_take, List.length_drop, List.length_cons, List.length_nil, List.length_replicate, List.length_set, List.length_reverse, nds_len, numsD_length]; omega) | (simp only [List.length_map, List.length_append, List.length_take, List.length_drop, List.length_cons, List.length_nil, List.length_replicate, List.length_set, List.length_reverse, nds_len, numsD_length]; exact ⟨by omega, by omega⟩) | exact nds_each | (refine map_each ?_; intro x; rfl) | (refine first_map ?_; intro x; rfl) | exact first_nds | simp | (simp; omega)); done)); conv => whnf)
    | (refine Br.t (by assumption) ?_; conv => whnf)
    | (refine Br.f (by assumption) ?_; conv => whnf)
    | (refine Br.self ?_; conv => whnf)
    | (refine Br.decT (by assumption) ?_; conv => whnf)
    | (refine Br.decF (by assumption) ?_; conv => whnf)
    | (refine Br.eqT (by assumption) ?_; conv => whnf)
    | (refine Br.eqF (by assumption) ?_; conv => whnf)
    | (refine Br.dec (fun hc => ?_) (fun hc => ?_) <;> (try simp only [List.length_map, List.length_append, List.length_take, List.length_drop, List.length_cons, List.length_nil, List.length_replicate, List.length_set, List.length_reverse, nds_len, numsD_length] at hc) <;> first | (exfalso; omega) | exact absurd trivial hc | exact absurd rfl hc | conv => whnf)
    | (refine Br.eq (fun hc => ?_) (fun hc => ?_) <;> first | (exfalso; omega) | exact absurd trivial hc | exact absurd rfl hc | conv => whnf)
    | (refine Br.ne (fun hc => ?_) (fun hc => ?_) <;> first | (exfalso; omega) | exact absurd trivial hc | exact absurd rfl hc | conv => whnf)
    | (with_reducible refine Br.and ?_)
    | (with_reducible refine Br.or ?_)
    | (refine Br.any (fun hc => ?_) (fun hc => ?_) <;> conv => whnf)
    | (refine Fit.inl ?_ ?_; (focus ((first | omega | exact ⟨by omega, by omega⟩ | rfl | exact trivial | assumption | (simp only [List.length_map, List.length_append, List.length_take, List.length_drop, List.length_cons, List.length_nil, List.length_replicate, List.length_set, List.length_reverse, nds_len, numsD_length]; omega) | (simp only [List.length_map, List.length_append, List.length_take, List.length_drop, List.length_cons, List.length_nil, List.length_replicate, List.length_set, List.length_reverse, nds_len, numsD_length]; exact ⟨by omega, by omega⟩) | exact nds_each | (refine map_each ?_; intro x; rfl) | (refine first_map ?_; intro x; rfl) | exact first_nds | simp | (simp; omega)); done)); conv => whnf)
    | (refine Each.mapAt (by assumption) ?_; conv => whnf)
    | (refine Each.ndsAt (by assumption) ?_; conv => whnf)
    | (refine Each.at (by assumption) ?_; conv => whnf)
    | (refine Each.map (fun x hx => ?_); (try simp only [Int.toNat_natCast, Int.toNat_zero, Int.toNat_one, Int.toNat_natCast_add_one] at hx); conv => whnf)
    | (refine Each.nds (fun a b c ps hx => ?_); (try simp only [Int.toNat_natCast, Int.toNat_zero, Int.toNat_one, Int.toNat_natCast_add_one] at hx); conv => whnf)
    | (refine Each.rep ?_; conv => whnf)
    | (refine Each.drop ?_)
    | (refine Each.take (fun hi => ?_))
    | (refine Each.any (fun x hx => ?_); (try simp only [Int.toNat_natCast, Int.toNat_zero, Int.toNat_one, Int.toNat_natCast_add_one] at hx); conv => whnf)
    | (refine NilB.any (fun hn => ?_) ?_ <;> conv => whnf)
    | (refine CallWP.mono (h1) ?_; rintro r h ⟨rfl, rfl⟩; conv => whnf)
    | (refine CallWP.mono (h2) ?_; rintro r h ⟨rfl, rfl⟩; conv => whnf)
    | (refine ⟨_, bytesOfD_nums _, ?_⟩; conv => whnf)
    | exact ⟨rfl, rfl⟩
    | (refine Fin.bool ?_ rfl)
    | (refine Fin.int ?_ rfl)
    | (refine Fin.str ?_ rfl)
    | (refine Fin.sl ?_ rfl)
    | exact trivial)
  · rw [if_neg hc]
    (refine CallWP.go tabOK Try.func28 0 12 rfl rfl rfl rfl ?_; conv => whnf)
    repeat' (first
    | (refine Br.tt ?_; conv => whnf)
    | (refine Br.ff ?_; conv => whnf)
    | (refine Both.mk ?_ ?_ <;> conv => whnf)
    | (refine Br.not ?_)
    | (refine Need.mk ?_ ?_; (focus ((first | omega | exact ⟨by omega, by omega⟩ | rfl | exact trivial | assumption | (simp only [List.length_map, List.length_append, List.length_take, List.length_drop, List.length_cons, List.length_nil, List.length_replicate, List.length_set, List.length_reverse, nds_len, numsD_length]; omega) | (simp only [List.length_map, List.length_append, List.length_take, List.length_drop, List.length_cons, List.length_nil, List.length_replicate, List.length_set, List.length_reverse, nds_len, numsD_length]; exact ⟨by omega, by omega⟩) | exact nds_each | (refine map_each ?_; intro x; rfl) | (refine first_map ?_; intro x; rfl) | exact first_nds | simp | (simp; omega)); done)); conv => whnf)
    | (refine Br.t (by assumption) ?_; conv => whnf)
    | (refine Br.f (by assumption) ?_; conv => whnf)
    | (refine Br.self ?_; conv => whnf)
    | (refine Br.decT (by assumption) ?_; conv => whnf)
    | (refine Br.decF (by assumption) ?_; conv => whnf)
    | (refine Br.eqT (by assumption) ?_; conv => whnf)
    | (refine Br.eqF (by assumption) ?_; conv => whnf)
    | (refine Br.dec (fun hc => ?_) (fun hc => ?_) <;> (try simp only [List.length_map, List.length_append, List.length_take, List.length_drop, List.length_cons, List.length_nil, List.length_replicate, List.length_set, List.length_reverse, nds_len, numsD_length] at hc) <;> first | (exfalso; omega) | exact absurd trivial hc | exact absurd rfl hc | conv => whnf)
    | (refine Br.eq (fun hc => ?_) (fun hc => ?_) <;> first | (exfalso; omega) | exact absurd trivial hc | exact absurd rfl hc | conv => whnf)
    | (refine Br.ne (fun hc => ?_) (fun hc => ?_) <;> first | (exfalso; omega) | exact absurd trivial hc | exact absurd rfl hc | conv => whnf)
    | (with_reducible refine Br.and ?_)
    | (with_reducible refine Br.or ?_)
    | (refine Br.any (fun hc => ?_) (fun hc => ?_) <;> conv => whnf)
    | (refine Fit.inl ?_ ?_; (focus ((first | omega | exact ⟨by omega, by omega⟩ | rfl | exact trivial | assumption | (simp only [List.length_map, List.length_append, List.length_take, List.length_drop, List.length_cons, List.length_nil, List.length_replicate, List.length_set, List.length_reverse, nds_len, numsD_length]; omega) | (simp only [List.length_map, List.length_append, List.length_take, List.length_drop, List.length_cons, List.length_nil, List.length_replicate, List.length_set, List.length_reverse, nds_len, numsD_length]; exact ⟨by omega, by omega⟩) | exact nds_each | (refine map_each ?_; intro x; rfl) | (refine first_map ?_; intro x; rfl) | exact first_nds | simp | (simp; omega)); done)); conv => whnf)
    | (refine Each.mapAt (by assumption) ?_; conv => whnf)
    | (refine Each.ndsAt (by assumption) ?_; conv => whnf)
    | (refine Each.at (by assumption) ?_; conv => whnf)
    | (refine Each.map (fun x hx => ?_); (try simp only [Int.toNat_natCast, Int.toNat_zero, Int.toNat_one, Int.toNat_natCast_add_one] at hx); conv => whnf)
    | (refine Each.nds (fun a b c ps hx => ?_); (try simp only [Int.toNat_natCast, Int.toNat_zero, Int.toNat_one, Int.toNat_natCast_add_one] at hx); conv => whnf)
    | (refine Each.rep ?_; conv => whnf)
    | (refine Each.drop ?_)
    | (refine Each.take (fun hi => ?_))
    | (refine Each.any (fun x hx => ?_); (try simp only [Int.toNat_natCast, Int.toNat_zero, Int.toNat_one, Int.toNat_natCast_add_one] at hx); conv => whnf)
    | (refine NilB.any (fun hn => ?_) ?_ <;> conv => whnf)
    | (refine CallWP.mono (checkR x hb) ?_; rintro r h ⟨rfl, rfl⟩; conv => whnf)
    | (refine ⟨_, bytesOfD_nums _, ?_⟩; conv => whnf)
    | exact ⟨rfl, rfl⟩
    | (refine Fin.bool ?_ rfl)
    | (refine Fin.int ?_ rfl)
    | (refine Fin.str ?_ rfl)
    | (refine Fin.sl ?_ rfl)
    | exact trivial)
end Go.VL.ExprText
