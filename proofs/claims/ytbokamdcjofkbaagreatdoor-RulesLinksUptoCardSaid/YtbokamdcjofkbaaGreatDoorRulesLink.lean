/- rules.Links and its reference answer alike. -/
import Derived.Test.YtbokamdcjofkbaaGreatDoorDelFn
import Derived.Test.YtbokamdcjofkbaaGreatDoorVNc
set_option linter.unusedVariables false
set_option linter.unusedSimpArgs false
namespace Go.VL.RulesLink
open Go Go.Proofs Go.VL Go.VL.UrlSafe Go.VL.Strs Go.VL.DelFn Go.VL.Nodes
set_option maxRecDepth 100000
mutual
/-- Attributes that k leaves, at all depths. -/
def lk (k : Attr → Bool) : Nd → Nd
  | .mk a b c ps => .mk a (b.filter k) c (lks k ps)
def lks (k : Attr → Bool) : List Nd → List Nd
  | [] => []
  | n :: r => lk k n :: lks k r
end
theorem lks_app (k : Attr → Bool) : ∀ l r : List Nd, lks k (l ++ r) = lks k l ++ lks k r
  | [], r => rfl
  | n :: l, r => by simp only [List.cons_append, lks]; rw [lks_app k l r]
theorem lks_take {k : Attr → Bool} {l : List Nd} {i : Nat} {n : Nd} (h : l[i]? = some n) : nds (lks k (l.take (i + 1))) = nds (lks k (l.take i)) ++ [(lk k n).d] := by
  rw [List.take_add_one, h, lks_app, nds_app]; rfl
theorem lks_len (k : Attr → Bool) : ∀ l : List Nd, (lks k l).length = l.length
  | [] => rfl
  | n :: l => by simp only [lks, List.length_cons]; rw [lks_len k l]
theorem filt_sz (k : Attr → Bool) : ∀ l : List Attr, szLL ((l.filter k).map Attr.d) ≤ szLL (l.map Attr.d)
  | [] => Nat.le_refl _
  | a :: r => by
    have := filt_sz k r
    rw [List.filter_cons]
    split
    · simp only [List.map_cons, szLL]; omega
    · simp only [List.map_cons, szLL]; omega
mutual
theorem lk_sz (k : Attr → Bool) : ∀ n : Nd, szL (lk k n).d ≤ szL n.d
  | .mk a b c ps => by
    have h1 := filt_sz k b
    have h2 := lks_sz k ps
    simp only [lk, Nd.d, szL, szD]
    omega
theorem lks_sz (k : Attr → Bool) : ∀ l : List Nd, szLL (nds (lks k l)) ≤ szLL (nds l)
  | [] => Nat.le_refl _
  | n :: r => by
    have h1 := lk_sz k n
    have h2 := lks_sz k r
    simp only [lks, nds, szLL]
    omega
end
def small (ns : List Nd) : Prop := szLL (nds ns) ≤ 1048576
theorem small_mem {ns : List Nd} {i : Nat} {a b c ps} (h : small ns) (hx : ns[i]? = some (.mk a b c ps)) : small ps ∧ b.length ≤ 1048576 ∧ ∀ x ∈ b, x.value.length < 2 ^ 22 := by
  unfold small at *
  have h1 : szL (Nd.mk a b c ps).d ≤ szLL (nds ns) := szLL_mem (by rw [nds_eq]; exact List.mem_map_of_mem (List.mem_of_getElem? hx))
  have h2 : b.length ≤ szLL (b.map Attr.d) := len_map_sz (fun x => by simp [Attr.d, szL, szD]; omega) b
  simp only [Nd.d, szL, szD] at h1
  refine ⟨by omega, by omega, fun x hx => ?_⟩
  have h3 : szL x.d ≤ szLL (b.map Attr.d) := szLL_mem (List.mem_map_of_mem hx)
  simp only [Attr.d, szL, szD] at h3
  omega
theorem small_len {ns : List Nd} (h : small ns) : ns.length ≤ 1048576 := by
  have := nds_le ns; have := len_szs ns; unfold small at h; omega
theorem cut_sz (k : Attr → Bool) {l : List Nd} (i : Nat) (h : small l) : (nds (lks k (l.take i))).length ≤ 1048576 := by
  have h1 := small_len h
  rw [nds_len, lks_len]
  simp; omega
def keep1 (names schemes : List Str) (a : Attr) : Bool := ofB a.value schemes || !names.any (a.name == ·)
theorem keep_eq (names schemes : List Str) (a : Attr) : keepA names schemes a = keep1 names schemes a := by
  unfold keepA dropA keep1
  cases names.any (a.name == ·) <;> cases ofB a.value schemes <;> rfl
attribute [local irreducible] CallWP WP Need Br Each NilB fit Both keepA ofB
theorem cloneA (l : List Attr) (hl : l.length ≤ 67108864) : CallWP Tryz.prog 24 [.d (.sl (l.map Attr.d))] [] (fun r h => r = .full 0 ∧ h = [(0, .row 47 (l.map Attr.d))]) := by
  refine CallWP.own (e := 47) (Q := fun r h => (r = .nils ∧ h = [] ∧ l = []) ∨ (r = .full 0 ∧ h = [(0, .row 47 (l.map Attr.d))])) ?_ ?_
  · (refine CallWP.go tabOK Tryz.func24 0 8 rfl rfl rfl rfl ?_; conv => whnf)
    repeat' (first
    | (refine Br.tt ?_; conv => whnf)
    | (refine Br.ff ?_; conv => whnf)
    | (refine Both.mk ?_ ?_ <;> conv => whnf)
    | (refine Br.not ?_)
    | (refine Need.mk ?_ ?_; (focus ((first | omega | exact ⟨by omega, by omega⟩ | rfl | exact trivial | assumption | (simp only [List.length_map, List.length_append, List.length_take, List.length_drop, List.length_cons, List.length_nil, List.length_replicate, List.length_set, List.length_reverse, nds_len, numsD_length]; omega) | (simp only [List.length_map, List.length_append, List.length_take, List.length_drop, List.length_cons, List.length_nil, List.length_replicate, List.length_set, List.length_reverse, nds_len, numsD_length]; exact ⟨by omega, by omega⟩) | exact nds_each | (refine map_each ?_; intro x; rfl) | (refine first_map ?_; intro x; rfl) | exact first_nds | simp | (simp; omega)); done)); conv => whnf)
    | (refine Br.t (by assumption) ?_; conv => whnf)
    | (refine Br.f (by assumption) ?_; conv => whnf)
    | (refine Br.self ?_; conv => whnf)
    | (refine Br.decT (by assumption) ?_; conv => whnf)
    | (refine Br.decF (by assumption) ?_; conv => whnf)
    | (refine Br.eqT (by assumption) ?_; conv => whnf)
    | (refine Br.eqF (by assumption) ?_; conv => whnf)
    | (refine Br.dec (fun hc => ?_) (fun hc => ?_) <;> (try simp only [List.length_map, List.length_append, List.length_take, List.length_drop, List.length_cons, List.length_nil, List.length_replicate, List.length_set, List.length_reverse, nds_len, numsD_length] at hc) <;> first | (exfalso; omega) | exact absurd trivial hc | exact absurd rfl hc | conv => whnf)
    | (refine Br.eq (fun hc => ?_) (fun hc => ?_) <;> first | (exfalso; omega) | exact absurd trivial hc | exact absurd rfl hc | conv => whnf)
    | (refine Br.ne (fun hc => ?_) (fun hc => ?_) <;> first | (exfalso; omega) | exact absurd trivial hc | exact absurd rfl hc | conv => whnf)
    | (with_reducible refine Br.and ?_)
    | (with_reducible refine Br.or ?_)
    | (refine Br.any (fun hc => ?_) (fun hc => ?_) <;> conv => whnf)
    | (refine Fit.inl ?_ ?_; (focus ((first | omega | exact ⟨by omega, by omega⟩ | rfl | exact trivial | assumption | (simp only [List.length_map, List.length_append, List.length_take, List.length_drop, List.length_cons, List.length_nil, List.length_replicate, List.length_set, List.length_reverse, nds_len, numsD_length]; omega) | (simp only [List.length_map, List.length_append, List.length_take, List.length_drop, List.length_cons, List.length_nil, List.length_replicate, List.length_set, List.length_reverse, nds_len, numsD_length]; exact ⟨by omega, by omega⟩) | exact nds_each | (refine map_each ?_; intro x; rfl) | (refine first_map ?_; intro x; rfl) | exact first_nds | simp | (simp; omega)); done)); conv => whnf)
    | (refine Each.mapAt (by assumption) ?_; conv => whnf)
    | (refine Each.ndsAt (by assumption) ?_; conv => whnf)
    | (refine Each.at (by assumption) ?_; conv => whnf)
    | (refine Each.map (fun x hx => ?_); (try simp only [Int.toNat_natCast, Int.toNat_zero, Int.toNat_one, Int.toNat_natCast_add_one] at hx); conv => whnf)
    | (refine Each.nds (fun a b c ps hx => ?_); (try simp only [Int.toNat_natCast, Int.toNat_zero, Int.toNat_one, Int.toNat_natCast_add_one] at hx); conv => whnf)
    | (refine Each.rep ?_; conv => whnf)
    | (refine Each.drop ?_)
    | (refine Each.take (fun hi => ?_))
    | (refine Each.any (fun x hx => ?_); (try simp only [Int.toNat_natCast, Int.toNat_zero, Int.toNat_one, Int.toNat_natCast_add_one] at hx); conv => whnf)
    | (refine NilB.any (fun hn => ?_) ?_ <;> conv => whnf)
    | (refine ⟨_, bytesOfD_nums _, ?_⟩; conv => whnf)
    | exact ⟨rfl, rfl⟩
    | (refine Fin.bool ?_ rfl)
    | (refine Fin.int ?_ rfl)
    | (refine Fin.str ?_ rfl)
    | (refine Fin.sl ?_ rfl)
    | exact trivial)
    · exact .inl ⟨rfl, rfl, by simpa using hn⟩
    · exact .inr ⟨rfl, rfl⟩
  · rintro r h (⟨rfl, rfl, rfl⟩ | ⟨rfl, rfl⟩)
    · exact .inl ⟨rfl, rfl, rfl, rfl⟩
    · exact .inr ⟨rfl, rfl⟩
set_option maxHeartbeats 4000000 in
theorem linkedC (names schemes : List Str) (hn : names.length < 2 ^ 62) (hs : bd schemes) (m : Nat) : ∀ ns : List Nd, szs ns < m → small ns → CallWP Tryz.prog 14 [(.d (.sl (names.map iS))), (.d (.sl (schemes.map iS))), (.d (.sl (nds ns)))] [] (fun r h => r = .d (.sl (nds (lks (keepA names schemes) ns))) ∧ h = []) := by
  induction m with
  | zero => intro ns h; omega
  | succ m ih =>
  intro ns hm hk
  have hl := small_len hk
  refine CallWP.val (Q := fun r h => r = .full 0 ∧ h = [(0, .row 39 (nds (lks (keepA names schemes) ns)))]) ?_ (by rintro r h ⟨rfl, rfl⟩; exact ⟨rfl, rfl⟩)
  (refine CallWP.go tabOK Tryz.func14 0 34 rfl rfl rfl rfl ?_; conv => whnf)
  repeat' (first
    | (refine Br.tt ?_; conv => whnf)
    | (refine Br.ff ?_; conv => whnf)
    | (refine Both.mk ?_ ?_ <;> conv => whnf)
    | (refine Br.not ?_)
    | (refine Need.mk ?_ ?_; (focus ((first | omega | exact ⟨by omega, by omega⟩ | rfl | exact trivial | assumption | (simp only [List.length_map, List.length_append, List.length_take, List.length_drop, List.length_cons, List.length_nil, List.length_replicate, List.length_set, List.length_reverse, nds_len, numsD_length]; omega) | (simp only [List.length_map, List.length_append, List.length_take, List.length_drop, List.length_cons, List.length_nil, List.length_replicate, List.length_set, List.length_reverse, nds_len, numsD_length]; exact ⟨by omega, by omega⟩) | exact nds_each | (refine map_each ?_; intro x; rfl) | (refine first_map ?_; intro x; rfl) | exact first_nds | simp | (simp; omega)); done)); conv => whnf)
    | (refine Br.t (by assumption) ?_; conv => whnf)
    | (refine Br.f (by assumption) ?_; conv => whnf)
    | (refine Br.self ?_; conv => whnf)
    | (refine Br.decT (by assumption) ?_; conv => whnf)
    | (refine Br.decF (by assumption) ?_; conv => whnf)
    | (refine Br.eqT (by assumption) ?_; conv => whnf)
    | (refine Br.eqF (by assumption) ?_; conv => whnf)
    | (refine Br.dec (fun hc => ?_) (fun hc => ?_) <;> (try simp only [List.length_map, List.length_append, List.length_take, List.length_drop, List.length_cons, List.length_nil, List.length_replicate, List.length_set, List.length_reverse, nds_len, numsD_length] at hc) <;> first | (exfalso; omega) | exact absurd trivial hc | exact absurd rfl hc | conv => whnf)
    | (refine Br.eq (fun hc => ?_) (fun hc => ?_) <;> first | (exfalso; omega) | exact absurd trivial hc | exact absurd rfl hc | conv => whnf)
    | (refine Br.ne (fun hc => ?_) (fun hc => ?_) <;> first | (exfalso; omega) | exact absurd trivial hc | exact absurd rfl hc | conv => whnf)
    | (with_reducible refine Br.and ?_)
    | (with_reducible refine Br.or ?_)
    | (refine Br.any (fun hc => ?_) (fun hc => ?_) <;> conv => whnf)
    | (refine Fit.inl ?_ ?_; (focus ((first | omega | exact ⟨by omega, by omega⟩ | rfl | exact trivial | assumption | (simp only [List.length_map, List.length_append, List.length_take, List.length_drop, List.length_cons, List.length_nil, List.length_replicate, List.length_set, List.length_reverse, nds_len, numsD_length]; omega) | (simp only [List.length_map, List.length_append, List.length_take, List.length_drop, List.length_cons, List.length_nil, List.length_replicate, List.length_set, List.length_reverse, nds_len, numsD_length]; exact ⟨by omega, by omega⟩) | exact nds_each | (refine map_each ?_; intro x; rfl) | (refine first_map ?_; intro x; rfl) | exact first_nds | simp | (simp; omega)); done)); conv => whnf)
    | (refine Each.mapAt (by assumption) ?_; conv => whnf)
    | (refine Each.ndsAt (by assumption) ?_; conv => whnf)
    | (refine Each.at (by assumption) ?_; conv => whnf)
    | (refine Each.map (fun x hx => ?_); (try simp only [Int.toNat_natCast, Int.toNat_zero, Int.toNat_one, Int.toNat_natCast_add_one] at hx); conv => whnf)
    | (refine Each.nds (fun a b c ps hx => ?_); (try simp only [Int.toNat_natCast, Int.toNat_zero, Int.toNat_one, Int.toNat_natCast_add_one] at hx); conv => whnf)
    | (refine Each.rep ?_; conv => whnf)
    | (refine Each.drop ?_)
    | (refine Each.take (fun hi => ?_))
    | (refine Each.any (fun x hx => ?_); (try simp only [Int.toNat_natCast, Int.toNat_zero, Int.toNat_one, Int.toNat_natCast_add_one] at hx); conv => whnf)
    | (refine NilB.any (fun hn => ?_) ?_ <;> conv => whnf)
    | (refine ⟨_, bytesOfD_nums _, ?_⟩; conv => whnf)
    | exact ⟨rfl, rfl⟩
    | (refine Fin.bool ?_ rfl)
    | (refine Fin.int ?_ rfl)
    | (refine Fin.str ?_ rfl)
    | (refine Fin.sl ?_ rfl)
    | exact trivial)
  refine WP.loop (α := Nat) tabOK (fun i => i ≤ ns.length) (fun i => ⟨[(3, .ref 0 0 0), (4, .ref 1 0 0), (7, .full 2), (10, (.d (.sl (nds ns)))), (11, (.d (.int .i64 ((nds ns).length)))), (12, (.d (.int .i64 (i))))], [(0, .var 22 [(.d (.sl (names.map iS)))]), (1, .var 22 [(.d (.sl (schemes.map iS)))]), (2, .row 39 (nds (lks (keepA names schemes) (ns.take i))))], 3, 34⟩) (fun i => ns.length - i) (0) ?_ ?_ ?_
  · exact Nat.zero_le _
  · conv => whnf
    repeat (first | exact True.intro | (refine Need.mk ?_ ?_; (focus ((first | rfl | assumption | omega | (simp only [List.length_map, List.length_append, List.length_take, List.length_drop, List.length_cons, List.length_nil, List.length_replicate, List.length_set, List.length_reverse, nds_len, numsD_length]; omega) | simp [lks, nds]); done)); conv => whnf) | ((conv => whnf); exact True.intro))
  intro i hi
  by_cases hlt : i < ns.length
  case neg =>
    have e : ns.take i = ns := List.take_of_length_le (by omega)
    rw [e]
    conv => whnf
    repeat' (first
    | (refine Br.tt ?_; conv => whnf)
    | (refine Br.ff ?_; conv => whnf)
    | (refine Both.mk ?_ ?_ <;> conv => whnf)
    | (refine Br.not ?_)
    | (refine Need.mk ?_ ?_; (focus ((first | omega | exact ⟨by omega, by omega⟩ | rfl | exact trivial | assumption | (simp only [List.length_map, List.length_append, List.length_take, List.length_drop, List.length_cons, List.length_nil, List.length_replicate, List.length_set, List.length_reverse, nds_len, numsD_length]; omega) | (simp only [List.length_map, List.length_append, List.length_take, List.length_drop, List.length_cons, List.length_nil, List.length_replicate, List.length_set, List.length_reverse, nds_len, numsD_length]; exact ⟨by omega, by omega⟩) | exact nds_each | (refine map_each ?_; intro x; rfl) | (refine first_map ?_; intro x; rfl) | exact first_nds | simp | (simp; omega)); done)); conv => whnf)
    | (refine Br.t (by assumption) ?_; conv => whnf)
    | (refine Br.f (by assumption) ?_; conv => whnf)
    | (refine Br.self ?_; conv => whnf)
    | (refine Br.decT (by assumption) ?_; conv => whnf)
    | (refine Br.decF (by assumption) ?_; conv => whnf)
    | (refine Br.eqT (by assumption) ?_; conv => whnf)
    | (refine Br.eqF (by assumption) ?_; conv => whnf)
    | (refine Br.dec (fun hc => ?_) (fun hc => ?_) <;> (try simp only [List.length_map, List.length_append, List.length_take, List.length_drop, List.length_cons, List.length_nil, List.length_replicate, List.length_set, List.length_reverse, nds_len, numsD_length] at hc) <;> first | (exfalso; omega) | exact absurd trivial hc | exact absurd rfl hc | conv => whnf)
    | (refine Br.eq (fun hc => ?_) (fun hc => ?_) <;> first | (exfalso; omega) | exact absurd trivial hc | exact absurd rfl hc | conv => whnf)
    | (refine Br.ne (fun hc => ?_) (fun hc => ?_) <;> first | (exfalso; omega) | exact absurd trivial hc | exact absurd rfl hc | conv => whnf)
    | (with_reducible refine Br.and ?_)
    | (with_reducible refine Br.or ?_)
    | (refine Br.any (fun hc => ?_) (fun hc => ?_) <;> conv => whnf)
    | (refine Fit.inl ?_ ?_; (focus ((first | omega | exact ⟨by omega, by omega⟩ | rfl | exact trivial | assumption | (simp only [List.length_map, List.length_append, List.length_take, List.length_drop, List.length_cons, List.length_nil, List.length_replicate, List.length_set, List.length_reverse, nds_len, numsD_length]; omega) | (simp only [List.length_map, List.length_append, List.length_take, List.length_drop, List.length_cons, List.length_nil, List.length_replicate, List.length_set, List.length_reverse, nds_len, numsD_length]; exact ⟨by omega, by omega⟩) | exact nds_each | (refine map_each ?_; intro x; rfl) | (refine first_map ?_; intro x; rfl) | exact first_nds | simp | (simp; omega)); done)); conv => whnf)
    | (refine Each.mapAt (by assumption) ?_; conv => whnf)
    | (refine Each.ndsAt (by assumption) ?_; conv => whnf)
    | (refine Each.at (by assumption) ?_; conv => whnf)
    | (refine Each.map (fun x hx => ?_); (try simp only [Int.toNat_natCast, Int.toNat_zero, Int.toNat_one, Int.toNat_natCast_add_one] at hx); conv => whnf)
    | (refine Each.nds (fun a b c ps hx => ?_); (try simp only [Int.toNat_natCast, Int.toNat_zero, Int.toNat_one, Int.toNat_natCast_add_one] at hx); conv => whnf)
    | (refine Each.rep ?_; conv => whnf)
    | (refine Each.drop ?_)
    | (refine Each.take (fun hi => ?_))
    | (refine Each.any (fun x hx => ?_); (try simp only [Int.toNat_natCast, Int.toNat_zero, Int.toNat_one, Int.toNat_natCast_add_one] at hx); conv => whnf)
    | (refine NilB.any (fun hn => ?_) ?_ <;> conv => whnf)
    | (refine ⟨_, bytesOfD_nums _, ?_⟩; conv => whnf)
    | exact ⟨rfl, rfl⟩
    | (refine Fin.bool ?_ rfl)
    | (refine Fin.int ?_ rfl)
    | (refine Fin.str ?_ rfl)
    | (refine Fin.sl ?_ rfl)
    | exact trivial)
  obtain ⟨⟨a, b, c, ps⟩, hx⟩ : ∃ x, ns[i]? = some x := ⟨_, List.getElem?_eq_getElem hlt⟩
  obtain ⟨k1, k2, k3⟩ := small_mem hk hx
  have k4 := szs_mem hx
  simp only [Nd.sz] at k4
  have hcl := cloneA b (by omega)
  have hdel := delF names schemes hn hs b (by omega) k3
  have hrec := ih ps (by omega) k1
  have hcs := cut_sz (keepA names schemes) i hk
  have htk := lks_take (k := keepA names schemes) hx
  generalize nds (lks (keepA names schemes) (ns.take i)) = O at *
  conv => whnf
  repeat' (first
    | (refine Br.tt ?_; conv => whnf)
    | (refine Br.ff ?_; conv => whnf)
    | (refine Both.mk ?_ ?_ <;> conv => whnf)
    | (refine Br.not ?_)
    | (refine Need.mk ?_ ?_; (focus ((first | omega | exact ⟨by omega, by omega⟩ | rfl | exact trivial | assumption | (simp only [List.length_map, List.length_append, List.length_take, List.length_drop, List.length_cons, List.length_nil, List.length_replicate, List.length_set, List.length_reverse, nds_len, numsD_length]; omega) | (simp only [List.length_map, List.length_append, List.length_take, List.length_drop, List.length_cons, List.length_nil, List.length_replicate, List.length_set, List.length_reverse, nds_len, numsD_length]; exact ⟨by omega, by omega⟩) | exact nds_each | (refine map_each ?_; intro x; rfl) | (refine first_map ?_; intro x; rfl) | exact first_nds | simp | (simp; omega)); done)); conv => whnf)
    | (refine Br.t (by assumption) ?_; conv => whnf)
    | (refine Br.f (by assumption) ?_; conv => whnf)
    | (refine Br.self ?_; conv => whnf)
    | (refine Br.decT (by assumption) ?_; conv => whnf)
    | (refine Br.decF (by assumption) ?_; conv => whnf)
    | (refine Br.eqT (by assumption) ?_; conv => whnf)
    | (refine Br.eqF (by assumption) ?_; conv => whnf)
    | (refine Br.dec (fun hc => ?_) (fun hc => ?_) <;> (try simp only [List.length_map, List.length_append, List.length_take, List.length_drop, List.length_cons, List.length_nil, List.length_replicate, List.length_set, List.length_reverse, nds_len, numsD_length] at hc) <;> first | (exfalso; omega) | exact absurd trivial hc | exact absurd rfl hc | conv => whnf)
    | (refine Br.eq (fun hc => ?_) (fun hc => ?_) <;> first | (exfalso; omega) | exact absurd trivial hc | exact absurd rfl hc | conv => whnf)
    | (refine Br.ne (fun hc => ?_) (fun hc => ?_) <;> first | (exfalso; omega) | exact absurd trivial hc | exact absurd rfl hc | conv => whnf)
    | (with_reducible refine Br.and ?_)
    | (with_reducible refine Br.or ?_)
    | (refine Br.any (fun hc => ?_) (fun hc => ?_) <;> conv => whnf)
    | (refine Fit.inl ?_ ?_; (focus ((first | omega | exact ⟨by omega, by omega⟩ | rfl | exact trivial | assumption | (simp only [List.length_map, List.length_append, List.length_take, List.length_drop, List.length_cons, List.length_nil, List.length_replicate, List.length_set, List.length_reverse, nds_len, numsD_length]; omega) | (simp only [List.length_map, List.length_append, List.length_take, List.length_drop, List.length_cons, List.length_nil, List.length_replicate, List.length_set, List.length_reverse, nds_len, numsD_length]; exact ⟨by omega, by omega⟩) | exact nds_each | (refine map_each ?_; intro x; rfl) | (refine first_map ?_; intro x; rfl) | exact first_nds | simp | (simp; omega)); done)); conv => whnf)
    | (refine Each.mapAt (by assumption) ?_; conv => whnf)
    | (refine Each.ndsAt (by assumption) ?_; conv => whnf)
    | (refine Each.at (by assumption) ?_; conv => whnf)
    | (refine Each.map (fun x hx => ?_); (try simp only [Int.toNat_natCast, Int.toNat_zero, Int.toNat_one, Int.toNat_natCast_add_one] at hx); conv => whnf)
    | (refine Each.nds (fun a b c ps hx => ?_); (try simp only [Int.toNat_natCast, Int.toNat_zero, Int.toNat_one, Int.toNat_natCast_add_one] at hx); conv => whnf)
    | (refine Each.rep ?_; conv => whnf)
    | (refine Each.drop ?_)
    | (refine Each.take (fun hi => ?_))
    | (refine Each.any (fun x hx => ?_); (try simp only [Int.toNat_natCast, Int.toNat_zero, Int.toNat_one, Int.toNat_natCast_add_one] at hx); conv => whnf)
    | (refine NilB.any (fun hn => ?_) ?_ <;> conv => whnf)
    | (refine CallWP.mono (hcl) ?_; rintro r h ⟨rfl, rfl⟩; conv => whnf)
    | (refine CallWP.mono (hdel) ?_; rintro r h ⟨rfl, rfl⟩; conv => whnf)
    | (refine CallWP.mono (hrec) ?_; rintro r h ⟨rfl, rfl⟩; conv => whnf)
    | (refine ⟨_, bytesOfD_nums _, ?_⟩; conv => whnf)
    | exact ⟨rfl, rfl⟩
    | (refine Fin.bool ?_ rfl)
    | (refine Fin.int ?_ rfl)
    | (refine Fin.str ?_ rfl)
    | (refine Fin.sl ?_ rfl)
    | exact trivial)
  refine ⟨i + 1, by omega, by dsimp only; omega, ?_⟩
  conv => whnf
  repeat (first | exact True.intro | (refine Need.mk ?_ ?_; (focus ((first | rfl | assumption | omega | (simp only [List.length_map, List.length_append, List.length_take, List.length_drop, List.length_cons, List.length_nil, List.length_replicate, List.length_set, List.length_reverse, nds_len, numsD_length]; omega) | simp [htk, lk, Nd.d]); done)); conv => whnf) | ((conv => whnf); exact True.intro))
set_option maxHeartbeats 8000000 in
theorem linkedR (names schemes : List Str) (hn : names.length < 2 ^ 62) (hs : bd schemes) (hz : schemesE schemes = 0) (m : Nat) : ∀ ns : List Nd, szs ns < m → small ns → CallWP Tryz.prog 15 [(.d (.sl (names.map iS))), (.d (.sl (schemes.map iS))), (.d (.sl (nds ns)))] [] (fun r h => r = .d (.sl (nds (lks (keepA names schemes) ns))) ∧ h = []) := by
  induction m with
  | zero => intro ns h; omega
  | succ m ih =>
  intro ns hm hk
  have hl := small_len hk
  refine CallWP.val (Q := fun r h => r = .full 0 ∧ h = [(0, .row 39 (nds (lks (keepA names schemes) ns)))]) ?_ (by rintro r h ⟨rfl, rfl⟩; exact ⟨rfl, rfl⟩)
  (refine CallWP.go tabOK Tryz.func15 0 66 rfl rfl rfl rfl ?_; conv => whnf)
  repeat' (first
    | (refine Br.tt ?_; conv => whnf)
    | (refine Br.ff ?_; conv => whnf)
    | (refine Both.mk ?_ ?_ <;> conv => whnf)
    | (refine Br.not ?_)
    | (refine Need.mk ?_ ?_; (focus ((first | omega | exact ⟨by omega, by omega⟩ | rfl | exact trivial | assumption | (simp only [List.length_map, List.length_append, List.length_take, List.length_drop, List.length_cons, List.length_nil, List.length_replicate, List.length_set, List.length_reverse, nds_len, numsD_length]; omega) | (simp only [List.length_map, List.length_append, List.length_take, List.length_drop, List.length_cons, List.length_nil, List.length_replicate, List.length_set, List.length_reverse, nds_len, numsD_length]; exact ⟨by omega, by omega⟩) | exact nds_each | (refine map_each ?_; intro x; rfl) | (refine first_map ?_; intro x; rfl) | exact first_nds | simp | (simp; omega)); done)); conv => whnf)
    | (refine Br.t (by assumption) ?_; conv => whnf)
    | (refine Br.f (by assumption) ?_; conv => whnf)
    | (refine Br.self ?_; conv => whnf)
    | (refine Br.decT (by assumption) ?_; conv => whnf)
    | (refine Br.decF (by assumption) ?_; conv => whnf)
    | (refine Br.eqT (by assumption) ?_; conv => whnf)
    | (refine Br.eqF (by assumption) ?_; conv => whnf)
    | (refine Br.dec (fun hc => ?_) (fun hc => ?_) <;> (try simp only [List.length_map, List.length_append, List.length_take, List.length_drop, List.length_cons, List.length_nil, List.length_replicate, List.length_set, List.length_reverse, nds_len, numsD_length] at hc) <;> first | (exfalso; omega) | exact absurd trivial hc | exact absurd rfl hc | conv => whnf)
    | (refine Br.eq (fun hc => ?_) (fun hc => ?_) <;> first | (exfalso; omega) | exact absurd trivial hc | exact absurd rfl hc | conv => whnf)
    | (refine Br.ne (fun hc => ?_) (fun hc => ?_) <;> first | (exfalso; omega) | exact absurd trivial hc | exact absurd rfl hc | conv => whnf)
    | (with_reducible refine Br.and ?_)
    | (with_reducible refine Br.or ?_)
    | (refine Br.any (fun hc => ?_) (fun hc => ?_) <;> conv => whnf)
    | (refine Fit.inl ?_ ?_; (focus ((first | omega | exact ⟨by omega, by omega⟩ | rfl | exact trivial | assumption | (simp only [List.length_map, List.length_append, List.length_take, List.length_drop, List.length_cons, List.length_nil, List.length_replicate, List.length_set, List.length_reverse, nds_len, numsD_length]; omega) | (simp only [List.length_map, List.length_append, List.length_take, List.length_drop, List.length_cons, List.length_nil, List.length_replicate, List.length_set, List.length_reverse, nds_len, numsD_length]; exact ⟨by omega, by omega⟩) | exact nds_each | (refine map_each ?_; intro x; rfl) | (refine first_map ?_; intro x; rfl) | exact first_nds | simp | (simp; omega)); done)); conv => whnf)
    | (refine Each.mapAt (by assumption) ?_; conv => whnf)
    | (refine Each.ndsAt (by assumption) ?_; conv => whnf)
    | (refine Each.at (by assumption) ?_; conv => whnf)
    | (refine Each.map (fun x hx => ?_); (try simp only [Int.toNat_natCast, Int.toNat_zero, Int.toNat_one, Int.toNat_natCast_add_one] at hx); conv => whnf)
    | (refine Each.nds (fun a b c ps hx => ?_); (try simp only [Int.toNat_natCast, Int.toNat_zero, Int.toNat_one, Int.toNat_natCast_add_one] at hx); conv => whnf)
    | (refine Each.rep ?_; conv => whnf)
    | (refine Each.drop ?_)
    | (refine Each.take (fun hi => ?_))
    | (refine Each.any (fun x hx => ?_); (try simp only [Int.toNat_natCast, Int.toNat_zero, Int.toNat_one, Int.toNat_natCast_add_one] at hx); conv => whnf)
    | (refine NilB.any (fun hn => ?_) ?_ <;> conv => whnf)
    | (refine ⟨_, bytesOfD_nums _, ?_⟩; conv => whnf)
    | (refine WP.sch (id := 5) tabOK hmix (.mob 0 (.mob 2 (.mob 4 (.mob 5 (.mob 6 (.alt [(1, .alt [(3, .alt [(7, .alt [(8, .alt [(9, .alt [(10, .alt [(11, .done)])]), (10, .alt [(9, .alt [(11, .done)])])]), (10, .alt [(8, .alt [(9, .alt [(11, .done)])])])]), (10, .alt [(7, .alt [(8, .alt [(9, .alt [(11, .done)])])])])]), (7, .alt [(3, .alt [(8, .alt [(9, .alt [(10, .alt [(11, .done)])]), (10, .alt [(9, .alt [(11, .done)])])]), (10, .alt [(8, .alt [(9, .alt [(11, .done)])])])]), (8, .alt [(3, .alt [(9, .alt [(10, .alt [(11, .done)])]), (10, .alt [(9, .alt [(11, .done)])])]), (10, .alt [(3, .alt [(9, .alt [(11, .done)])])])]), (10, .alt [(3, .alt [(8, .alt [(9, .alt [(11, .done)])])]), (8, .alt [(3, .alt [(9, .alt [(11, .done)])])])])]), (10, .alt [(3, .alt [(7, .alt [(8, .alt [(9, .alt [(11, .done)])])])]), (7, .alt [(3, .alt [(8, .alt [(9, .alt [(11, .done)])])]), (8, .alt [(3, .alt [(9, .alt [(11, .done)])])])])])]), (3, .alt [(1, .alt [(7, .alt [(8, .alt [(9, .alt [(10, .alt [(11, .done)])]), (10, .alt [(9, .alt [(11, .done)])])]), (10, .alt [(8, .alt [(9, .alt [(11, .done)])])])]), (10, .alt [(7, .alt [(8, .alt [(9, .alt [(11, .done)])])])])]), (7, .alt [(1, .alt [(8, .alt [(9, .alt [(10, .alt [(11, .done)])]), (10, .alt [(9, .alt [(11, .done)])])]), (10, .alt [(8, .alt [(9, .alt [(11, .done)])])])]), (8, .alt [(1, .alt [(9, .alt [(10, .alt [(11, .done)])]), (10, .alt [(9, .alt [(11, .done)])])]), (10, .alt [(1, .alt [(9, .alt [(11, .done)])])])]), (10, .alt [(1, .alt [(8, .alt [(9, .alt [(11, .done)])])]), (8, .alt [(1, .alt [(9, .alt [(11, .done)])])])])]), (10, .alt [(1, .alt [(7, .alt [(8, .alt [(9, .alt [(11, .done)])])])]), (7, .alt [(1, .alt [(8, .alt [(9, .alt [(11, .done)])])]), (8, .alt [(1, .alt [(9, .alt [(11, .done)])])])])])]), (7, .alt [(1, .alt [(3, .alt [(8, .alt [(9, .alt [(10, .alt [(11, .done)])]), (10, .alt [(9, .alt [(11, .done)])])]), (10, .alt [(8, .alt [(9, .alt [(11, .done)])])])]), (8, .alt [(3, .alt [(9, .alt [(10, .alt [(11, .done)])]), (10, .alt [(9, .alt [(11, .done)])])]), (10, .alt [(3, .alt [(9, .alt [(11, .done)])])])]), (10, .alt [(3, .alt [(8, .alt [(9, .alt [(11, .done)])])]), (8, .alt [(3, .alt [(9, .alt [(11, .done)])])])])]), (3, .alt [(1, .alt [(8, .alt [(9, .alt [(10, .alt [(11, .done)])]), (10, .alt [(9, .alt [(11, .done)])])]), (10, .alt [(8, .alt [(9, .alt [(11, .done)])])])]), (8, .alt [(1, .alt [(9, .alt [(10, .alt [(11, .done)])]), (10, .alt [(9, .alt [(11, .done)])])]), (10, .alt [(1, .alt [(9, .alt [(11, .done)])])])]), (10, .alt [(1, .alt [(8, .alt [(9, .alt [(11, .done)])])]), (8, .alt [(1, .alt [(9, .alt [(11, .done)])])])])]), (8, .alt [(1, .alt [(3, .alt [(9, .alt [(10, .alt [(11, .done)])]), (10, .alt [(9, .alt [(11, .done)])])]), (10, .alt [(3, .alt [(9, .alt [(11, .done)])])])]), (3, .alt [(1, .alt [(9, .alt [(10, .alt [(11, .done)])]), (10, .alt [(9, .alt [(11, .done)])])]), (10, .alt [(1, .alt [(9, .alt [(11, .done)])])])]), (10, .alt [(1, .alt [(3, .alt [(9, .alt [(11, .done)])])]), (3, .alt [(1, .alt [(9, .alt [(11, .done)])])])])]), (10, .alt [(1, .alt [(3, .alt [(8, .alt [(9, .alt [(11, .done)])])]), (8, .alt [(3, .alt [(9, .alt [(11, .done)])])])]), (3, .alt [(1, .alt [(8, .alt [(9, .alt [(11, .done)])])]), (8, .alt [(1, .alt [(9, .alt [(11, .done)])])])]), (8, .alt [(1, .alt [(3, .alt [(9, .alt [(11, .done)])])]), (3, .alt [(1, .alt [(9, .alt [(11, .done)])])])])])]), (10, .alt [(1, .alt [(3, .alt [(7, .alt [(8, .alt [(9, .alt [(11, .done)])])])]), (7, .alt [(3, .alt [(8, .alt [(9, .alt [(11, .done)])])]), (8, .alt [(3, .alt [(9, .alt [(11, .done)])])])])]), (3, .alt [(1, .alt [(7, .alt [(8, .alt [(9, .alt [(11, .done)])])])]), (7, .alt [(1, .alt [(8, .alt [(9, .alt [(11, .done)])])]), (8, .alt [(1, .alt [(9, .alt [(11, .done)])])])])]), (7, .alt [(1, .alt [(3, .alt [(8, .alt [(9, .alt [(11, .done)])])]), (8, .alt [(3, .alt [(9, .alt [(11, .done)])])])]), (3, .alt [(1, .alt [(8, .alt [(9, .alt [(11, .done)])])]), (8, .alt [(1, .alt [(9, .alt [(11, .done)])])])]), (8, .alt [(1, .alt [(3, .alt [(9, .alt [(11, .done)])])]), (3, .alt [(1, .alt [(9, .alt [(11, .done)])])])])])])])))))) (by kernel_rfl) ?_; conv => whnf)
    | exact ⟨rfl, rfl⟩
    | (refine Fin.bool ?_ rfl)
    | (refine Fin.int ?_ rfl)
    | (refine Fin.str ?_ rfl)
    | (refine Fin.sl ?_ rfl)
    | exact trivial)
  refine WP.loop (α := Nat) tabOK (fun i => i ≤ ns.length) (fun i => ⟨[(0, (.d (.sl (names.map iS)))), (1, (.d (.sl (schemes.map iS)))), (7, .full 0), (15, (.d (.sl (nds ns)))), (16, (.d (.int .i64 ((nds ns).length)))), (17, (.d (.int .i64 (i))))], [(0, .row 39 (nds (lks (keepA names schemes) (ns.take i))))], 1, 66⟩) (fun i => ns.length - i) (0) ?_ ?_ ?_
  · exact Nat.zero_le _
  · conv => whnf
    repeat (first | exact True.intro | (refine Need.mk ?_ ?_; (focus ((first | rfl | assumption | omega | (simp only [List.length_map, List.length_append, List.length_take, List.length_drop, List.length_cons, List.length_nil, List.length_replicate, List.length_set, List.length_reverse, nds_len, numsD_length]; omega) | simp [lks, nds]); done)); conv => whnf) | ((conv => whnf); exact True.intro))
  intro i hi
  by_cases hlt : i < ns.length
  case neg =>
    have e : ns.take i = ns := List.take_of_length_le (by omega)
    rw [e]
    conv => whnf
    repeat' (first
    | (refine Br.tt ?_; conv => whnf)
    | (refine Br.ff ?_; conv => whnf)
    | (refine Both.mk ?_ ?_ <;> conv => whnf)
    | (refine Br.not ?_)
    | (refine Need.mk ?_ ?_; (focus ((first | omega | exact ⟨by omega, by omega⟩ | rfl | exact trivial | assumption | (simp only [List.length_map, List.length_append, List.length_take, List.length_drop, List.length_cons, List.length_nil, List.length_replicate, List.length_set, List.length_reverse, nds_len, numsD_length]; omega) | (simp only [List.length_map, List.length_append, List.length_take, List.length_drop, List.length_cons, List.length_nil, List.length_replicate, List.length_set, List.length_reverse, nds_len, numsD_length]; exact ⟨by omega, by omega⟩) | exact nds_each | (refine map_each ?_; intro x; rfl) | (refine first_map ?_; intro x; rfl) | exact first_nds | simp | (simp; omega)); done)); conv => whnf)
    | (refine Br.t (by assumption) ?_; conv => whnf)
    | (refine Br.f (by assumption) ?_; conv => whnf)
    | (refine Br.self ?_; conv => whnf)
    | (refine Br.decT (by assumption) ?_; conv => whnf)
    | (refine Br.decF (by assumption) ?_; conv => whnf)
    | (refine Br.eqT (by assumption) ?_; conv => whnf)
    | (refine Br.eqF (by assumption) ?_; conv => whnf)
    | (refine Br.dec (fun hc => ?_) (fun hc => ?_) <;> (try simp only [List.length_map, List.length_append, List.length_take, List.length_drop, List.length_cons, List.length_nil, List.length_replicate, List.length_set, List.length_reverse, nds_len, numsD_length] at hc) <;> first | (exfalso; omega) | exact absurd trivial hc | exact absurd rfl hc | conv => whnf)
    | (refine Br.eq (fun hc => ?_) (fun hc => ?_) <;> first | (exfalso; omega) | exact absurd trivial hc | exact absurd rfl hc | conv => whnf)
    | (refine Br.ne (fun hc => ?_) (fun hc => ?_) <;> first | (exfalso; omega) | exact absurd trivial hc | exact absurd rfl hc | conv => whnf)
    | (with_reducible refine Br.and ?_)
    | (with_reducible refine Br.or ?_)
    | (refine Br.any (fun hc => ?_) (fun hc => ?_) <;> conv => whnf)
    | (refine Fit.inl ?_ ?_; (focus ((first | omega | exact ⟨by omega, by omega⟩ | rfl | exact trivial | assumption | (simp only [List.length_map, List.length_append, List.length_take, List.length_drop, List.length_cons, List.length_nil, List.length_replicate, List.length_set, List.length_reverse, nds_len, numsD_length]; omega) | (simp only [List.length_map, List.length_append, List.length_take, List.length_drop, List.length_cons, List.length_nil, List.length_replicate, List.length_set, List.length_reverse, nds_len, numsD_length]; exact ⟨by omega, by omega⟩) | exact nds_each | (refine map_each ?_; intro x; rfl) | (refine first_map ?_; intro x; rfl) | exact first_nds | simp | (simp; omega)); done)); conv => whnf)
    | (refine Each.mapAt (by assumption) ?_; conv => whnf)
    | (refine Each.ndsAt (by assumption) ?_; conv => whnf)
    | (refine Each.at (by assumption) ?_; conv => whnf)
    | (refine Each.map (fun x hx => ?_); (try simp only [Int.toNat_natCast, Int.toNat_zero, Int.toNat_one, Int.toNat_natCast_add_one] at hx); conv => whnf)
    | (refine Each.nds (fun a b c ps hx => ?_); (try simp only [Int.toNat_natCast, Int.toNat_zero, Int.toNat_one, Int.toNat_natCast_add_one] at hx); conv => whnf)
    | (refine Each.rep ?_; conv => whnf)
    | (refine Each.drop ?_)
    | (refine Each.take (fun hi => ?_))
    | (refine Each.any (fun x hx => ?_); (try simp only [Int.toNat_natCast, Int.toNat_zero, Int.toNat_one, Int.toNat_natCast_add_one] at hx); conv => whnf)
    | (refine NilB.any (fun hn => ?_) ?_ <;> conv => whnf)
    | (refine ⟨_, bytesOfD_nums _, ?_⟩; conv => whnf)
    | (refine WP.sch (id := 5) tabOK hmix (.mob 0 (.mob 2 (.mob 4 (.mob 5 (.mob 6 (.alt [(1, .alt [(3, .alt [(7, .alt [(8, .alt [(9, .alt [(10, .alt [(11, .done)])]), (10, .alt [(9, .alt [(11, .done)])])]), (10, .alt [(8, .alt [(9, .alt [(11, .done)])])])]), (10, .alt [(7, .alt [(8, .alt [(9, .alt [(11, .done)])])])])]), (7, .alt [(3, .alt [(8, .alt [(9, .alt [(10, .alt [(11, .done)])]), (10, .alt [(9, .alt [(11, .done)])])]), (10, .alt [(8, .alt [(9, .alt [(11, .done)])])])]), (8, .alt [(3, .alt [(9, .alt [(10, .alt [(11, .done)])]), (10, .alt [(9, .alt [(11, .done)])])]), (10, .alt [(3, .alt [(9, .alt [(11, .done)])])])]), (10, .alt [(3, .alt [(8, .alt [(9, .alt [(11, .done)])])]), (8, .alt [(3, .alt [(9, .alt [(11, .done)])])])])]), (10, .alt [(3, .alt [(7, .alt [(8, .alt [(9, .alt [(11, .done)])])])]), (7, .alt [(3, .alt [(8, .alt [(9, .alt [(11, .done)])])]), (8, .alt [(3, .alt [(9, .alt [(11, .done)])])])])])]), (3, .alt [(1, .alt [(7, .alt [(8, .alt [(9, .alt [(10, .alt [(11, .done)])]), (10, .alt [(9, .alt [(11, .done)])])]), (10, .alt [(8, .alt [(9, .alt [(11, .done)])])])]), (10, .alt [(7, .alt [(8, .alt [(9, .alt [(11, .done)])])])])]), (7, .alt [(1, .alt [(8, .alt [(9, .alt [(10, .alt [(11, .done)])]), (10, .alt [(9, .alt [(11, .done)])])]), (10, .alt [(8, .alt [(9, .alt [(11, .done)])])])]), (8, .alt [(1, .alt [(9, .alt [(10, .alt [(11, .done)])]), (10, .alt [(9, .alt [(11, .done)])])]), (10, .alt [(1, .alt [(9, .alt [(11, .done)])])])]), (10, .alt [(1, .alt [(8, .alt [(9, .alt [(11, .done)])])]), (8, .alt [(1, .alt [(9, .alt [(11, .done)])])])])]), (10, .alt [(1, .alt [(7, .alt [(8, .alt [(9, .alt [(11, .done)])])])]), (7, .alt [(1, .alt [(8, .alt [(9, .alt [(11, .done)])])]), (8, .alt [(1, .alt [(9, .alt [(11, .done)])])])])])]), (7, .alt [(1, .alt [(3, .alt [(8, .alt [(9, .alt [(10, .alt [(11, .done)])]), (10, .alt [(9, .alt [(11, .done)])])]), (10, .alt [(8, .alt [(9, .alt [(11, .done)])])])]), (8, .alt [(3, .alt [(9, .alt [(10, .alt [(11, .done)])]), (10, .alt [(9, .alt [(11, .done)])])]), (10, .alt [(3, .alt [(9, .alt [(11, .done)])])])]), (10, .alt [(3, .alt [(8, .alt [(9, .alt [(11, .done)])])]), (8, .alt [(3, .alt [(9, .alt [(11, .done)])])])])]), (3, .alt [(1, .alt [(8, .alt [(9, .alt [(10, .alt [(11, .done)])]), (10, .alt [(9, .alt [(11, .done)])])]), (10, .alt [(8, .alt [(9, .alt [(11, .done)])])])]), (8, .alt [(1, .alt [(9, .alt [(10, .alt [(11, .done)])]), (10, .alt [(9, .alt [(11, .done)])])]), (10, .alt [(1, .alt [(9, .alt [(11, .done)])])])]), (10, .alt [(1, .alt [(8, .alt [(9, .alt [(11, .done)])])]), (8, .alt [(1, .alt [(9, .alt [(11, .done)])])])])]), (8, .alt [(1, .alt [(3, .alt [(9, .alt [(10, .alt [(11, .done)])]), (10, .alt [(9, .alt [(11, .done)])])]), (10, .alt [(3, .alt [(9, .alt [(11, .done)])])])]), (3, .alt [(1, .alt [(9, .alt [(10, .alt [(11, .done)])]), (10, .alt [(9, .alt [(11, .done)])])]), (10, .alt [(1, .alt [(9, .alt [(11, .done)])])])]), (10, .alt [(1, .alt [(3, .alt [(9, .alt [(11, .done)])])]), (3, .alt [(1, .alt [(9, .alt [(11, .done)])])])])]), (10, .alt [(1, .alt [(3, .alt [(8, .alt [(9, .alt [(11, .done)])])]), (8, .alt [(3, .alt [(9, .alt [(11, .done)])])])]), (3, .alt [(1, .alt [(8, .alt [(9, .alt [(11, .done)])])]), (8, .alt [(1, .alt [(9, .alt [(11, .done)])])])]), (8, .alt [(1, .alt [(3, .alt [(9, .alt [(11, .done)])])]), (3, .alt [(1, .alt [(9, .alt [(11, .done)])])])])])]), (10, .alt [(1, .alt [(3, .alt [(7, .alt [(8, .alt [(9, .alt [(11, .done)])])])]), (7, .alt [(3, .alt [(8, .alt [(9, .alt [(11, .done)])])]), (8, .alt [(3, .alt [(9, .alt [(11, .done)])])])])]), (3, .alt [(1, .alt [(7, .alt [(8, .alt [(9, .alt [(11, .done)])])])]), (7, .alt [(1, .alt [(8, .alt [(9, .alt [(11, .done)])])]), (8, .alt [(1, .alt [(9, .alt [(11, .done)])])])])]), (7, .alt [(1, .alt [(3, .alt [(8, .alt [(9, .alt [(11, .done)])])]), (8, .alt [(3, .alt [(9, .alt [(11, .done)])])])]), (3, .alt [(1, .alt [(8, .alt [(9, .alt [(11, .done)])])]), (8, .alt [(1, .alt [(9, .alt [(11, .done)])])])]), (8, .alt [(1, .alt [(3, .alt [(9, .alt [(11, .done)])])]), (3, .alt [(1, .alt [(9, .alt [(11, .done)])])])])])])])))))) (by kernel_rfl) ?_; conv => whnf)
    | exact ⟨rfl, rfl⟩
    | (refine Fin.bool ?_ rfl)
    | (refine Fin.int ?_ rfl)
    | (refine Fin.str ?_ rfl)
    | (refine Fin.sl ?_ rfl)
    | exact trivial)
  obtain ⟨⟨a, b, c, ps⟩, hx⟩ : ∃ x, ns[i]? = some x := ⟨_, List.getElem?_eq_getElem hlt⟩
  obtain ⟨k1, k2, k3⟩ := small_mem hk hx
  have k4 := szs_mem hx
  simp only [Nd.sz] at k4
  have hrec := ih ps (by omega) k1
  have hcs := cut_sz (keepA names schemes) i hk
  have htk := lks_take (k := keepA names schemes) hx
  generalize nds (lks (keepA names schemes) (ns.take i)) = O at *
  conv => whnf
  repeat' (first
    | (refine Br.tt ?_; conv => whnf)
    | (refine Br.ff ?_; conv => whnf)
    | (refine Both.mk ?_ ?_ <;> conv => whnf)
    | (refine Br.not ?_)
    | (refine Need.mk ?_ ?_; (focus ((first | omega | exact ⟨by omega, by omega⟩ | rfl | exact trivial | assumption | (simp only [List.length_map, List.length_append, List.length_take, List.length_drop, List.length_cons, List.length_nil, List.length_replicate, List.length_set, List.length_reverse, nds_len, numsD_length]; omega) | (simp only [List.length_map, List.length_append, List.length_take, List.length_drop, List.length_cons, List.length_nil, List.length_replicate, List.length_set, List.length_reverse, nds_len, numsD_length]; exact ⟨by omega, by omega⟩) | exact nds_each | (refine map_each ?_; intro x; rfl) | (refine first_map ?_; intro x; rfl) | exact first_nds | simp | (simp; omega)); done)); conv => whnf)
    | (refine Br.t (by assumption) ?_; conv => whnf)
    | (refine Br.f (by assumption) ?_; conv => whnf)
    | (refine Br.self ?_; conv => whnf)
    | (refine Br.decT (by assumption) ?_; conv => whnf)
    | (refine Br.decF (by assumption) ?_; conv => whnf)
    | (refine Br.eqT (by assumption) ?_; conv => whnf)
    | (refine Br.eqF (by assumption) ?_; conv => whnf)
    | (refine Br.dec (fun hc => ?_) (fun hc => ?_) <;> (try simp only [List.length_map, List.length_append, List.length_take, List.length_drop, List.length_cons, List.length_nil, List.length_replicate, List.length_set, List.length_reverse, nds_len, numsD_length] at hc) <;> first | (exfalso; omega) | exact absurd trivial hc | exact absurd rfl hc | conv => whnf)
    | (refine Br.eq (fun hc => ?_) (fun hc => ?_) <;> first | (exfalso; omega) | exact absurd trivial hc | exact absurd rfl hc | conv => whnf)
    | (refine Br.ne (fun hc => ?_) (fun hc => ?_) <;> first | (exfalso; omega) | exact absurd trivial hc | exact absurd rfl hc | conv => whnf)
    | (with_reducible refine Br.and ?_)
    | (with_reducible refine Br.or ?_)
    | (refine Br.any (fun hc => ?_) (fun hc => ?_) <;> conv => whnf)
    | (refine Fit.inl ?_ ?_; (focus ((first | omega | exact ⟨by omega, by omega⟩ | rfl | exact trivial | assumption | (simp only [List.length_map, List.length_append, List.length_take, List.length_drop, List.length_cons, List.length_nil, List.length_replicate, List.length_set, List.length_reverse, nds_len, numsD_length]; omega) | (simp only [List.length_map, List.length_append, List.length_take, List.length_drop, List.length_cons, List.length_nil, List.length_replicate, List.length_set, List.length_reverse, nds_len, numsD_length]; exact ⟨by omega, by omega⟩) | exact nds_each | (refine map_each ?_; intro x; rfl) | (refine first_map ?_; intro x; rfl) | exact first_nds | simp | (simp; omega)); done)); conv => whnf)
    | (refine Each.mapAt (by assumption) ?_; conv => whnf)
    | (refine Each.ndsAt (by assumption) ?_; conv => whnf)
    | (refine Each.at (by assumption) ?_; conv => whnf)
    | (refine Each.map (fun x hx => ?_); (try simp only [Int.toNat_natCast, Int.toNat_zero, Int.toNat_one, Int.toNat_natCast_add_one] at hx); conv => whnf)
    | (refine Each.nds (fun a b c ps hx => ?_); (try simp only [Int.toNat_natCast, Int.toNat_zero, Int.toNat_one, Int.toNat_natCast_add_one] at hx); conv => whnf)
    | (refine Each.rep ?_; conv => whnf)
    | (refine Each.drop ?_)
    | (refine Each.take (fun hi => ?_))
    | (refine Each.any (fun x hx => ?_); (try simp only [Int.toNat_natCast, Int.toNat_zero, Int.toNat_one, Int.toNat_natCast_add_one] at hx); conv => whnf)
    | (refine NilB.any (fun hn => ?_) ?_ <;> conv => whnf)
    | (refine ⟨_, bytesOfD_nums _, ?_⟩; conv => whnf)
    | exact ⟨rfl, rfl⟩
    | (refine Fin.bool ?_ rfl)
    | (refine Fin.int ?_ rfl)
    | (refine Fin.str ?_ rfl)
    | (refine Fin.sl ?_ rfl)
    | exact trivial)
  refine WP.cut ⟨[(0, (.d (.sl (names.map iS)))), (1, (.d (.sl (schemes.map iS)))), (7, .full 0), (9, .ref 1 0 0), (10, .ref 2 0 0), (15, (.d (.sl (nds ns)))), (16, (.d (.int .i64 ((nds ns).length)))), (17, (.d (.int .i64 (i))))], [(0, .row 39 O), (1, .var 39 [(.d (.str (a))), (.d (.sl (b.map Attr.d))), (.d (.str (c))), (.d (.sl (nds ps)))]), (2, .var 39 [(.d (.str (a))), .nils, (.d (.str (c))), (.d (.sl (nds (lks (keepA names schemes) ps))))])], 3, 66⟩ ?_ ?_
  · repeat' (first
    | (refine Br.tt ?_; conv => whnf)
    | (refine Br.ff ?_; conv => whnf)
    | (refine Both.mk ?_ ?_ <;> conv => whnf)
    | (refine Br.not ?_)
    | (refine Need.mk ?_ ?_; (focus ((first | omega | exact ⟨by omega, by omega⟩ | rfl | exact trivial | assumption | (simp only [List.length_map, List.length_append, List.length_take, List.length_drop, List.length_cons, List.length_nil, List.length_replicate, List.length_set, List.length_reverse, nds_len, numsD_length]; omega) | (simp only [List.length_map, List.length_append, List.length_take, List.length_drop, List.length_cons, List.length_nil, List.length_replicate, List.length_set, List.length_reverse, nds_len, numsD_length]; exact ⟨by omega, by omega⟩) | exact nds_each | (refine map_each ?_; intro x; rfl) | (refine first_map ?_; intro x; rfl) | exact first_nds | simp | (simp; omega)); done)); conv => whnf)
    | (refine Br.t (by assumption) ?_; conv => whnf)
    | (refine Br.f (by assumption) ?_; conv => whnf)
    | (refine Br.self ?_; conv => whnf)
    | (refine Br.decT (by assumption) ?_; conv => whnf)
    | (refine Br.decF (by assumption) ?_; conv => whnf)
    | (refine Br.eqT (by assumption) ?_; conv => whnf)
    | (refine Br.eqF (by assumption) ?_; conv => whnf)
    | (refine Br.dec (fun hc => ?_) (fun hc => ?_) <;> (try simp only [List.length_map, List.length_append, List.length_take, List.length_drop, List.length_cons, List.length_nil, List.length_replicate, List.length_set, List.length_reverse, nds_len, numsD_length] at hc) <;> first | (exfalso; omega) | exact absurd trivial hc | exact absurd rfl hc | conv => whnf)
    | (refine Br.eq (fun hc => ?_) (fun hc => ?_) <;> first | (exfalso; omega) | exact absurd trivial hc | exact absurd rfl hc | conv => whnf)
    | (refine Br.ne (fun hc => ?_) (fun hc => ?_) <;> first | (exfalso; omega) | exact absurd trivial hc | exact absurd rfl hc | conv => whnf)
    | (with_reducible refine Br.and ?_)
    | (with_reducible refine Br.or ?_)
    | (refine Br.any (fun hc => ?_) (fun hc => ?_) <;> conv => whnf)
    | (refine Fit.inl ?_ ?_; (focus ((first | omega | exact ⟨by omega, by omega⟩ | rfl | exact trivial | assumption | (simp only [List.length_map, List.length_append, List.length_take, List.length_drop, List.length_cons, List.length_nil, List.length_replicate, List.length_set, List.length_reverse, nds_len, numsD_length]; omega) | (simp only [List.length_map, List.length_append, List.length_take, List.length_drop, List.length_cons, List.length_nil, List.length_replicate, List.length_set, List.length_reverse, nds_len, numsD_length]; exact ⟨by omega, by omega⟩) | exact nds_each | (refine map_each ?_; intro x; rfl) | (refine first_map ?_; intro x; rfl) | exact first_nds | simp | (simp; omega)); done)); conv => whnf)
    | (refine Each.mapAt (by assumption) ?_; conv => whnf)
    | (refine Each.ndsAt (by assumption) ?_; conv => whnf)
    | (refine Each.at (by assumption) ?_; conv => whnf)
    | (refine Each.map (fun x hx => ?_); (try simp only [Int.toNat_natCast, Int.toNat_zero, Int.toNat_one, Int.toNat_natCast_add_one] at hx); conv => whnf)
    | (refine Each.nds (fun a b c ps hx => ?_); (try simp only [Int.toNat_natCast, Int.toNat_zero, Int.toNat_one, Int.toNat_natCast_add_one] at hx); conv => whnf)
    | (refine Each.rep ?_; conv => whnf)
    | (refine Each.drop ?_)
    | (refine Each.take (fun hi => ?_))
    | (refine Each.any (fun x hx => ?_); (try simp only [Int.toNat_natCast, Int.toNat_zero, Int.toNat_one, Int.toNat_natCast_add_one] at hx); conv => whnf)
    | (refine NilB.any (fun hn => ?_) ?_ <;> conv => whnf)
    | (refine CallWP.mono (hrec) ?_; rintro r h ⟨rfl, rfl⟩; conv => whnf)
    | (refine ⟨_, bytesOfD_nums _, ?_⟩; conv => whnf)
    | (refine WP.sch (id := 5) tabOK hmix (.mob 0 (.mob 2 (.mob 4 (.mob 5 (.mob 6 (.alt [(1, .alt [(3, .alt [(7, .alt [(8, .alt [(9, .alt [(10, .alt [(11, .done)])]), (10, .alt [(9, .alt [(11, .done)])])]), (10, .alt [(8, .alt [(9, .alt [(11, .done)])])])]), (10, .alt [(7, .alt [(8, .alt [(9, .alt [(11, .done)])])])])]), (7, .alt [(3, .alt [(8, .alt [(9, .alt [(10, .alt [(11, .done)])]), (10, .alt [(9, .alt [(11, .done)])])]), (10, .alt [(8, .alt [(9, .alt [(11, .done)])])])]), (8, .alt [(3, .alt [(9, .alt [(10, .alt [(11, .done)])]), (10, .alt [(9, .alt [(11, .done)])])]), (10, .alt [(3, .alt [(9, .alt [(11, .done)])])])]), (10, .alt [(3, .alt [(8, .alt [(9, .alt [(11, .done)])])]), (8, .alt [(3, .alt [(9, .alt [(11, .done)])])])])]), (10, .alt [(3, .alt [(7, .alt [(8, .alt [(9, .alt [(11, .done)])])])]), (7, .alt [(3, .alt [(8, .alt [(9, .alt [(11, .done)])])]), (8, .alt [(3, .alt [(9, .alt [(11, .done)])])])])])]), (3, .alt [(1, .alt [(7, .alt [(8, .alt [(9, .alt [(10, .alt [(11, .done)])]), (10, .alt [(9, .alt [(11, .done)])])]), (10, .alt [(8, .alt [(9, .alt [(11, .done)])])])]), (10, .alt [(7, .alt [(8, .alt [(9, .alt [(11, .done)])])])])]), (7, .alt [(1, .alt [(8, .alt [(9, .alt [(10, .alt [(11, .done)])]), (10, .alt [(9, .alt [(11, .done)])])]), (10, .alt [(8, .alt [(9, .alt [(11, .done)])])])]), (8, .alt [(1, .alt [(9, .alt [(10, .alt [(11, .done)])]), (10, .alt [(9, .alt [(11, .done)])])]), (10, .alt [(1, .alt [(9, .alt [(11, .done)])])])]), (10, .alt [(1, .alt [(8, .alt [(9, .alt [(11, .done)])])]), (8, .alt [(1, .alt [(9, .alt [(11, .done)])])])])]), (10, .alt [(1, .alt [(7, .alt [(8, .alt [(9, .alt [(11, .done)])])])]), (7, .alt [(1, .alt [(8, .alt [(9, .alt [(11, .done)])])]), (8, .alt [(1, .alt [(9, .alt [(11, .done)])])])])])]), (7, .alt [(1, .alt [(3, .alt [(8, .alt [(9, .alt [(10, .alt [(11, .done)])]), (10, .alt [(9, .alt [(11, .done)])])]), (10, .alt [(8, .alt [(9, .alt [(11, .done)])])])]), (8, .alt [(3, .alt [(9, .alt [(10, .alt [(11, .done)])]), (10, .alt [(9, .alt [(11, .done)])])]), (10, .alt [(3, .alt [(9, .alt [(11, .done)])])])]), (10, .alt [(3, .alt [(8, .alt [(9, .alt [(11, .done)])])]), (8, .alt [(3, .alt [(9, .alt [(11, .done)])])])])]), (3, .alt [(1, .alt [(8, .alt [(9, .alt [(10, .alt [(11, .done)])]), (10, .alt [(9, .alt [(11, .done)])])]), (10, .alt [(8, .alt [(9, .alt [(11, .done)])])])]), (8, .alt [(1, .alt [(9, .alt [(10, .alt [(11, .done)])]), (10, .alt [(9, .alt [(11, .done)])])]), (10, .alt [(1, .alt [(9, .alt [(11, .done)])])])]), (10, .alt [(1, .alt [(8, .alt [(9, .alt [(11, .done)])])]), (8, .alt [(1, .alt [(9, .alt [(11, .done)])])])])]), (8, .alt [(1, .alt [(3, .alt [(9, .alt [(10, .alt [(11, .done)])]), (10, .alt [(9, .alt [(11, .done)])])]), (10, .alt [(3, .alt [(9, .alt [(11, .done)])])])]), (3, .alt [(1, .alt [(9, .alt [(10, .alt [(11, .done)])]), (10, .alt [(9, .alt [(11, .done)])])]), (10, .alt [(1, .alt [(9, .alt [(11, .done)])])])]), (10, .alt [(1, .alt [(3, .alt [(9, .alt [(11, .done)])])]), (3, .alt [(1, .alt [(9, .alt [(11, .done)])])])])]), (10, .alt [(1, .alt [(3, .alt [(8, .alt [(9, .alt [(11, .done)])])]), (8, .alt [(3, .alt [(9, .alt [(11, .done)])])])]), (3, .alt [(1, .alt [(8, .alt [(9, .alt [(11, .done)])])]), (8, .alt [(1, .alt [(9, .alt [(11, .done)])])])]), (8, .alt [(1, .alt [(3, .alt [(9, .alt [(11, .done)])])]), (3, .alt [(1, .alt [(9, .alt [(11, .done)])])])])])]), (10, .alt [(1, .alt [(3, .alt [(7, .alt [(8, .alt [(9, .alt [(11, .done)])])])]), (7, .alt [(3, .alt [(8, .alt [(9, .alt [(11, .done)])])]), (8, .alt [(3, .alt [(9, .alt [(11, .done)])])])])]), (3, .alt [(1, .alt [(7, .alt [(8, .alt [(9, .alt [(11, .done)])])])]), (7, .alt [(1, .alt [(8, .alt [(9, .alt [(11, .done)])])]), (8, .alt [(1, .alt [(9, .alt [(11, .done)])])])])]), (7, .alt [(1, .alt [(3, .alt [(8, .alt [(9, .alt [(11, .done)])])]), (8, .alt [(3, .alt [(9, .alt [(11, .done)])])])]), (3, .alt [(1, .alt [(8, .alt [(9, .alt [(11, .done)])])]), (8, .alt [(1, .alt [(9, .alt [(11, .done)])])])]), (8, .alt [(1, .alt [(3, .alt [(9, .alt [(11, .done)])])]), (3, .alt [(1, .alt [(9, .alt [(11, .done)])])])])])])])))))) (by kernel_rfl) ?_; conv => whnf)
    | exact ⟨rfl, rfl⟩
    | (refine Fin.bool ?_ rfl)
    | (refine Fin.int ?_ rfl)
    | (refine Fin.str ?_ rfl)
    | (refine Fin.sl ?_ rfl)
    | exact trivial)
  conv => whnf
  repeat' (first
    | (refine Br.tt ?_; conv => whnf)
    | (refine Br.ff ?_; conv => whnf)
    | (refine Both.mk ?_ ?_ <;> conv => whnf)
    | (refine Br.not ?_)
    | (refine Need.mk ?_ ?_; (focus ((first | omega | exact ⟨by omega, by omega⟩ | rfl | exact trivial | assumption | (simp only [List.length_map, List.length_append, List.length_take, List.length_drop, List.length_cons, List.length_nil, List.length_replicate, List.length_set, List.length_reverse, nds_len, numsD_length]; omega) | (simp only [List.length_map, List.length_append, List.length_take, List.length_drop, List.length_cons, List.length_nil, List.length_replicate, List.length_set, List.length_reverse, nds_len, numsD_length]; exact ⟨by omega, by omega⟩) | exact nds_each | (refine map_each ?_; intro x; rfl) | (refine first_map ?_; intro x; rfl) | exact first_nds | simp | (simp; omega)); done)); conv => whnf)
    | (refine Br.t (by assumption) ?_; conv => whnf)
    | (refine Br.f (by assumption) ?_; conv => whnf)
    | (refine Br.self ?_; conv => whnf)
    | (refine Br.decT (by assumption) ?_; conv => whnf)
    | (refine Br.decF (by assumption) ?_; conv => whnf)
    | (refine Br.eqT (by assumption) ?_; conv => whnf)
    | (refine Br.eqF (by assumption) ?_; conv => whnf)
    | (refine Br.dec (fun hc => ?_) (fun hc => ?_) <;> (try simp only [List.length_map, List.length_append, List.length_take, List.length_drop, List.length_cons, List.length_nil, List.length_replicate, List.length_set, List.length_reverse, nds_len, numsD_length] at hc) <;> first | (exfalso; omega) | exact absurd trivial hc | exact absurd rfl hc | conv => whnf)
    | (refine Br.eq (fun hc => ?_) (fun hc => ?_) <;> first | (exfalso; omega) | exact absurd trivial hc | exact absurd rfl hc | conv => whnf)
    | (refine Br.ne (fun hc => ?_) (fun hc => ?_) <;> first | (exfalso; omega) | exact absurd trivial hc | exact absurd rfl hc | conv => whnf)
    | (with_reducible refine Br.and ?_)
    | (with_reducible refine Br.or ?_)
    | (refine Br.any (fun hc => ?_) (fun hc => ?_) <;> conv => whnf)
    | (refine Fit.inl ?_ ?_; (focus ((first | omega | exact ⟨by omega, by omega⟩ | rfl | exact trivial | assumption | (simp only [List.length_map, List.length_append, List.length_take, List.length_drop, List.length_cons, List.length_nil, List.length_replicate, List.length_set, List.length_reverse, nds_len, numsD_length]; omega) | (simp only [List.length_map, List.length_append, List.length_take, List.length_drop, List.length_cons, List.length_nil, List.length_replicate, List.length_set, List.length_reverse, nds_len, numsD_length]; exact ⟨by omega, by omega⟩) | exact nds_each | (refine map_each ?_; intro x; rfl) | (refine first_map ?_; intro x; rfl) | exact first_nds | simp | (simp; omega)); done)); conv => whnf)
    | (refine Each.mapAt (by assumption) ?_; conv => whnf)
    | (refine Each.ndsAt (by assumption) ?_; conv => whnf)
    | (refine Each.at (by assumption) ?_; conv => whnf)
    | (refine Each.map (fun x hx => ?_); (try simp only [Int.toNat_natCast, Int.toNat_zero, Int.toNat_one, Int.toNat_natCast_add_one] at hx); conv => whnf)
    | (refine Each.nds (fun a b c ps hx => ?_); (try simp only [Int.toNat_natCast, Int.toNat_zero, Int.toNat_one, Int.toNat_natCast_add_one] at hx); conv => whnf)
    | (refine Each.rep ?_; conv => whnf)
    | (refine Each.drop ?_)
    | (refine Each.take (fun hi => ?_))
    | (refine Each.any (fun x hx => ?_); (try simp only [Int.toNat_natCast, Int.toNat_zero, Int.toNat_one, Int.toNat_natCast_add_one] at hx); conv => whnf)
    | (refine NilB.any (fun hn => ?_) ?_ <;> conv => whnf)
    | (refine ⟨_, bytesOfD_nums _, ?_⟩; conv => whnf)
    | (refine WP.sch (id := 5) tabOK hmix (.mob 0 (.mob 2 (.mob 4 (.mob 5 (.mob 6 (.alt [(1, .alt [(3, .alt [(7, .alt [(8, .alt [(9, .alt [(10, .alt [(11, .done)])]), (10, .alt [(9, .alt [(11, .done)])])]), (10, .alt [(8, .alt [(9, .alt [(11, .done)])])])]), (10, .alt [(7, .alt [(8, .alt [(9, .alt [(11, .done)])])])])]), (7, .alt [(3, .alt [(8, .alt [(9, .alt [(10, .alt [(11, .done)])]), (10, .alt [(9, .alt [(11, .done)])])]), (10, .alt [(8, .alt [(9, .alt [(11, .done)])])])]), (8, .alt [(3, .alt [(9, .alt [(10, .alt [(11, .done)])]), (10, .alt [(9, .alt [(11, .done)])])]), (10, .alt [(3, .alt [(9, .alt [(11, .done)])])])]), (10, .alt [(3, .alt [(8, .alt [(9, .alt [(11, .done)])])]), (8, .alt [(3, .alt [(9, .alt [(11, .done)])])])])]), (10, .alt [(3, .alt [(7, .alt [(8, .alt [(9, .alt [(11, .done)])])])]), (7, .alt [(3, .alt [(8, .alt [(9, .alt [(11, .done)])])]), (8, .alt [(3, .alt [(9, .alt [(11, .done)])])])])])]), (3, .alt [(1, .alt [(7, .alt [(8, .alt [(9, .alt [(10, .alt [(11, .done)])]), (10, .alt [(9, .alt [(11, .done)])])]), (10, .alt [(8, .alt [(9, .alt [(11, .done)])])])]), (10, .alt [(7, .alt [(8, .alt [(9, .alt [(11, .done)])])])])]), (7, .alt [(1, .alt [(8, .alt [(9, .alt [(10, .alt [(11, .done)])]), (10, .alt [(9, .alt [(11, .done)])])]), (10, .alt [(8, .alt [(9, .alt [(11, .done)])])])]), (8, .alt [(1, .alt [(9, .alt [(10, .alt [(11, .done)])]), (10, .alt [(9, .alt [(11, .done)])])]), (10, .alt [(1, .alt [(9, .alt [(11, .done)])])])]), (10, .alt [(1, .alt [(8, .alt [(9, .alt [(11, .done)])])]), (8, .alt [(1, .alt [(9, .alt [(11, .done)])])])])]), (10, .alt [(1, .alt [(7, .alt [(8, .alt [(9, .alt [(11, .done)])])])]), (7, .alt [(1, .alt [(8, .alt [(9, .alt [(11, .done)])])]), (8, .alt [(1, .alt [(9, .alt [(11, .done)])])])])])]), (7, .alt [(1, .alt [(3, .alt [(8, .alt [(9, .alt [(10, .alt [(11, .done)])]), (10, .alt [(9, .alt [(11, .done)])])]), (10, .alt [(8, .alt [(9, .alt [(11, .done)])])])]), (8, .alt [(3, .alt [(9, .alt [(10, .alt [(11, .done)])]), (10, .alt [(9, .alt [(11, .done)])])]), (10, .alt [(3, .alt [(9, .alt [(11, .done)])])])]), (10, .alt [(3, .alt [(8, .alt [(9, .alt [(11, .done)])])]), (8, .alt [(3, .alt [(9, .alt [(11, .done)])])])])]), (3, .alt [(1, .alt [(8, .alt [(9, .alt [(10, .alt [(11, .done)])]), (10, .alt [(9, .alt [(11, .done)])])]), (10, .alt [(8, .alt [(9, .alt [(11, .done)])])])]), (8, .alt [(1, .alt [(9, .alt [(10, .alt [(11, .done)])]), (10, .alt [(9, .alt [(11, .done)])])]), (10, .alt [(1, .alt [(9, .alt [(11, .done)])])])]), (10, .alt [(1, .alt [(8, .alt [(9, .alt [(11, .done)])])]), (8, .alt [(1, .alt [(9, .alt [(11, .done)])])])])]), (8, .alt [(1, .alt [(3, .alt [(9, .alt [(10, .alt [(11, .done)])]), (10, .alt [(9, .alt [(11, .done)])])]), (10, .alt [(3, .alt [(9, .alt [(11, .done)])])])]), (3, .alt [(1, .alt [(9, .alt [(10, .alt [(11, .done)])]), (10, .alt [(9, .alt [(11, .done)])])]), (10, .alt [(1, .alt [(9, .alt [(11, .done)])])])]), (10, .alt [(1, .alt [(3, .alt [(9, .alt [(11, .done)])])]), (3, .alt [(1, .alt [(9, .alt [(11, .done)])])])])]), (10, .alt [(1, .alt [(3, .alt [(8, .alt [(9, .alt [(11, .done)])])]), (8, .alt [(3, .alt [(9, .alt [(11, .done)])])])]), (3, .alt [(1, .alt [(8, .alt [(9, .alt [(11, .done)])])]), (8, .alt [(1, .alt [(9, .alt [(11, .done)])])])]), (8, .alt [(1, .alt [(3, .alt [(9, .alt [(11, .done)])])]), (3, .alt [(1, .alt [(9, .alt [(11, .done)])])])])])]), (10, .alt [(1, .alt [(3, .alt [(7, .alt [(8, .alt [(9, .alt [(11, .done)])])])]), (7, .alt [(3, .alt [(8, .alt [(9, .alt [(11, .done)])])]), (8, .alt [(3, .alt [(9, .alt [(11, .done)])])])])]), (3, .alt [(1, .alt [(7, .alt [(8, .alt [(9, .alt [(11, .done)])])])]), (7, .alt [(1, .alt [(8, .alt [(9, .alt [(11, .done)])])]), (8, .alt [(1, .alt [(9, .alt [(11, .done)])])])])]), (7, .alt [(1, .alt [(3, .alt [(8, .alt [(9, .alt [(11, .done)])])]), (8, .alt [(3, .alt [(9, .alt [(11, .done)])])])]), (3, .alt [(1, .alt [(8, .alt [(9, .alt [(11, .done)])])]), (8, .alt [(1, .alt [(9, .alt [(11, .done)])])])]), (8, .alt [(1, .alt [(3, .alt [(9, .alt [(11, .done)])])]), (3, .alt [(1, .alt [(9, .alt [(11, .done)])])])])])])])))))) (by kernel_rfl) ?_; conv => whnf)
    | exact ⟨rfl, rfl⟩
    | (refine Fin.bool ?_ rfl)
    | (refine Fin.int ?_ rfl)
    | (refine Fin.str ?_ rfl)
    | (refine Fin.sl ?_ rfl)
    | exact trivial)
  refine WP.nilCell 47 2 1 rfl rfl ?_
  refine WP.loop (α := Nat) tabOK (fun j => j ≤ b.length) (fun j => ⟨[(0, (.d (.sl (names.map iS)))), (1, (.d (.sl (schemes.map iS)))), (7, .full 0), (10, .ref 1 0 0), (15, (.d (.sl (nds ns)))), (16, (.d (.int .i64 ((nds ns).length)))), (17, (.d (.int .i64 (i)))), (32, (.d (.sl (b.map Attr.d)))), (33, (.d (.int .i64 ((b.map Attr.d).length)))), (34, (.d (.int .i64 (j))))], [(0, .row 39 O), (1, .var 39 [(.d (.str (a))), .full 2, (.d (.str (c))), (.d (.sl (nds (lks (keepA names schemes) ps))))]), (2, .row 47 (((b.take j).filter (keepA names schemes)).map Attr.d))], 3, 66⟩) (fun j => b.length - j) (0) ?_ ?_ ?_
  · exact Nat.zero_le _
  · conv => whnf
    repeat (first | exact True.intro | (refine Need.mk ?_ ?_; (focus ((first | rfl | assumption | omega | (simp only [List.length_map, List.length_append, List.length_take, List.length_drop, List.length_cons, List.length_nil, List.length_replicate, List.length_set, List.length_reverse, nds_len, numsD_length]; omega) | simp); done)); conv => whnf) | ((conv => whnf); exact True.intro))
  intro j hj
  have hfl : ((b.take j).filter (keepA names schemes)).length ≤ 1048576 := by
    have h1 := List.length_filter_le (keepA names schemes) (b.take j)
    rw [List.length_take] at h1
    omega
  by_cases hjl : j < b.length
  case neg =>
    have e : b.take j = b := List.take_of_length_le (by omega)
    rw [e] at hfl ⊢
    conv => whnf
    repeat' (first
    | (refine Br.tt ?_; conv => whnf)
    | (refine Br.ff ?_; conv => whnf)
    | (refine Both.mk ?_ ?_ <;> conv => whnf)
    | (refine Br.not ?_)
    | (refine Need.mk ?_ ?_; (focus ((first | omega | exact ⟨by omega, by omega⟩ | rfl | exact trivial | assumption | (simp only [List.length_map, List.length_append, List.length_take, List.length_drop, List.length_cons, List.length_nil, List.length_replicate, List.length_set, List.length_reverse, nds_len, numsD_length]; omega) | (simp only [List.length_map, List.length_append, List.length_take, List.length_drop, List.length_cons, List.length_nil, List.length_replicate, List.length_set, List.length_reverse, nds_len, numsD_length]; exact ⟨by omega, by omega⟩) | exact nds_each | (refine map_each ?_; intro x; rfl) | (refine first_map ?_; intro x; rfl) | exact first_nds | simp | (simp; omega)); done)); conv => whnf)
    | (refine Br.t (by assumption) ?_; conv => whnf)
    | (refine Br.f (by assumption) ?_; conv => whnf)
    | (refine Br.self ?_; conv => whnf)
    | (refine Br.decT (by assumption) ?_; conv => whnf)
    | (refine Br.decF (by assumption) ?_; conv => whnf)
    | (refine Br.eqT (by assumption) ?_; conv => whnf)
    | (refine Br.eqF (by assumption) ?_; conv => whnf)
    | (refine Br.dec (fun hc => ?_) (fun hc => ?_) <;> (try simp only [List.length_map, List.length_append, List.length_take, List.length_drop, List.length_cons, List.length_nil, List.length_replicate, List.length_set, List.length_reverse, nds_len, numsD_length] at hc) <;> first | (exfalso; omega) | exact absurd trivial hc | exact absurd rfl hc | conv => whnf)
    | (refine Br.eq (fun hc => ?_) (fun hc => ?_) <;> first | (exfalso; omega) | exact absurd trivial hc | exact absurd rfl hc | conv => whnf)
    | (refine Br.ne (fun hc => ?_) (fun hc => ?_) <;> first | (exfalso; omega) | exact absurd trivial hc | exact absurd rfl hc | conv => whnf)
    | (with_reducible refine Br.and ?_)
    | (with_reducible refine Br.or ?_)
    | (refine Br.any (fun hc => ?_) (fun hc => ?_) <;> conv => whnf)
    | (refine Fit.inl ?_ ?_; (focus ((first | omega | exact ⟨by omega, by omega⟩ | rfl | exact trivial | assumption | (simp only [List.length_map, List.length_append, List.length_take, List.length_drop, List.length_cons, List.length_nil, List.length_replicate, List.length_set, List.length_reverse, nds_len, numsD_length]; omega) | (simp only [List.length_map, List.length_append, List.length_take, List.length_drop, List.length_cons, List.length_nil, List.length_replicate, List.length_set, List.length_reverse, nds_len, numsD_length]; exact ⟨by omega, by omega⟩) | exact nds_each | (refine map_each ?_; intro x; rfl) | (refine first_map ?_; intro x; rfl) | exact first_nds | simp | (simp; omega)); done)); conv => whnf)
    | (refine Each.mapAt (by assumption) ?_; conv => whnf)
    | (refine Each.ndsAt (by assumption) ?_; conv => whnf)
    | (refine Each.at (by assumption) ?_; conv => whnf)
    | (refine Each.map (fun x hx => ?_); (try simp only [Int.toNat_natCast, Int.toNat_zero, Int.toNat_one, Int.toNat_natCast_add_one] at hx); conv => whnf)
    | (refine Each.nds (fun a b c ps hx => ?_); (try simp only [Int.toNat_natCast, Int.toNat_zero, Int.toNat_one, Int.toNat_natCast_add_one] at hx); conv => whnf)
    | (refine Each.rep ?_; conv => whnf)
    | (refine Each.drop ?_)
    | (refine Each.take (fun hi => ?_))
    | (refine Each.any (fun x hx => ?_); (try simp only [Int.toNat_natCast, Int.toNat_zero, Int.toNat_one, Int.toNat_natCast_add_one] at hx); conv => whnf)
    | (refine NilB.any (fun hn => ?_) ?_ <;> conv => whnf)
    | (refine ⟨_, bytesOfD_nums _, ?_⟩; conv => whnf)
    | (refine WP.sch (id := 5) tabOK hmix (.mob 0 (.mob 2 (.mob 4 (.mob 5 (.mob 6 (.alt [(1, .alt [(3, .alt [(7, .alt [(8, .alt [(9, .alt [(10, .alt [(11, .done)])]), (10, .alt [(9, .alt [(11, .done)])])]), (10, .alt [(8, .alt [(9, .alt [(11, .done)])])])]), (10, .alt [(7, .alt [(8, .alt [(9, .alt [(11, .done)])])])])]), (7, .alt [(3, .alt [(8, .alt [(9, .alt [(10, .alt [(11, .done)])]), (10, .alt [(9, .alt [(11, .done)])])]), (10, .alt [(8, .alt [(9, .alt [(11, .done)])])])]), (8, .alt [(3, .alt [(9, .alt [(10, .alt [(11, .done)])]), (10, .alt [(9, .alt [(11, .done)])])]), (10, .alt [(3, .alt [(9, .alt [(11, .done)])])])]), (10, .alt [(3, .alt [(8, .alt [(9, .alt [(11, .done)])])]), (8, .alt [(3, .alt [(9, .alt [(11, .done)])])])])]), (10, .alt [(3, .alt [(7, .alt [(8, .alt [(9, .alt [(11, .done)])])])]), (7, .alt [(3, .alt [(8, .alt [(9, .alt [(11, .done)])])]), (8, .alt [(3, .alt [(9, .alt [(11, .done)])])])])])]), (3, .alt [(1, .alt [(7, .alt [(8, .alt [(9, .alt [(10, .alt [(11, .done)])]), (10, .alt [(9, .alt [(11, .done)])])]), (10, .alt [(8, .alt [(9, .alt [(11, .done)])])])]), (10, .alt [(7, .alt [(8, .alt [(9, .alt [(11, .done)])])])])]), (7, .alt [(1, .alt [(8, .alt [(9, .alt [(10, .alt [(11, .done)])]), (10, .alt [(9, .alt [(11, .done)])])]), (10, .alt [(8, .alt [(9, .alt [(11, .done)])])])]), (8, .alt [(1, .alt [(9, .alt [(10, .alt [(11, .done)])]), (10, .alt [(9, .alt [(11, .done)])])]), (10, .alt [(1, .alt [(9, .alt [(11, .done)])])])]), (10, .alt [(1, .alt [(8, .alt [(9, .alt [(11, .done)])])]), (8, .alt [(1, .alt [(9, .alt [(11, .done)])])])])]), (10, .alt [(1, .alt [(7, .alt [(8, .alt [(9, .alt [(11, .done)])])])]), (7, .alt [(1, .alt [(8, .alt [(9, .alt [(11, .done)])])]), (8, .alt [(1, .alt [(9, .alt [(11, .done)])])])])])]), (7, .alt [(1, .alt [(3, .alt [(8, .alt [(9, .alt [(10, .alt [(11, .done)])]), (10, .alt [(9, .alt [(11, .done)])])]), (10, .alt [(8, .alt [(9, .alt [(11, .done)])])])]), (8, .alt [(3, .alt [(9, .alt [(10, .alt [(11, .done)])]), (10, .alt [(9, .alt [(11, .done)])])]), (10, .alt [(3, .alt [(9, .alt [(11, .done)])])])]), (10, .alt [(3, .alt [(8, .alt [(9, .alt [(11, .done)])])]), (8, .alt [(3, .alt [(9, .alt [(11, .done)])])])])]), (3, .alt [(1, .alt [(8, .alt [(9, .alt [(10, .alt [(11, .done)])]), (10, .alt [(9, .alt [(11, .done)])])]), (10, .alt [(8, .alt [(9, .alt [(11, .done)])])])]), (8, .alt [(1, .alt [(9, .alt [(10, .alt [(11, .done)])]), (10, .alt [(9, .alt [(11, .done)])])]), (10, .alt [(1, .alt [(9, .alt [(11, .done)])])])]), (10, .alt [(1, .alt [(8, .alt [(9, .alt [(11, .done)])])]), (8, .alt [(1, .alt [(9, .alt [(11, .done)])])])])]), (8, .alt [(1, .alt [(3, .alt [(9, .alt [(10, .alt [(11, .done)])]), (10, .alt [(9, .alt [(11, .done)])])]), (10, .alt [(3, .alt [(9, .alt [(11, .done)])])])]), (3, .alt [(1, .alt [(9, .alt [(10, .alt [(11, .done)])]), (10, .alt [(9, .alt [(11, .done)])])]), (10, .alt [(1, .alt [(9, .alt [(11, .done)])])])]), (10, .alt [(1, .alt [(3, .alt [(9, .alt [(11, .done)])])]), (3, .alt [(1, .alt [(9, .alt [(11, .done)])])])])]), (10, .alt [(1, .alt [(3, .alt [(8, .alt [(9, .alt [(11, .done)])])]), (8, .alt [(3, .alt [(9, .alt [(11, .done)])])])]), (3, .alt [(1, .alt [(8, .alt [(9, .alt [(11, .done)])])]), (8, .alt [(1, .alt [(9, .alt [(11, .done)])])])]), (8, .alt [(1, .alt [(3, .alt [(9, .alt [(11, .done)])])]), (3, .alt [(1, .alt [(9, .alt [(11, .done)])])])])])]), (10, .alt [(1, .alt [(3, .alt [(7, .alt [(8, .alt [(9, .alt [(11, .done)])])])]), (7, .alt [(3, .alt [(8, .alt [(9, .alt [(11, .done)])])]), (8, .alt [(3, .alt [(9, .alt [(11, .done)])])])])]), (3, .alt [(1, .alt [(7, .alt [(8, .alt [(9, .alt [(11, .done)])])])]), (7, .alt [(1, .alt [(8, .alt [(9, .alt [(11, .done)])])]), (8, .alt [(1, .alt [(9, .alt [(11, .done)])])])])]), (7, .alt [(1, .alt [(3, .alt [(8, .alt [(9, .alt [(11, .done)])])]), (8, .alt [(3, .alt [(9, .alt [(11, .done)])])])]), (3, .alt [(1, .alt [(8, .alt [(9, .alt [(11, .done)])])]), (8, .alt [(1, .alt [(9, .alt [(11, .done)])])])]), (8, .alt [(1, .alt [(3, .alt [(9, .alt [(11, .done)])])]), (3, .alt [(1, .alt [(9, .alt [(11, .done)])])])])])])])))))) (by kernel_rfl) ?_; conv => whnf)
    | exact ⟨rfl, rfl⟩
    | (refine Fin.bool ?_ rfl)
    | (refine Fin.int ?_ rfl)
    | (refine Fin.str ?_ rfl)
    | (refine Fin.sl ?_ rfl)
    | exact trivial)
    refine ⟨i + 1, by omega, by dsimp only; omega, ?_⟩
    conv => whnf
    repeat (first | exact True.intro | (refine Need.mk ?_ ?_; (focus ((first | rfl | assumption | omega | (simp only [List.length_map, List.length_append, List.length_take, List.length_drop, List.length_cons, List.length_nil, List.length_replicate, List.length_set, List.length_reverse, nds_len, numsD_length]; omega) | simp [htk, lk, Nd.d]); done)); conv => whnf) | ((conv => whnf); exact True.intro))
  obtain ⟨x, hbx⟩ : ∃ x, b[j]? = some x := ⟨_, List.getElem?_eq_getElem hjl⟩
  have hsf := safeR x.value (k3 x (List.mem_of_getElem? hbx)) schemes hs
  have hor := oneOf_ names x.name hn
  have hsp : safeP x.value schemes = (ofB x.value schemes, 0) := by unfold safeP; rw [if_pos hz]
  rw [hsp] at hsf
  have hke := keep_eq names schemes x
  unfold keep1 at hke
  have hfs : (b.take (j + 1)).filter (keepA names schemes) = (b.take j).filter (keepA names schemes) ++ if keepA names schemes x = true then [x] else [] := by
    rw [List.take_add_one, hbx, List.filter_append]
    cases h : keepA names schemes x <;> simp [h]
  generalize (b.take j).filter (keepA names schemes) = M at *
  generalize ofB x.value schemes = y1 at *
  generalize names.any (x.name == ·) = y2 at *
  rw [hke] at hfs
  cases y1
  · cases y2
    · have hfs1 : (b.take (j + 1)).filter (keepA names schemes) = M ++ [x] := hfs
      conv => whnf
      repeat' (first
    | (refine Br.tt ?_; conv => whnf)
    | (refine Br.ff ?_; conv => whnf)
    | (refine Both.mk ?_ ?_ <;> conv => whnf)
    | (refine Br.not ?_)
    | (refine Need.mk ?_ ?_; (focus ((first | omega | exact ⟨by omega, by omega⟩ | rfl | exact trivial | assumption | (simp only [List.length_map, List.length_append, List.length_take, List.length_drop, List.length_cons, List.length_nil, List.length_replicate, List.length_set, List.length_reverse, nds_len, numsD_length]; omega) | (simp only [List.length_map, List.length_append, List.length_take, List.length_drop, List.length_cons, List.length_nil, List.length_replicate, List.length_set, List.length_reverse, nds_len, numsD_length]; exact ⟨by omega, by omega⟩) | exact nds_each | (refine map_each ?_; intro x; rfl) | (refine first_map ?_; intro x; rfl) | exact first_nds | simp | (simp; omega)); done)); conv => whnf)
    | (refine Br.t (by assumption) ?_; conv => whnf)
    | (refine Br.f (by assumption) ?_; conv => whnf)
    | (refine Br.self ?_; conv => whnf)
    | (refine Br.decT (by assumption) ?_; conv => whnf)
    | (refine Br.decF (by assumption) ?_; conv => whnf)
    | (refine Br.eqT (by assumption) ?_; conv => whnf)
    | (refine Br.eqF (by assumption) ?_; conv => whnf)
    | (refine Br.dec (fun hc => ?_) (fun hc => ?_) <;> (try simp only [List.length_map, List.length_append, List.length_take, List.length_drop, List.length_cons, List.length_nil, List.length_replicate, List.length_set, List.length_reverse, nds_len, numsD_length] at hc) <;> first | (exfalso; omega) | exact absurd trivial hc | exact absurd rfl hc | conv => whnf)
    | (refine Br.eq (fun hc => ?_) (fun hc => ?_) <;> first | (exfalso; omega) | exact absurd trivial hc | exact absurd rfl hc | conv => whnf)
    | (refine Br.ne (fun hc => ?_) (fun hc => ?_) <;> first | (exfalso; omega) | exact absurd trivial hc | exact absurd rfl hc | conv => whnf)
    | (with_reducible refine Br.and ?_)
    | (with_reducible refine Br.or ?_)
    | (refine Br.any (fun hc => ?_) (fun hc => ?_) <;> conv => whnf)
    | (refine Fit.inl ?_ ?_; (focus ((first | omega | exact ⟨by omega, by omega⟩ | rfl | exact trivial | assumption | (simp only [List.length_map, List.length_append, List.length_take, List.length_drop, List.length_cons, List.length_nil, List.length_replicate, List.length_set, List.length_reverse, nds_len, numsD_length]; omega) | (simp only [List.length_map, List.length_append, List.length_take, List.length_drop, List.length_cons, List.length_nil, List.length_replicate, List.length_set, List.length_reverse, nds_len, numsD_length]; exact ⟨by omega, by omega⟩) | exact nds_each | (refine map_each ?_; intro x; rfl) | (refine first_map ?_; intro x; rfl) | exact first_nds | simp | (simp; omega)); done)); conv => whnf)
    | (refine Each.mapAt (by assumption) ?_; conv => whnf)
    | (refine Each.ndsAt (by assumption) ?_; conv => whnf)
    | (refine Each.at (by assumption) ?_; conv => whnf)
    | (refine Each.map (fun x hx => ?_); (try simp only [Int.toNat_natCast, Int.toNat_zero, Int.toNat_one, Int.toNat_natCast_add_one] at hx); conv => whnf)
    | (refine Each.nds (fun a b c ps hx => ?_); (try simp only [Int.toNat_natCast, Int.toNat_zero, Int.toNat_one, Int.toNat_natCast_add_one] at hx); conv => whnf)
    | (refine Each.rep ?_; conv => whnf)
    | (refine Each.drop ?_)
    | (refine Each.take (fun hi => ?_))
    | (refine Each.any (fun x hx => ?_); (try simp only [Int.toNat_natCast, Int.toNat_zero, Int.toNat_one, Int.toNat_natCast_add_one] at hx); conv => whnf)
    | (refine NilB.any (fun hn => ?_) ?_ <;> conv => whnf)
    | (refine CallWP.mono (hsf) ?_; rintro r h ⟨rfl, rfl⟩; conv => whnf)
    | (refine CallWP.mono (hor) ?_; rintro r h ⟨rfl, rfl⟩; conv => whnf)
    | (refine ⟨_, bytesOfD_nums _, ?_⟩; conv => whnf)
    | (refine WP.sch (id := 5) tabOK hmix (.mob 0 (.mob 2 (.mob 4 (.mob 5 (.mob 6 (.alt [(1, .alt [(3, .alt [(7, .alt [(8, .alt [(9, .alt [(10, .alt [(11, .done)])]), (10, .alt [(9, .alt [(11, .done)])])]), (10, .alt [(8, .alt [(9, .alt [(11, .done)])])])]), (10, .alt [(7, .alt [(8, .alt [(9, .alt [(11, .done)])])])])]), (7, .alt [(3, .alt [(8, .alt [(9, .alt [(10, .alt [(11, .done)])]), (10, .alt [(9, .alt [(11, .done)])])]), (10, .alt [(8, .alt [(9, .alt [(11, .done)])])])]), (8, .alt [(3, .alt [(9, .alt [(10, .alt [(11, .done)])]), (10, .alt [(9, .alt [(11, .done)])])]), (10, .alt [(3, .alt [(9, .alt [(11, .done)])])])]), (10, .alt [(3, .alt [(8, .alt [(9, .alt [(11, .done)])])]), (8, .alt [(3, .alt [(9, .alt [(11, .done)])])])])]), (10, .alt [(3, .alt [(7, .alt [(8, .alt [(9, .alt [(11, .done)])])])]), (7, .alt [(3, .alt [(8, .alt [(9, .alt [(11, .done)])])]), (8, .alt [(3, .alt [(9, .alt [(11, .done)])])])])])]), (3, .alt [(1, .alt [(7, .alt [(8, .alt [(9, .alt [(10, .alt [(11, .done)])]), (10, .alt [(9, .alt [(11, .done)])])]), (10, .alt [(8, .alt [(9, .alt [(11, .done)])])])]), (10, .alt [(7, .alt [(8, .alt [(9, .alt [(11, .done)])])])])]), (7, .alt [(1, .alt [(8, .alt [(9, .alt [(10, .alt [(11, .done)])]), (10, .alt [(9, .alt [(11, .done)])])]), (10, .alt [(8, .alt [(9, .alt [(11, .done)])])])]), (8, .alt [(1, .alt [(9, .alt [(10, .alt [(11, .done)])]), (10, .alt [(9, .alt [(11, .done)])])]), (10, .alt [(1, .alt [(9, .alt [(11, .done)])])])]), (10, .alt [(1, .alt [(8, .alt [(9, .alt [(11, .done)])])]), (8, .alt [(1, .alt [(9, .alt [(11, .done)])])])])]), (10, .alt [(1, .alt [(7, .alt [(8, .alt [(9, .alt [(11, .done)])])])]), (7, .alt [(1, .alt [(8, .alt [(9, .alt [(11, .done)])])]), (8, .alt [(1, .alt [(9, .alt [(11, .done)])])])])])]), (7, .alt [(1, .alt [(3, .alt [(8, .alt [(9, .alt [(10, .alt [(11, .done)])]), (10, .alt [(9, .alt [(11, .done)])])]), (10, .alt [(8, .alt [(9, .alt [(11, .done)])])])]), (8, .alt [(3, .alt [(9, .alt [(10, .alt [(11, .done)])]), (10, .alt [(9, .alt [(11, .done)])])]), (10, .alt [(3, .alt [(9, .alt [(11, .done)])])])]), (10, .alt [(3, .alt [(8, .alt [(9, .alt [(11, .done)])])]), (8, .alt [(3, .alt [(9, .alt [(11, .done)])])])])]), (3, .alt [(1, .alt [(8, .alt [(9, .alt [(10, .alt [(11, .done)])]), (10, .alt [(9, .alt [(11, .done)])])]), (10, .alt [(8, .alt [(9, .alt [(11, .done)])])])]), (8, .alt [(1, .alt [(9, .alt [(10, .alt [(11, .done)])]), (10, .alt [(9, .alt [(11, .done)])])]), (10, .alt [(1, .alt [(9, .alt [(11, .done)])])])]), (10, .alt [(1, .alt [(8, .alt [(9, .alt [(11, .done)])])]), (8, .alt [(1, .alt [(9, .alt [(11, .done)])])])])]), (8, .alt [(1, .alt [(3, .alt [(9, .alt [(10, .alt [(11, .done)])]), (10, .alt [(9, .alt [(11, .done)])])]), (10, .alt [(3, .alt [(9, .alt [(11, .done)])])])]), (3, .alt [(1, .alt [(9, .alt [(10, .alt [(11, .done)])]), (10, .alt [(9, .alt [(11, .done)])])]), (10, .alt [(1, .alt [(9, .alt [(11, .done)])])])]), (10, .alt [(1, .alt [(3, .alt [(9, .alt [(11, .done)])])]), (3, .alt [(1, .alt [(9, .alt [(11, .done)])])])])]), (10, .alt [(1, .alt [(3, .alt [(8, .alt [(9, .alt [(11, .done)])])]), (8, .alt [(3, .alt [(9, .alt [(11, .done)])])])]), (3, .alt [(1, .alt [(8, .alt [(9, .alt [(11, .done)])])]), (8, .alt [(1, .alt [(9, .alt [(11, .done)])])])]), (8, .alt [(1, .alt [(3, .alt [(9, .alt [(11, .done)])])]), (3, .alt [(1, .alt [(9, .alt [(11, .done)])])])])])]), (10, .alt [(1, .alt [(3, .alt [(7, .alt [(8, .alt [(9, .alt [(11, .done)])])])]), (7, .alt [(3, .alt [(8, .alt [(9, .alt [(11, .done)])])]), (8, .alt [(3, .alt [(9, .alt [(11, .done)])])])])]), (3, .alt [(1, .alt [(7, .alt [(8, .alt [(9, .alt [(11, .done)])])])]), (7, .alt [(1, .alt [(8, .alt [(9, .alt [(11, .done)])])]), (8, .alt [(1, .alt [(9, .alt [(11, .done)])])])])]), (7, .alt [(1, .alt [(3, .alt [(8, .alt [(9, .alt [(11, .done)])])]), (8, .alt [(3, .alt [(9, .alt [(11, .done)])])])]), (3, .alt [(1, .alt [(8, .alt [(9, .alt [(11, .done)])])]), (8, .alt [(1, .alt [(9, .alt [(11, .done)])])])]), (8, .alt [(1, .alt [(3, .alt [(9, .alt [(11, .done)])])]), (3, .alt [(1, .alt [(9, .alt [(11, .done)])])])])])])])))))) (by kernel_rfl) ?_; conv => whnf)
    | exact ⟨rfl, rfl⟩
    | (refine Fin.bool ?_ rfl)
    | (refine Fin.int ?_ rfl)
    | (refine Fin.str ?_ rfl)
    | (refine Fin.sl ?_ rfl)
    | exact trivial)
      refine ⟨j + 1, by omega, by dsimp only; omega, ?_⟩
      conv => whnf
      repeat (first | exact True.intro | (refine Need.mk ?_ ?_; (focus ((first | rfl | assumption | omega | (simp only [List.length_map, List.length_append, List.length_take, List.length_drop, List.length_cons, List.length_nil, List.length_replicate, List.length_set, List.length_reverse, nds_len, numsD_length]; omega) | simp [hfs1, Attr.d]); done)); conv => whnf) | ((conv => whnf); exact True.intro))
    · have hfs1 : (b.take (j + 1)).filter (keepA names schemes) = M := by rw [hfs]; simp
      conv => whnf
      repeat' (first
    | (refine Br.tt ?_; conv => whnf)
    | (refine Br.ff ?_; conv => whnf)
    | (refine Both.mk ?_ ?_ <;> conv => whnf)
    | (refine Br.not ?_)
    | (refine Need.mk ?_ ?_; (focus ((first | omega | exact ⟨by omega, by omega⟩ | rfl | exact trivial | assumption | (simp only [List.length_map, List.length_append, List.length_take, List.length_drop, List.length_cons, List.length_nil, List.length_replicate, List.length_set, List.length_reverse, nds_len, numsD_length]; omega) | (simp only [List.length_map, List.length_append, List.length_take, List.length_drop, List.length_cons, List.length_nil, List.length_replicate, List.length_set, List.length_reverse, nds_len, numsD_length]; exact ⟨by omega, by omega⟩) | exact nds_each | (refine map_each ?_; intro x; rfl) | (refine first_map ?_; intro x; rfl) | exact first_nds | simp | (simp; omega)); done)); conv => whnf)
    | (refine Br.t (by assumption) ?_; conv => whnf)
    | (refine Br.f (by assumption) ?_; conv => whnf)
    | (refine Br.self ?_; conv => whnf)
    | (refine Br.decT (by assumption) ?_; conv => whnf)
    | (refine Br.decF (by assumption) ?_; conv => whnf)
    | (refine Br.eqT (by assumption) ?_; conv => whnf)
    | (refine Br.eqF (by assumption) ?_; conv => whnf)
    | (refine Br.dec (fun hc => ?_) (fun hc => ?_) <;> (try simp only [List.length_map, List.length_append, List.length_take, List.length_drop, List.length_cons, List.length_nil, List.length_replicate, List.length_set, List.length_reverse, nds_len, numsD_length] at hc) <;> first | (exfalso; omega) | exact absurd trivial hc | exact absurd rfl hc | conv => whnf)
    | (refine Br.eq (fun hc => ?_) (fun hc => ?_) <;> first | (exfalso; omega) | exact absurd trivial hc | exact absurd rfl hc | conv => whnf)
    | (refine Br.ne (fun hc => ?_) (fun hc => ?_) <;> first | (exfalso; omega) | exact absurd trivial hc | exact absurd rfl hc | conv => whnf)
    | (with_reducible refine Br.and ?_)
    | (with_reducible refine Br.or ?_)
    | (refine Br.any (fun hc => ?_) (fun hc => ?_) <;> conv => whnf)
    | (refine Fit.inl ?_ ?_; (focus ((first | omega | exact ⟨by omega, by omega⟩ | rfl | exact trivial | assumption | (simp only [List.length_map, List.length_append, List.length_take, List.length_drop, List.length_cons, List.length_nil, List.length_replicate, List.length_set, List.length_reverse, nds_len, numsD_length]; omega) | (simp only [List.length_map, List.length_append, List.length_take, List.length_drop, List.length_cons, List.length_nil, List.length_replicate, List.length_set, List.length_reverse, nds_len, numsD_length]; exact ⟨by omega, by omega⟩) | exact nds_each | (refine map_each ?_; intro x; rfl) | (refine first_map ?_; intro x; rfl) | exact first_nds | simp | (simp; omega)); done)); conv => whnf)
    | (refine Each.mapAt (by assumption) ?_; conv => whnf)
    | (refine Each.ndsAt (by assumption) ?_; conv => whnf)
    | (refine Each.at (by assumption) ?_; conv => whnf)
    | (refine Each.map (fun x hx => ?_); (try simp only [Int.toNat_natCast, Int.toNat_zero, Int.toNat_one, Int.toNat_natCast_add_one] at hx); conv => whnf)
    | (refine Each.nds (fun a b c ps hx => ?_); (try simp only [Int.toNat_natCast, Int.toNat_zero, Int.toNat_one, Int.toNat_natCast_add_one] at hx); conv => whnf)
    | (refine Each.rep ?_; conv => whnf)
    | (refine Each.drop ?_)
    | (refine Each.take (fun hi => ?_))
    | (refine Each.any (fun x hx => ?_); (try simp only [Int.toNat_natCast, Int.toNat_zero, Int.toNat_one, Int.toNat_natCast_add_one] at hx); conv => whnf)
    | (refine NilB.any (fun hn => ?_) ?_ <;> conv => whnf)
    | (refine CallWP.mono (hsf) ?_; rintro r h ⟨rfl, rfl⟩; conv => whnf)
    | (refine CallWP.mono (hor) ?_; rintro r h ⟨rfl, rfl⟩; conv => whnf)
    | (refine ⟨_, bytesOfD_nums _, ?_⟩; conv => whnf)
    | (refine WP.sch (id := 5) tabOK hmix (.mob 0 (.mob 2 (.mob 4 (.mob 5 (.mob 6 (.alt [(1, .alt [(3, .alt [(7, .alt [(8, .alt [(9, .alt [(10, .alt [(11, .done)])]), (10, .alt [(9, .alt [(11, .done)])])]), (10, .alt [(8, .alt [(9, .alt [(11, .done)])])])]), (10, .alt [(7, .alt [(8, .alt [(9, .alt [(11, .done)])])])])]), (7, .alt [(3, .alt [(8, .alt [(9, .alt [(10, .alt [(11, .done)])]), (10, .alt [(9, .alt [(11, .done)])])]), (10, .alt [(8, .alt [(9, .alt [(11, .done)])])])]), (8, .alt [(3, .alt [(9, .alt [(10, .alt [(11, .done)])]), (10, .alt [(9, .alt [(11, .done)])])]), (10, .alt [(3, .alt [(9, .alt [(11, .done)])])])]), (10, .alt [(3, .alt [(8, .alt [(9, .alt [(11, .done)])])]), (8, .alt [(3, .alt [(9, .alt [(11, .done)])])])])]), (10, .alt [(3, .alt [(7, .alt [(8, .alt [(9, .alt [(11, .done)])])])]), (7, .alt [(3, .alt [(8, .alt [(9, .alt [(11, .done)])])]), (8, .alt [(3, .alt [(9, .alt [(11, .done)])])])])])]), (3, .alt [(1, .alt [(7, .alt [(8, .alt [(9, .alt [(10, .alt [(11, .done)])]), (10, .alt [(9, .alt [(11, .done)])])]), (10, .alt [(8, .alt [(9, .alt [(11, .done)])])])]), (10, .alt [(7, .alt [(8, .alt [(9, .alt [(11, .done)])])])])]), (7, .alt [(1, .alt [(8, .alt [(9, .alt [(10, .alt [(11, .done)])]), (10, .alt [(9, .alt [(11, .done)])])]), (10, .alt [(8, .alt [(9, .alt [(11, .done)])])])]), (8, .alt [(1, .alt [(9, .alt [(10, .alt [(11, .done)])]), (10, .alt [(9, .alt [(11, .done)])])]), (10, .alt [(1, .alt [(9, .alt [(11, .done)])])])]), (10, .alt [(1, .alt [(8, .alt [(9, .alt [(11, .done)])])]), (8, .alt [(1, .alt [(9, .alt [(11, .done)])])])])]), (10, .alt [(1, .alt [(7, .alt [(8, .alt [(9, .alt [(11, .done)])])])]), (7, .alt [(1, .alt [(8, .alt [(9, .alt [(11, .done)])])]), (8, .alt [(1, .alt [(9, .alt [(11, .done)])])])])])]), (7, .alt [(1, .alt [(3, .alt [(8, .alt [(9, .alt [(10, .alt [(11, .done)])]), (10, .alt [(9, .alt [(11, .done)])])]), (10, .alt [(8, .alt [(9, .alt [(11, .done)])])])]), (8, .alt [(3, .alt [(9, .alt [(10, .alt [(11, .done)])]), (10, .alt [(9, .alt [(11, .done)])])]), (10, .alt [(3, .alt [(9, .alt [(11, .done)])])])]), (10, .alt [(3, .alt [(8, .alt [(9, .alt [(11, .done)])])]), (8, .alt [(3, .alt [(9, .alt [(11, .done)])])])])]), (3, .alt [(1, .alt [(8, .alt [(9, .alt [(10, .alt [(11, .done)])]), (10, .alt [(9, .alt [(11, .done)])])]), (10, .alt [(8, .alt [(9, .alt [(11, .done)])])])]), (8, .alt [(1, .alt [(9, .alt [(10, .alt [(11, .done)])]), (10, .alt [(9, .alt [(11, .done)])])]), (10, .alt [(1, .alt [(9, .alt [(11, .done)])])])]), (10, .alt [(1, .alt [(8, .alt [(9, .alt [(11, .done)])])]), (8, .alt [(1, .alt [(9, .alt [(11, .done)])])])])]), (8, .alt [(1, .alt [(3, .alt [(9, .alt [(10, .alt [(11, .done)])]), (10, .alt [(9, .alt [(11, .done)])])]), (10, .alt [(3, .alt [(9, .alt [(11, .done)])])])]), (3, .alt [(1, .alt [(9, .alt [(10, .alt [(11, .done)])]), (10, .alt [(9, .alt [(11, .done)])])]), (10, .alt [(1, .alt [(9, .alt [(11, .done)])])])]), (10, .alt [(1, .alt [(3, .alt [(9, .alt [(11, .done)])])]), (3, .alt [(1, .alt [(9, .alt [(11, .done)])])])])]), (10, .alt [(1, .alt [(3, .alt [(8, .alt [(9, .alt [(11, .done)])])]), (8, .alt [(3, .alt [(9, .alt [(11, .done)])])])]), (3, .alt [(1, .alt [(8, .alt [(9, .alt [(11, .done)])])]), (8, .alt [(1, .alt [(9, .alt [(11, .done)])])])]), (8, .alt [(1, .alt [(3, .alt [(9, .alt [(11, .done)])])]), (3, .alt [(1, .alt [(9, .alt [(11, .done)])])])])])]), (10, .alt [(1, .alt [(3, .alt [(7, .alt [(8, .alt [(9, .alt [(11, .done)])])])]), (7, .alt [(3, .alt [(8, .alt [(9, .alt [(11, .done)])])]), (8, .alt [(3, .alt [(9, .alt [(11, .done)])])])])]), (3, .alt [(1, .alt [(7, .alt [(8, .alt [(9, .alt [(11, .done)])])])]), (7, .alt [(1, .alt [(8, .alt [(9, .alt [(11, .done)])])]), (8, .alt [(1, .alt [(9, .alt [(11, .done)])])])])]), (7, .alt [(1, .alt [(3, .alt [(8, .alt [(9, .alt [(11, .done)])])]), (8, .alt [(3, .alt [(9, .alt [(11, .done)])])])]), (3, .alt [(1, .alt [(8, .alt [(9, .alt [(11, .done)])])]), (8, .alt [(1, .alt [(9, .alt [(11, .done)])])])]), (8, .alt [(1, .alt [(3, .alt [(9, .alt [(11, .done)])])]), (3, .alt [(1, .alt [(9, .alt [(11, .done)])])])])])])])))))) (by kernel_rfl) ?_; conv => whnf)
    | exact ⟨rfl, rfl⟩
    | (refine Fin.bool ?_ rfl)
    | (refine Fin.int ?_ rfl)
    | (refine Fin.str ?_ rfl)
    | (refine Fin.sl ?_ rfl)
    | exact trivial)
      refine ⟨j + 1, by omega, by dsimp only; omega, ?_⟩
      conv => whnf
      repeat (first | exact True.intro | (refine Need.mk ?_ ?_; (focus ((first | rfl | assumption | omega | (simp only [List.length_map, List.length_append, List.length_take, List.length_drop, List.length_cons, List.length_nil, List.length_replicate, List.length_set, List.length_reverse, nds_len, numsD_length]; omega) | simp [hfs1]); done)); conv => whnf) | ((conv => whnf); exact True.intro))
  · have hfs1 : (b.take (j + 1)).filter (keepA names schemes) = M ++ [x] := by rw [hfs]; simp
    conv => whnf
    repeat' (first
    | (refine Br.tt ?_; conv => whnf)
    | (refine Br.ff ?_; conv => whnf)
    | (refine Both.mk ?_ ?_ <;> conv => whnf)
    | (refine Br.not ?_)
    | (refine Need.mk ?_ ?_; (focus ((first | omega | exact ⟨by omega, by omega⟩ | rfl | exact trivial | assumption | (simp only [List.length_map, List.length_append, List.length_take, List.length_drop, List.length_cons, List.length_nil, List.length_replicate, List.length_set, List.length_reverse, nds_len, numsD_length]; omega) | (simp only [List.length_map, List.length_append, List.length_take, List.length_drop, List.length_cons, List.length_nil, List.length_replicate, List.length_set, List.length_reverse, nds_len, numsD_length]; exact ⟨by omega, by omega⟩) | exact nds_each | (refine map_each ?_; intro x; rfl) | (refine first_map ?_; intro x; rfl) | exact first_nds | simp | (simp; omega)); done)); conv => whnf)
    | (refine Br.t (by assumption) ?_; conv => whnf)
    | (refine Br.f (by assumption) ?_; conv => whnf)
    | (refine Br.self ?_; conv => whnf)
    | (refine Br.decT (by assumption) ?_; conv => whnf)
    | (refine Br.decF (by assumption) ?_; conv => whnf)
    | (refine Br.eqT (by assumption) ?_; conv => whnf)
    | (refine Br.eqF (by assumption) ?_; conv => whnf)
    | (refine Br.dec (fun hc => ?_) (fun hc => ?_) <;> (try simp only [List.length_map, List.length_append, List.length_take, List.length_drop, List.length_cons, List.length_nil, List.length_replicate, List.length_set, List.length_reverse, nds_len, numsD_length] at hc) <;> first | (exfalso; omega) | exact absurd trivial hc | exact absurd rfl hc | conv => whnf)
    | (refine Br.eq (fun hc => ?_) (fun hc => ?_) <;> first | (exfalso; omega) | exact absurd trivial hc | exact absurd rfl hc | conv => whnf)
    | (refine Br.ne (fun hc => ?_) (fun hc => ?_) <;> first | (exfalso; omega) | exact absurd trivial hc | exact absurd rfl hc | conv => whnf)
    | (with_reducible refine Br.and ?_)
    | (with_reducible refine Br.or ?_)
    | (refine Br.any (fun hc => ?_) (fun hc => ?_) <;> conv => whnf)
    | (refine Fit.inl ?_ ?_; (focus ((first | omega | exact ⟨by omega, by omega⟩ | rfl | exact trivial | assumption | (simp only [List.length_map, List.length_append, List.length_take, List.length_drop, List.length_cons, List.length_nil, List.length_replicate, List.length_set, List.length_reverse, nds_len, numsD_length]; omega) | (simp only [List.length_map, List.length_append, List.length_take, List.length_drop, List.length_cons, List.length_nil, List.length_replicate, List.length_set, List.length_reverse, nds_len, numsD_length]; exact ⟨by omega, by omega⟩) | exact nds_each | (refine map_each ?_; intro x; rfl) | (refine first_map ?_; intro x; rfl) | exact first_nds | simp | (simp; omega)); done)); conv => whnf)
    | (refine Each.mapAt (by assumption) ?_; conv => whnf)
    | (refine Each.ndsAt (by assumption) ?_; conv => whnf)
    | (refine Each.at (by assumption) ?_; conv => whnf)
    | (refine Each.map (fun x hx => ?_); (try simp only [Int.toNat_natCast, Int.toNat_zero, Int.toNat_one, Int.toNat_natCast_add_one] at hx); conv => whnf)
    | (refine Each.nds (fun a b c ps hx => ?_); (try simp only [Int.toNat_natCast, Int.toNat_zero, Int.toNat_one, Int.toNat_natCast_add_one] at hx); conv => whnf)
    | (refine Each.rep ?_; conv => whnf)
    | (refine Each.drop ?_)
    | (refine Each.take (fun hi => ?_))
    | (refine Each.any (fun x hx => ?_); (try simp only [Int.toNat_natCast, Int.toNat_zero, Int.toNat_one, Int.toNat_natCast_add_one] at hx); conv => whnf)
    | (refine NilB.any (fun hn => ?_) ?_ <;> conv => whnf)
    | (refine CallWP.mono (hsf) ?_; rintro r h ⟨rfl, rfl⟩; conv => whnf)
    | (refine CallWP.mono (hor) ?_; rintro r h ⟨rfl, rfl⟩; conv => whnf)
    | (refine ⟨_, bytesOfD_nums _, ?_⟩; conv => whnf)
    | (refine WP.sch (id := 5) tabOK hmix (.mob 0 (.mob 2 (.mob 4 (.mob 5 (.mob 6 (.alt [(1, .alt [(3, .alt [(7, .alt [(8, .alt [(9, .alt [(10, .alt [(11, .done)])]), (10, .alt [(9, .alt [(11, .done)])])]), (10, .alt [(8, .alt [(9, .alt [(11, .done)])])])]), (10, .alt [(7, .alt [(8, .alt [(9, .alt [(11, .done)])])])])]), (7, .alt [(3, .alt [(8, .alt [(9, .alt [(10, .alt [(11, .done)])]), (10, .alt [(9, .alt [(11, .done)])])]), (10, .alt [(8, .alt [(9, .alt [(11, .done)])])])]), (8, .alt [(3, .alt [(9, .alt [(10, .alt [(11, .done)])]), (10, .alt [(9, .alt [(11, .done)])])]), (10, .alt [(3, .alt [(9, .alt [(11, .done)])])])]), (10, .alt [(3, .alt [(8, .alt [(9, .alt [(11, .done)])])]), (8, .alt [(3, .alt [(9, .alt [(11, .done)])])])])]), (10, .alt [(3, .alt [(7, .alt [(8, .alt [(9, .alt [(11, .done)])])])]), (7, .alt [(3, .alt [(8, .alt [(9, .alt [(11, .done)])])]), (8, .alt [(3, .alt [(9, .alt [(11, .done)])])])])])]), (3, .alt [(1, .alt [(7, .alt [(8, .alt [(9, .alt [(10, .alt [(11, .done)])]), (10, .alt [(9, .alt [(11, .done)])])]), (10, .alt [(8, .alt [(9, .alt [(11, .done)])])])]), (10, .alt [(7, .alt [(8, .alt [(9, .alt [(11, .done)])])])])]), (7, .alt [(1, .alt [(8, .alt [(9, .alt [(10, .alt [(11, .done)])]), (10, .alt [(9, .alt [(11, .done)])])]), (10, .alt [(8, .alt [(9, .alt [(11, .done)])])])]), (8, .alt [(1, .alt [(9, .alt [(10, .alt [(11, .done)])]), (10, .alt [(9, .alt [(11, .done)])])]), (10, .alt [(1, .alt [(9, .alt [(11, .done)])])])]), (10, .alt [(1, .alt [(8, .alt [(9, .alt [(11, .done)])])]), (8, .alt [(1, .alt [(9, .alt [(11, .done)])])])])]), (10, .alt [(1, .alt [(7, .alt [(8, .alt [(9, .alt [(11, .done)])])])]), (7, .alt [(1, .alt [(8, .alt [(9, .alt [(11, .done)])])]), (8, .alt [(1, .alt [(9, .alt [(11, .done)])])])])])]), (7, .alt [(1, .alt [(3, .alt [(8, .alt [(9, .alt [(10, .alt [(11, .done)])]), (10, .alt [(9, .alt [(11, .done)])])]), (10, .alt [(8, .alt [(9, .alt [(11, .done)])])])]), (8, .alt [(3, .alt [(9, .alt [(10, .alt [(11, .done)])]), (10, .alt [(9, .alt [(11, .done)])])]), (10, .alt [(3, .alt [(9, .alt [(11, .done)])])])]), (10, .alt [(3, .alt [(8, .alt [(9, .alt [(11, .done)])])]), (8, .alt [(3, .alt [(9, .alt [(11, .done)])])])])]), (3, .alt [(1, .alt [(8, .alt [(9, .alt [(10, .alt [(11, .done)])]), (10, .alt [(9, .alt [(11, .done)])])]), (10, .alt [(8, .alt [(9, .alt [(11, .done)])])])]), (8, .alt [(1, .alt [(9, .alt [(10, .alt [(11, .done)])]), (10, .alt [(9, .alt [(11, .done)])])]), (10, .alt [(1, .alt [(9, .alt [(11, .done)])])])]), (10, .alt [(1, .alt [(8, .alt [(9, .alt [(11, .done)])])]), (8, .alt [(1, .alt [(9, .alt [(11, .done)])])])])]), (8, .alt [(1, .alt [(3, .alt [(9, .alt [(10, .alt [(11, .done)])]), (10, .alt [(9, .alt [(11, .done)])])]), (10, .alt [(3, .alt [(9, .alt [(11, .done)])])])]), (3, .alt [(1, .alt [(9, .alt [(10, .alt [(11, .done)])]), (10, .alt [(9, .alt [(11, .done)])])]), (10, .alt [(1, .alt [(9, .alt [(11, .done)])])])]), (10, .alt [(1, .alt [(3, .alt [(9, .alt [(11, .done)])])]), (3, .alt [(1, .alt [(9, .alt [(11, .done)])])])])]), (10, .alt [(1, .alt [(3, .alt [(8, .alt [(9, .alt [(11, .done)])])]), (8, .alt [(3, .alt [(9, .alt [(11, .done)])])])]), (3, .alt [(1, .alt [(8, .alt [(9, .alt [(11, .done)])])]), (8, .alt [(1, .alt [(9, .alt [(11, .done)])])])]), (8, .alt [(1, .alt [(3, .alt [(9, .alt [(11, .done)])])]), (3, .alt [(1, .alt [(9, .alt [(11, .done)])])])])])]), (10, .alt [(1, .alt [(3, .alt [(7, .alt [(8, .alt [(9, .alt [(11, .done)])])])]), (7, .alt [(3, .alt [(8, .alt [(9, .alt [(11, .done)])])]), (8, .alt [(3, .alt [(9, .alt [(11, .done)])])])])]), (3, .alt [(1, .alt [(7, .alt [(8, .alt [(9, .alt [(11, .done)])])])]), (7, .alt [(1, .alt [(8, .alt [(9, .alt [(11, .done)])])]), (8, .alt [(1, .alt [(9, .alt [(11, .done)])])])])]), (7, .alt [(1, .alt [(3, .alt [(8, .alt [(9, .alt [(11, .done)])])]), (8, .alt [(3, .alt [(9, .alt [(11, .done)])])])]), (3, .alt [(1, .alt [(8, .alt [(9, .alt [(11, .done)])])]), (8, .alt [(1, .alt [(9, .alt [(11, .done)])])])]), (8, .alt [(1, .alt [(3, .alt [(9, .alt [(11, .done)])])]), (3, .alt [(1, .alt [(9, .alt [(11, .done)])])])])])])])))))) (by kernel_rfl) ?_; conv => whnf)
    | exact ⟨rfl, rfl⟩
    | (refine Fin.bool ?_ rfl)
    | (refine Fin.int ?_ rfl)
    | (refine Fin.str ?_ rfl)
    | (refine Fin.sl ?_ rfl)
    | exact trivial)
    all_goals
      refine ⟨j + 1, by omega, by dsimp only; omega, ?_⟩
      conv => whnf
      repeat (first | exact True.intro | (refine Need.mk ?_ ?_; (focus ((first | rfl | assumption | omega | (simp only [List.length_map, List.length_append, List.length_take, List.length_drop, List.length_cons, List.length_nil, List.length_replicate, List.length_set, List.length_reverse, nds_len, numsD_length]; omega) | simp [hfs1, Attr.d]); done)); conv => whnf) | ((conv => whnf); exact True.intro))
def res (names schemes : List Str) (ns : List Nd) : List Nd × Int := if 40 < names.length then ([], 1) else if schemesE schemes = 0 then (lks (keepA names schemes) ns, 0) else ([], schemesE schemes)
theorem linksC (names schemes : List Str) (hn : names.length < 2 ^ 62) (hs : bd schemes) (ns : List Nd) (hk : small ns) : CallWP Tryz.prog 7 [(.d (.sl (names.map iS))), (.d (.sl (schemes.map iS))), (.d (.sl (nds ns)))] [] (fun r h => r = .tup [(.d (.sl (nds (res names schemes ns).1))), (.d (.int .i64 ((res names schemes ns).2)))] ∧ h = []) := by
  unfold res
  by_cases h40 : 40 < names.length
  · rw [if_pos h40]
    refine CallWP.val (Q := fun r h => r = .tup [.nils, (.d (.int .i64 (1)))] ∧ h = []) ?_ (by rintro r h ⟨rfl, rfl⟩; exact ⟨rfl, rfl⟩)
    (refine CallWP.go tabOK Tryz.func7 0 21 rfl rfl rfl rfl ?_; conv => whnf)
    repeat' (first
    | (refine Br.tt ?_; conv => whnf)
    | (refine Br.ff ?_; conv => whnf)
    | (refine Both.mk ?_ ?_ <;> conv => whnf)
    | (refine Br.not ?_)
    | (refine Need.mk ?_ ?_; (focus ((first | omega | exact ⟨by omega, by omega⟩ | rfl | exact trivial | assumption | (simp only [List.length_map, List.length_append, List.length_take, List.length_drop, List.length_cons, List.length_nil, List.length_replicate, List.length_set, List.length_reverse, nds_len, numsD_length]; omega) | (simp only [List.length_map, List.length_append, List.length_take, List.length_drop, List.length_cons, List.length_nil, List.length_replicate, List.length_set, List.length_reverse, nds_len, numsD_length]; exact ⟨by omega, by omega⟩) | exact nds_each | (refine map_each ?_; intro x; rfl) | (refine first_map ?_; intro x; rfl) | exact first_nds | simp | (simp; omega)); done)); conv => whnf)
    | (refine Br.t (by assumption) ?_; conv => whnf)
    | (refine Br.f (by assumption) ?_; conv => whnf)
    | (refine Br.self ?_; conv => whnf)
    | (refine Br.decT (by assumption) ?_; conv => whnf)
    | (refine Br.decF (by assumption) ?_; conv => whnf)
    | (refine Br.eqT (by assumption) ?_; conv => whnf)
    | (refine Br.eqF (by assumption) ?_; conv => whnf)
    | (refine Br.dec (fun hc => ?_) (fun hc => ?_) <;> (try simp only [List.length_map, List.length_append, List.length_take, List.length_drop, List.length_cons, List.length_nil, List.length_replicate, List.length_set, List.length_reverse, nds_len, numsD_length] at hc) <;> first | (exfalso; omega) | exact absurd trivial hc | exact absurd rfl hc | conv => whnf)
    | (refine Br.eq (fun hc => ?_) (fun hc => ?_) <;> first | (exfalso; omega) | exact absurd trivial hc | exact absurd rfl hc | conv => whnf)
    | (refine Br.ne (fun hc => ?_) (fun hc => ?_) <;> first | (exfalso; omega) | exact absurd trivial hc | exact absurd rfl hc | conv => whnf)
    | (with_reducible refine Br.and ?_)
    | (with_reducible refine Br.or ?_)
    | (refine Br.any (fun hc => ?_) (fun hc => ?_) <;> conv => whnf)
    | (refine Fit.inl ?_ ?_; (focus ((first | omega | exact ⟨by omega, by omega⟩ | rfl | exact trivial | assumption | (simp only [List.length_map, List.length_append, List.length_take, List.length_drop, List.length_cons, List.length_nil, List.length_replicate, List.length_set, List.length_reverse, nds_len, numsD_length]; omega) | (simp only [List.length_map, List.length_append, List.length_take, List.length_drop, List.length_cons, List.length_nil, List.length_replicate, List.length_set, List.length_reverse, nds_len, numsD_length]; exact ⟨by omega, by omega⟩) | exact nds_each | (refine map_each ?_; intro x; rfl) | (refine first_map ?_; intro x; rfl) | exact first_nds | simp | (simp; omega)); done)); conv => whnf)
    | (refine Each.mapAt (by assumption) ?_; conv => whnf)
    | (refine Each.ndsAt (by assumption) ?_; conv => whnf)
    | (refine Each.at (by assumption) ?_; conv => whnf)
    | (refine Each.map (fun x hx => ?_); (try simp only [Int.toNat_natCast, Int.toNat_zero, Int.toNat_one, Int.toNat_natCast_add_one] at hx); conv => whnf)
    | (refine Each.nds (fun a b c ps hx => ?_); (try simp only [Int.toNat_natCast, Int.toNat_zero, Int.toNat_one, Int.toNat_natCast_add_one] at hx); conv => whnf)
    | (refine Each.rep ?_; conv => whnf)
    | (refine Each.drop ?_)
    | (refine Each.take (fun hi => ?_))
    | (refine Each.any (fun x hx => ?_); (try simp only [Int.toNat_natCast, Int.toNat_zero, Int.toNat_one, Int.toNat_natCast_add_one] at hx); conv => whnf)
    | (refine NilB.any (fun hn => ?_) ?_ <;> conv => whnf)
    | (refine ⟨_, bytesOfD_nums _, ?_⟩; conv => whnf)
    | exact ⟨rfl, rfl⟩
    | (refine Fin.bool ?_ rfl)
    | (refine Fin.int ?_ rfl)
    | (refine Fin.str ?_ rfl)
    | (refine Fin.sl ?_ rfl)
    | exact trivial)
  rw [if_neg h40]
  have h1 := schemesC schemes hs
  by_cases hq : schemesE schemes = 0
  · rw [if_pos hq]
    rw [hq] at h1
    have h2 := linkedC names schemes hn hs _ ns (Nat.lt_succ_self _) hk
    (refine CallWP.go tabOK Tryz.func7 0 21 rfl rfl rfl rfl ?_; conv => whnf)
    repeat' (first
    | (refine Br.tt ?_; conv => whnf)
    | (refine Br.ff ?_; conv => whnf)
    | (refine Both.mk ?_ ?_ <;> conv => whnf)
    | (refine Br.not ?_)
    | (refine Need.mk ?_ ?_; (focus ((first | omega | exact ⟨by omega, by omega⟩ | rfl | exact trivial | assumption | (simp only [List.length_map, List.length_append, List.length_take, List.length_drop, List.length_cons, List.length_nil, List.length_replicate, List.length_set, List.length_reverse, nds_len, numsD_length]; omega) | (simp only [List.length_map, List.length_append, List.length_take, List.length_drop, List.length_cons, List.length_nil, List.length_replicate, List.length_set, List.length_reverse, nds_len, numsD_length]; exact ⟨by omega, by omega⟩) | exact nds_each | (refine map_each ?_; intro x; rfl) | (refine first_map ?_; intro x; rfl) | exact first_nds | simp | (simp; omega)); done)); conv => whnf)
    | (refine Br.t (by assumption) ?_; conv => whnf)
    | (refine Br.f (by assumption) ?_; conv => whnf)
    | (refine Br.self ?_; conv => whnf)
    | (refine Br.decT (by assumption) ?_; conv => whnf)
    | (refine Br.decF (by assumption) ?_; conv => whnf)
    | (refine Br.eqT (by assumption) ?_; conv => whnf)
    | (refine Br.eqF (by assumption) ?_; conv => whnf)
    | (refine Br.dec (fun hc => ?_) (fun hc => ?_) <;> (try simp only [List.length_map, List.length_append, List.length_take, List.length_drop, List.length_cons, List.length_nil, List.length_replicate, List.length_set, List.length_reverse, nds_len, numsD_length] at hc) <;> first | (exfalso; omega) | exact absurd trivial hc | exact absurd rfl hc | conv => whnf)
    | (refine Br.eq (fun hc => ?_) (fun hc => ?_) <;> first | (exfalso; omega) | exact absurd trivial hc | exact absurd rfl hc | conv => whnf)
    | (refine Br.ne (fun hc => ?_) (fun hc => ?_) <;> first | (exfalso; omega) | exact absurd trivial hc | exact absurd rfl hc | conv => whnf)
    | (with_reducible refine Br.and ?_)
    | (with_reducible refine Br.or ?_)
    | (refine Br.any (fun hc => ?_) (fun hc => ?_) <;> conv => whnf)
    | (refine Fit.inl ?_ ?_; (focus ((first | omega | exact ⟨by omega, by omega⟩ | rfl | exact trivial | assumption | (simp only [List.length_map, List.length_append, List.length_take, List.length_drop, List.length_cons, List.length_nil, List.length_replicate, List.length_set, List.length_reverse, nds_len, numsD_length]; omega) | (simp only [List.length_map, List.length_append, List.length_take, List.length_drop, List.length_cons, List.length_nil, List.length_replicate, List.length_set, List.length_reverse, nds_len, numsD_length]; exact ⟨by omega, by omega⟩) | exact nds_each | (refine map_each ?_; intro x; rfl) | (refine first_map ?_; intro x; rfl) | exact first_nds | simp | (simp; omega)); done)); conv => whnf)
    | (refine Each.mapAt (by assumption) ?_; conv => whnf)
    | (refine Each.ndsAt (by assumption) ?_; conv => whnf)
    | (refine Each.at (by assumption) ?_; conv => whnf)
    | (refine Each.map (fun x hx => ?_); (try simp only [Int.toNat_natCast, Int.toNat_zero, Int.toNat_one, Int.toNat_natCast_add_one] at hx); conv => whnf)
    | (refine Each.nds (fun a b c ps hx => ?_); (try simp only [Int.toNat_natCast, Int.toNat_zero, Int.toNat_one, Int.toNat_natCast_add_one] at hx); conv => whnf)
    | (refine Each.rep ?_; conv => whnf)
    | (refine Each.drop ?_)
    | (refine Each.take (fun hi => ?_))
    | (refine Each.any (fun x hx => ?_); (try simp only [Int.toNat_natCast, Int.toNat_zero, Int.toNat_one, Int.toNat_natCast_add_one] at hx); conv => whnf)
    | (refine NilB.any (fun hn => ?_) ?_ <;> conv => whnf)
    | (refine CallWP.mono (h1) ?_; rintro r h ⟨rfl, rfl⟩; conv => whnf)
    | (refine CallWP.mono (h2) ?_; rintro r h ⟨rfl, rfl⟩; conv => whnf)
    | (refine ⟨_, bytesOfD_nums _, ?_⟩; conv => whnf)
    | exact ⟨rfl, rfl⟩
    | (refine Fin.bool ?_ rfl)
    | (refine Fin.int ?_ rfl)
    | (refine Fin.str ?_ rfl)
    | (refine Fin.sl ?_ rfl)
    | exact trivial)
  · rw [if_neg hq]
    refine CallWP.val (Q := fun r h => r = .tup [.nils, (.d (.int .i64 (schemesE schemes)))] ∧ h = []) ?_ (by rintro r h ⟨rfl, rfl⟩; exact ⟨rfl, rfl⟩)
    (refine CallWP.go tabOK Tryz.func7 0 21 rfl rfl rfl rfl ?_; conv => whnf)
    repeat' (first
    | (refine Br.tt ?_; conv => whnf)
    | (refine Br.ff ?_; conv => whnf)
    | (refine Both.mk ?_ ?_ <;> conv => whnf)
    | (refine Br.not ?_)
    | (refine Need.mk ?_ ?_; (focus ((first | omega | exact ⟨by omega, by omega⟩ | rfl | exact trivial | assumption | (simp only [List.length_map, List.length_append, List.length_take, List.length_drop, List.length_cons, List.length_nil, List.length_replicate, List.length_set, List.length_reverse, nds_len, numsD_length]; omega) | (simp only [List.length_map, List.length_append, List.length_take, List.length_drop, List.length_cons, List.length_nil, List.length_replicate, List.length_set, List.length_reverse, nds_len, numsD_length]; exact ⟨by omega, by omega⟩) | exact nds_each | (refine map_each ?_; intro x; rfl) | (refine first_map ?_; intro x; rfl) | exact first_nds | simp | (simp; omega)); done)); conv => whnf)
    | (refine Br.t (by assumption) ?_; conv => whnf)
    | (refine Br.f (by assumption) ?_; conv => whnf)
    | (refine Br.self ?_; conv => whnf)
    | (refine Br.decT (by assumption) ?_; conv => whnf)
    | (refine Br.decF (by assumption) ?_; conv => whnf)
    | (refine Br.eqT (by assumption) ?_; conv => whnf)
    | (refine Br.eqF (by assumption) ?_; conv => whnf)
    | (refine Br.dec (fun hc => ?_) (fun hc => ?_) <;> (try simp only [List.length_map, List.length_append, List.length_take, List.length_drop, List.length_cons, List.length_nil, List.length_replicate, List.length_set, List.length_reverse, nds_len, numsD_length] at hc) <;> first | (exfalso; omega) | exact absurd trivial hc | exact absurd rfl hc | conv => whnf)
    | (refine Br.eq (fun hc => ?_) (fun hc => ?_) <;> first | (exfalso; omega) | exact absurd trivial hc | exact absurd rfl hc | conv => whnf)
    | (refine Br.ne (fun hc => ?_) (fun hc => ?_) <;> first | (exfalso; omega) | exact absurd trivial hc | exact absurd rfl hc | conv => whnf)
    | (with_reducible refine Br.and ?_)
    | (with_reducible refine Br.or ?_)
    | (refine Br.any (fun hc => ?_) (fun hc => ?_) <;> conv => whnf)
    | (refine Fit.inl ?_ ?_; (focus ((first | omega | exact ⟨by omega, by omega⟩ | rfl | exact trivial | assumption | (simp only [List.length_map, List.length_append, List.length_take, List.length_drop, List.length_cons, List.length_nil, List.length_replicate, List.length_set, List.length_reverse, nds_len, numsD_length]; omega) | (simp only [List.length_map, List.length_append, List.length_take, List.length_drop, List.length_cons, List.length_nil, List.length_replicate, List.length_set, List.length_reverse, nds_len, numsD_length]; exact ⟨by omega, by omega⟩) | exact nds_each | (refine map_each ?_; intro x; rfl) | (refine first_map ?_; intro x; rfl) | exact first_nds | simp | (simp; omega)); done)); conv => whnf)
    | (refine Each.mapAt (by assumption) ?_; conv => whnf)
    | (refine Each.ndsAt (by assumption) ?_; conv => whnf)
    | (refine Each.at (by assumption) ?_; conv => whnf)
    | (refine Each.map (fun x hx => ?_); (try simp only [Int.toNat_natCast, Int.toNat_zero, Int.toNat_one, Int.toNat_natCast_add_one] at hx); conv => whnf)
    | (refine Each.nds (fun a b c ps hx => ?_); (try simp only [Int.toNat_natCast, Int.toNat_zero, Int.toNat_one, Int.toNat_natCast_add_one] at hx); conv => whnf)
    | (refine Each.rep ?_; conv => whnf)
    | (refine Each.drop ?_)
    | (refine Each.take (fun hi => ?_))
    | (refine Each.any (fun x hx => ?_); (try simp only [Int.toNat_natCast, Int.toNat_zero, Int.toNat_one, Int.toNat_natCast_add_one] at hx); conv => whnf)
    | (refine NilB.any (fun hn => ?_) ?_ <;> conv => whnf)
    | (refine CallWP.mono (h1) ?_; rintro r h ⟨rfl, rfl⟩; conv => whnf)
    | (refine ⟨_, bytesOfD_nums _, ?_⟩; conv => whnf)
    | exact ⟨rfl, rfl⟩
    | (refine Fin.bool ?_ rfl)
    | (refine Fin.int ?_ rfl)
    | (refine Fin.str ?_ rfl)
    | (refine Fin.sl ?_ rfl)
    | exact trivial)
theorem linksR (names schemes : List Str) (hn : names.length < 2 ^ 62) (hs : bd schemes) (ns : List Nd) (hk : small ns) : CallWP Tryz.prog 8 [(.d (.sl (names.map iS))), (.d (.sl (schemes.map iS))), (.d (.sl (nds ns)))] [] (fun r h => r = .tup [(.d (.sl (nds (res names schemes ns).1))), (.d (.int .i64 ((res names schemes ns).2)))] ∧ h = []) := by
  unfold res
  by_cases h40 : 40 < names.length
  · rw [if_pos h40]
    refine CallWP.val (Q := fun r h => r = .tup [.nils, (.d (.int .i64 (1)))] ∧ h = []) ?_ (by rintro r h ⟨rfl, rfl⟩; exact ⟨rfl, rfl⟩)
    (refine CallWP.go tabOK Tryz.func8 0 25 rfl rfl rfl rfl ?_; conv => whnf)
    repeat' (first
    | (refine Br.tt ?_; conv => whnf)
    | (refine Br.ff ?_; conv => whnf)
    | (refine Both.mk ?_ ?_ <;> conv => whnf)
    | (refine Br.not ?_)
    | (refine Need.mk ?_ ?_; (focus ((first | omega | exact ⟨by omega, by omega⟩ | rfl | exact trivial | assumption | (simp only [List.length_map, List.length_append, List.length_take, List.length_drop, List.length_cons, List.length_nil, List.length_replicate, List.length_set, List.length_reverse, nds_len, numsD_length]; omega) | (simp only [List.length_map, List.length_append, List.length_take, List.length_drop, List.length_cons, List.length_nil, List.length_replicate, List.length_set, List.length_reverse, nds_len, numsD_length]; exact ⟨by omega, by omega⟩) | exact nds_each | (refine map_each ?_; intro x; rfl) | (refine first_map ?_; intro x; rfl) | exact first_nds | simp | (simp; omega)); done)); conv => whnf)
    | (refine Br.t (by assumption) ?_; conv => whnf)
    | (refine Br.f (by assumption) ?_; conv => whnf)
    | (refine Br.self ?_; conv => whnf)
    | (refine Br.decT (by assumption) ?_; conv => whnf)
    | (refine Br.decF (by assumption) ?_; conv => whnf)
    | (refine Br.eqT (by assumption) ?_; conv => whnf)
    | (refine Br.eqF (by assumption) ?_; conv => whnf)
    | (refine Br.dec (fun hc => ?_) (fun hc => ?_) <;> (try simp only [List.length_map, List.length_append, List.length_take, List.length_drop, List.length_cons, List.length_nil, List.length_replicate, List.length_set, List.length_reverse, nds_len, numsD_length] at hc) <;> first | (exfalso; omega) | exact absurd trivial hc | exact absurd rfl hc | conv => whnf)
    | (refine Br.eq (fun hc => ?_) (fun hc => ?_) <;> first | (exfalso; omega) | exact absurd trivial hc | exact absurd rfl hc | conv => whnf)
    | (refine Br.ne (fun hc => ?_) (fun hc => ?_) <;> first | (exfalso; omega) | exact absurd trivial hc | exact absurd rfl hc | conv => whnf)
    | (with_reducible refine Br.and ?_)
    | (with_reducible refine Br.or ?_)
    | (refine Br.any (fun hc => ?_) (fun hc => ?_) <;> conv => whnf)
    | (refine Fit.inl ?_ ?_; (focus ((first | omega | exact ⟨by omega, by omega⟩ | rfl | exact trivial | assumption | (simp only [List.length_map, List.length_append, List.length_take, List.length_drop, List.length_cons, List.length_nil, List.length_replicate, List.length_set, List.length_reverse, nds_len, numsD_length]; omega) | (simp only [List.length_map, List.length_append, List.length_take, List.length_drop, List.length_cons, List.length_nil, List.length_replicate, List.length_set, List.length_reverse, nds_len, numsD_length]; exact ⟨by omega, by omega⟩) | exact nds_each | (refine map_each ?_; intro x; rfl) | (refine first_map ?_; intro x; rfl) | exact first_nds | simp | (simp; omega)); done)); conv => whnf)
    | (refine Each.mapAt (by assumption) ?_; conv => whnf)
    | (refine Each.ndsAt (by assumption) ?_; conv => whnf)
    | (refine Each.at (by assumption) ?_; conv => whnf)
    | (refine Each.map (fun x hx => ?_); (try simp only [Int.toNat_natCast, Int.toNat_zero, Int.toNat_one, Int.toNat_natCast_add_one] at hx); conv => whnf)
    | (refine Each.nds (fun a b c ps hx => ?_); (try simp only [Int.toNat_natCast, Int.toNat_zero, Int.toNat_one, Int.toNat_natCast_add_one] at hx); conv => whnf)
    | (refine Each.rep ?_; conv => whnf)
    | (refine Each.drop ?_)
    | (refine Each.take (fun hi => ?_))
    | (refine Each.any (fun x hx => ?_); (try simp only [Int.toNat_natCast, Int.toNat_zero, Int.toNat_one, Int.toNat_natCast_add_one] at hx); conv => whnf)
    | (refine NilB.any (fun hn => ?_) ?_ <;> conv => whnf)
    | (refine ⟨_, bytesOfD_nums _, ?_⟩; conv => whnf)
    | exact ⟨rfl, rfl⟩
    | (refine Fin.bool ?_ rfl)
    | (refine Fin.int ?_ rfl)
    | (refine Fin.str ?_ rfl)
    | (refine Fin.sl ?_ rfl)
    | exact trivial)
  rw [if_neg h40]
  have h1 := safeR [] (by decide) schemes hs
  by_cases hq : schemesE schemes = 0
  · rw [if_pos hq]
    have hsp : safeP [] schemes = (ofB [] schemes, 0) := by unfold safeP; rw [if_pos hq]
    rw [hsp] at h1
    have h2 := linkedR names schemes hn hs hq _ ns (Nat.lt_succ_self _) hk
    (refine CallWP.go tabOK Tryz.func8 0 25 rfl rfl rfl rfl ?_; conv => whnf)
    repeat' (first
    | (refine Br.tt ?_; conv => whnf)
    | (refine Br.ff ?_; conv => whnf)
    | (refine Both.mk ?_ ?_ <;> conv => whnf)
    | (refine Br.not ?_)
    | (refine Need.mk ?_ ?_; (focus ((first | omega | exact ⟨by omega, by omega⟩ | rfl | exact trivial | assumption | (simp only [List.length_map, List.length_append, List.length_take, List.length_drop, List.length_cons, List.length_nil, List.length_replicate, List.length_set, List.length_reverse, nds_len, numsD_length]; omega) | (simp only [List.length_map, List.length_append, List.length_take, List.length_drop, List.length_cons, List.length_nil, List.length_replicate, List.length_set, List.length_reverse, nds_len, numsD_length]; exact ⟨by omega, by omega⟩) | exact nds_each | (refine map_each ?_; intro x; rfl) | (refine first_map ?_; intro x; rfl) | exact first_nds | simp | (simp; omega)); done)); conv => whnf)
    | (refine Br.t (by assumption) ?_; conv => whnf)
    | (refine Br.f (by assumption) ?_; conv => whnf)
    | (refine Br.self ?_; conv => whnf)
    | (refine Br.decT (by assumption) ?_; conv => whnf)
    | (refine Br.decF (by assumption) ?_; conv => whnf)
    | (refine Br.eqT (by assumption) ?_; conv => whnf)
    | (refine Br.eqF (by assumption) ?_; conv => whnf)
    | (refine Br.dec (fun hc => ?_) (fun hc => ?_) <;> (try simp only [List.length_map, List.length_append, List.length_take, List.length_drop, List.length_cons, List.length_nil, List.length_replicate, List.length_set, List.length_reverse, nds_len, numsD_length] at hc) <;> first | (exfalso; omega) | exact absurd trivial hc | exact absurd rfl hc | conv => whnf)
    | (refine Br.eq (fun hc => ?_) (fun hc => ?_) <;> first | (exfalso; omega) | exact absurd trivial hc | exact absurd rfl hc | conv => whnf)
    | (refine Br.ne (fun hc => ?_) (fun hc => ?_) <;> first | (exfalso; omega) | exact absurd trivial hc | exact absurd rfl hc | conv => whnf)
    | (with_reducible refine Br.and ?_)
    | (with_reducible refine Br.or ?_)
    | (refine Br.any (fun hc => ?_) (fun hc => ?_) <;> conv => whnf)
    | (refine Fit.inl ?_ ?_; (focus ((first | omega | exact ⟨by omega, by omega⟩ | rfl | exact trivial | assumption | (simp only [List.length_map, List.length_append, List.length_take, List.length_drop, List.length_cons, List.length_nil, List.length_replicate, List.length_set, List.length_reverse, nds_len, numsD_length]; omega) | (simp only [List.length_map, List.length_append, List.length_take, List.length_drop, List.length_cons, List.length_nil, List.length_replicate, List.length_set, List.length_reverse, nds_len, numsD_length]; exact ⟨by omega, by omega⟩) | exact nds_each | (refine map_each ?_; intro x; rfl) | (refine first_map ?_; intro x; rfl) | exact first_nds | simp | (simp; omega)); done)); conv => whnf)
    | (refine Each.mapAt (by assumption) ?_; conv => whnf)
    | (refine Each.ndsAt (by assumption) ?_; conv => whnf)
    | (refine Each.at (by assumption) ?_; conv => whnf)
    | (refine Each.map (fun x hx => ?_); (try simp only [Int.toNat_natCast, Int.toNat_zero, Int.toNat_one, Int.toNat_natCast_add_one] at hx); conv => whnf)
    | (refine Each.nds (fun a b c ps hx => ?_); (try simp only [Int.toNat_natCast, Int.toNat_zero, Int.toNat_one, Int.toNat_natCast_add_one] at hx); conv => whnf)
    | (refine Each.rep ?_; conv => whnf)
    | (refine Each.drop ?_)
    | (refine Each.take (fun hi => ?_))
    | (refine Each.any (fun x hx => ?_); (try simp only [Int.toNat_natCast, Int.toNat_zero, Int.toNat_one, Int.toNat_natCast_add_one] at hx); conv => whnf)
    | (refine NilB.any (fun hn => ?_) ?_ <;> conv => whnf)
    | (refine CallWP.mono (h1) ?_; rintro r h ⟨rfl, rfl⟩; conv => whnf)
    | (refine CallWP.mono (h2) ?_; rintro r h ⟨rfl, rfl⟩; conv => whnf)
    | (refine ⟨_, bytesOfD_nums _, ?_⟩; conv => whnf)
    | exact ⟨rfl, rfl⟩
    | (refine Fin.bool ?_ rfl)
    | (refine Fin.int ?_ rfl)
    | (refine Fin.str ?_ rfl)
    | (refine Fin.sl ?_ rfl)
    | exact trivial)
  · rw [if_neg hq]
    have hsp : safeP [] schemes = (false, schemesE schemes) := by unfold safeP; rw [if_neg hq]
    rw [hsp] at h1
    refine CallWP.val (Q := fun r h => r = .tup [.nils, (.d (.int .i64 (schemesE schemes)))] ∧ h = []) ?_ (by rintro r h ⟨rfl, rfl⟩; exact ⟨rfl, rfl⟩)
    (refine CallWP.go tabOK Tryz.func8 0 25 rfl rfl rfl rfl ?_; conv => whnf)
    repeat' (first
    | (refine Br.tt ?_; conv => whnf)
    | (refine Br.ff ?_; conv => whnf)
    | (refine Both.mk ?_ ?_ <;> conv => whnf)
    | (refine Br.not ?_)
    | (refine Need.mk ?_ ?_; (focus ((first | omega | exact ⟨by omega, by omega⟩ | rfl | exact trivial | assumption | (simp only [List.length_map, List.length_append, List.length_take, List.length_drop, List.length_cons, List.length_nil, List.length_replicate, List.length_set, List.length_reverse, nds_len, numsD_length]; omega) | (simp only [List.length_map, List.length_append, List.length_take, List.length_drop, List.length_cons, List.length_nil, List.length_replicate, List.length_set, List.length_reverse, nds_len, numsD_length]; exact ⟨by omega, by omega⟩) | exact nds_each | (refine map_each ?_; intro x; rfl) | (refine first_map ?_; intro x; rfl) | exact first_nds | simp | (simp; omega)); done)); conv => whnf)
    | (refine Br.t (by assumption) ?_; conv => whnf)
    | (refine Br.f (by assumption) ?_; conv => whnf)
    | (refine Br.self ?_; conv => whnf)
    | (refine Br.decT (by assumption) ?_; conv => whnf)
    | (refine Br.decF (by assumption) ?_; conv => whnf)
    | (refine Br.eqT (by assumption) ?_; conv => whnf)
    | (refine Br.eqF (by assumption) ?_; conv => whnf)
    | (refine Br.dec (fun hc => ?_) (fun hc => ?_) <;> (try simp only [List.length_map, List.length_append, List.length_take, List.length_drop, List.length_cons, List.length_nil, List.length_replicate, List.length_set, List.length_reverse, nds_len, numsD_length] at hc) <;> first | (exfalso; omega) | exact absurd trivial hc | exact absurd rfl hc | conv => whnf)
    | (refine Br.eq (fun hc => ?_) (fun hc => ?_) <;> first | (exfalso; omega) | exact absurd trivial hc | exact absurd rfl hc | conv => whnf)
    | (refine Br.ne (fun hc => ?_) (fun hc => ?_) <;> first | (exfalso; omega) | exact absurd trivial hc | exact absurd rfl hc | conv => whnf)
    | (with_reducible refine Br.and ?_)
    | (with_reducible refine Br.or ?_)
    | (refine Br.any (fun hc => ?_) (fun hc => ?_) <;> conv => whnf)
    | (refine Fit.inl ?_ ?_; (focus ((first | omega | exact ⟨by omega, by omega⟩ | rfl | exact trivial | assumption | (simp only [List.length_map, List.length_append, List.length_take, List.length_drop, List.length_cons, List.length_nil, List.length_replicate, List.length_set, List.length_reverse, nds_len, numsD_length]; omega) | (simp only [List.length_map, List.length_append, List.length_take, List.length_drop, List.length_cons, List.length_nil, List.length_replicate, List.length_set, List.length_reverse, nds_len, numsD_length]; exact ⟨by omega, by omega⟩) | exact nds_each | (refine map_each ?_; intro x; rfl) | (refine first_map ?_; intro x; rfl) | exact first_nds | simp | (simp; omega)); done)); conv => whnf)
    | (refine Each.mapAt (by assumption) ?_; conv => whnf)
    | (refine Each.ndsAt (by assumption) ?_; conv => whnf)
    | (refine Each.at (by assumption) ?_; conv => whnf)
    | (refine Each.map (fun x hx => ?_); (try simp only [Int.toNat_natCast, Int.toNat_zero, Int.toNat_one, Int.toNat_natCast_add_one] at hx); conv => whnf)
    | (refine Each.nds (fun a b c ps hx => ?_); (try simp only [Int.toNat_natCast, Int.toNat_zero, Int.toNat_one, Int.toNat_natCast_add_one] at hx); conv => whnf)
    | (refine Each.rep ?_; conv => whnf)
    | (refine Each.drop ?_)
    | (refine Each.take (fun hi => ?_))
    | (refine Each.any (fun x hx => ?_); (try simp only [Int.toNat_natCast, Int.toNat_zero, Int.toNat_one, Int.toNat_natCast_add_one] at hx); conv => whnf)
    | (refine NilB.any (fun hn => ?_) ?_ <;> conv => whnf)
    | (refine CallWP.mono (h1) ?_; rintro r h ⟨rfl, rfl⟩; conv => whnf)
    | (refine ⟨_, bytesOfD_nums _, ?_⟩; conv => whnf)
    | exact ⟨rfl, rfl⟩
    | (refine Fin.bool ?_ rfl)
    | (refine Fin.int ?_ rfl)
    | (refine Fin.str ?_ rfl)
    | (refine Fin.sl ?_ rfl)
    | exact trivial)
end Go.VL.RulesLink
