/- show.Text and its reference answer alike. -/
import Derived.Test.YtekmfhoppbpobaaShowCheck
import Derived.Test.YtekmfhoppbpobaaTag
set_option linter.unusedVariables false
set_option linter.unusedSimpArgs false
namespace Go.VL.ShowText
open Go Go.Proofs Go.VL Go.VL.ShowCheck Go.VL.Tag Go.VL.Escape
set_option maxRecDepth 100000
attribute [local irreducible] CallWP WP Need Br Each NilB fit Both
theorem atts_lin : ∀ l : List Attr, (atts l).length ≤ 8 * szLL (l.map Attr.d)
  | [] => by simp [atts]
  | a :: r => by
    have h1 := at1_len a
    have h2 := atts_lin r
    simp only [atts, List.map_cons, List.flatten_cons, List.length_append, szLL, Attr.d, szL, szD] at h2 ⊢
    omega
theorem tag_lin (nm : Str) (l : List Attr) (self : Bool) : (tagText nm l self).length ≤ 8 * szLL (l.map Attr.d) + nm.length + 3 := by
  have h2 := atts_lin l
  simp only [tagText, List.length_append, List.length_cons, List.length_nil]
  split <;> simp <;> omega
mutual
def ndT : Nd → Str
  | .mk a b c ps => if a = [] then esc false c else if voidB a = true then tagText a b false else tagText a b false ++ ndsT ps ++ [60, 47] ++ a ++ [62]
def ndsT : List Nd → Str
  | [] => []
  | n :: r => ndT n ++ ndsT r
end
theorem ndsT_app (a b : List Nd) : ndsT (a ++ b) = ndsT a ++ ndsT b := by
  induction a with
  | nil => simp [ndsT]
  | cons n r ih => simp [ndsT, ih]
theorem ndsT_take {l : List Nd} {i : Nat} {n : Nd} (h : l[i]? = some n) : ndsT (l.take (i + 1)) = ndsT (l.take i) ++ ndT n := by
  rw [List.take_add_one, h, ndsT_app]; simp [ndsT]
mutual
theorem ndT_lin : ∀ n : Nd, (ndT n).length ≤ 8 * szL n.d
  | .mk a b c ps => by
    have h1 := ndsT_lin ps
    have h2 := tag_lin a b false
    have h3 := esc_len false c
    simp only [Nd.d, szL, szD]
    rw [ndT]
    split
    · omega
    · split
      · omega
      · simp only [List.length_append, List.length_cons, List.length_nil]; omega
theorem ndsT_lin : ∀ l : List Nd, (ndsT l).length ≤ 8 * szLL (nds l)
  | [] => by simp [ndsT]
  | n :: r => by
    have h1 := ndT_lin n
    have h2 := ndsT_lin r
    simp only [ndsT, nds, szLL, List.length_append]; omega
end
theorem nds_take_sz (l : List Nd) (i : Nat) : szLL (nds (l.take i)) ≤ szLL (nds l) := by
  have := szLL_app (nds (l.take i)) (nds (l.drop i))
  rw [← nds_app, List.take_append_drop] at this
  omega
theorem nds_mem_sz {l : List Nd} {i : Nat} {n : Nd} (h : l[i]? = some n) : szLL (nds (l.take i)) + szL n.d ≤ szLL (nds l) := by
  have h1 := szLL_app (nds (l.take (i + 1))) (nds (l.drop (i + 1)))
  rw [← nds_app, List.take_append_drop, nds_take h, szLL_app] at h1
  simp only [szLL] at h1
  omega
set_option maxHeartbeats 4000000 in
theorem ofC (m : Nat) : ∀ l : List Nd, szs l < m → H l → CallWP Try.prog 60 [.d (.sl (nds l))] [] (fun r h => r = .d (.str (ndsT l)) ∧ h = []) := by
  induction m with
  | zero => intro ns h; omega
  | succ m ih =>
  intro l hm hH
  have hlen := len_nds l
  unfold H at hH
  (refine CallWP.go tabOK Try.func60 0 50 rfl rfl rfl rfl ?_; conv => whnf)
  refine WP.loop (α := Nat) tabOK (fun i => i ≤ l.length) (fun i => ⟨[(3, (.d (.str (ndsT (l.take i))))), (6, (.d (.sl (nds l)))), (7, (.d (.int .i64 ((nds l).length)))), (8, (.d (.int .i64 (i))))], [], 0, 50⟩) (fun i => l.length - i) (0) ?_ ?_ ?_
  · exact Nat.zero_le _
  · conv => whnf
    repeat (first | exact True.intro | (refine Need.mk ?_ ?_; (focus ((first | rfl | assumption | omega | (simp only [List.length_map, List.length_append, List.length_take, List.length_drop, List.length_cons, List.length_nil, List.length_replicate, List.length_set, List.length_reverse, nds_len, numsD_length]; omega) | simp [ndsT]); done)); conv => whnf) | ((conv => whnf); exact True.intro))
  intro i hi
  by_cases hlt : i < l.length
  case neg =>
    have e : l.take i = l := List.take_of_length_le (by omega)
    rw [e]
    conv => whnf
    repeat' (first
    | (refine Br.tt ?_; conv => whnf)
    | (refine Br.ff ?_; conv => whnf)
    | (refine Both.mk ?_ ?_ <;> conv => whnf)
    | (refine Br.not ?_)
    | (refine Need.mk ?_ ?_; (focus ((first | omega | exact ⟨by omega, by omega⟩ | rfl | exact trivial | assumption | (simp only [List.length_map, List.length_append, List.length_take, List.length_drop, List.length_cons, List.length_nil, List.length_replicate, List.length_set, List.length_reverse, nds_len, numsD_length]; omega) | (simp only [List.length_map, List.length_append, List.length_take, List.length_drop, List.length_cons, List.length_nil, List.length_replicate, List.length_set, List.length_reverse, nds_len, numsD_length]; exact ⟨by omega, by omega⟩) | exact nds_each | (refine map_each ?_; intro x; rfl) | (refine first_map ?_; intro x; rfl) | exact first_nds | simp | (simp; omega)); done)); conv => whnf)
    | (refine Br.t (by assumption) ?_; conv => whnf)
    | (refine Br.f (by assumption) ?_; conv => whnf)
    | (refine Br.self ?_; conv => whnf)
    | (refine Br.decT (by assumption) ?_; conv => whnf)
    | (refine Br.decF (by assumption) ?_; conv => whnf)
    | (refine Br.eqT (by assumption) ?_; conv => whnf)
    | (refine Br.eqF (by assumption) ?_; conv => whnf)
    | (refine Br.dec (fun hc => ?_) (fun hc => ?_) <;> (try simp only [List.length_map, List.length_append, List.length_take, List.length_drop, List.length_cons, List.length_nil, List.length_replicate, List.length_set, List.length_reverse, nds_len, numsD_length] at hc) <;> first | (exfalso; omega) | exact absurd trivial hc | exact absurd rfl hc | conv => whnf)
    | (refine Br.eq (fun hc => ?_) (fun hc => ?_) <;> first | (exfalso; omega) | exact absurd trivial hc | exact absurd rfl hc | conv => whnf)
    | (refine Br.ne (fun hc => ?_) (fun hc => ?_) <;> first | (exfalso; omega) | exact absurd trivial hc | exact absurd rfl hc | conv => whnf)
    | (with_reducible refine Br.and ?_)
    | (with_reducible refine Br.or ?_)
    | (refine Br.any (fun hc => ?_) (fun hc => ?_) <;> conv => whnf)
    | (refine Fit.inl ?_ ?_; (focus ((first | omega | exact ⟨by omega, by omega⟩ | rfl | exact trivial | assumption | (simp only [List.length_map, List.length_append, List.length_take, List.length_drop, List.length_cons, List.length_nil, List.length_replicate, List.length_set, List.length_reverse, nds_len, numsD_length]; omega) | (simp only [List.length_map, List.length_append, List.length_take, List.length_drop, List.length_cons, List.length_nil, List.length_replicate, List.length_set, List.length_reverse, nds_len, numsD_length]; exact ⟨by omega, by omega⟩) | exact nds_each | (refine map_each ?_; intro x; rfl) | (refine first_map ?_; intro x; rfl) | exact first_nds | simp | (simp; omega)); done)); conv => whnf)
    | (refine Each.mapAt (by assumption) ?_; conv => whnf)
    | (refine Each.ndsAt (by assumption) ?_; conv => whnf)
    | (refine Each.at (by assumption) ?_; conv => whnf)
    | (refine Each.map (fun x hx => ?_); (try simp only [Int.toNat_natCast, Int.toNat_zero, Int.toNat_one, Int.toNat_natCast_add_one] at hx); conv => whnf)
    | (refine Each.nds (fun a b c ps hx => ?_); (try simp only [Int.toNat_natCast, Int.toNat_zero, Int.toNat_one, Int.toNat_natCast_add_one] at hx); conv => whnf)
    | (refine Each.rep ?_; conv => whnf)
    | (refine Each.drop ?_)
    | (refine Each.take (fun hi => ?_))
    | (refine Each.any (fun x hx => ?_); (try simp only [Int.toNat_natCast, Int.toNat_zero, Int.toNat_one, Int.toNat_natCast_add_one] at hx); conv => whnf)
    | (refine NilB.any (fun hn => ?_) ?_ <;> conv => whnf)
    | (refine ⟨_, bytesOfD_nums _, ?_⟩; conv => whnf)
    | (refine WP.sch (id := 5) tabOK hmix (.mob 0 (.mob 1 (.mob 3 (.mob 6 (.mob 11 (.alt [(2, .alt [(4, .alt [(5, .alt [(7, .alt [(8, .mob 9 (.mob 10 (.alt [(12, .mob 13 (.mob 14 (.mob 15 (.mob 16 (.done)))))]))), (12, .alt [(8, .mob 9 (.mob 10 (.mob 13 (.mob 14 (.mob 15 (.mob 16 (.done)))))))])]), (12, .alt [(7, .alt [(8, .mob 9 (.mob 10 (.mob 13 (.mob 14 (.mob 15 (.mob 16 (.done)))))))])])]), (7, .alt [(5, .alt [(8, .mob 9 (.mob 10 (.alt [(12, .mob 13 (.mob 14 (.mob 15 (.mob 16 (.done)))))]))), (12, .alt [(8, .mob 9 (.mob 10 (.mob 13 (.mob 14 (.mob 15 (.mob 16 (.done)))))))])]), (12, .alt [(5, .alt [(8, .mob 9 (.mob 10 (.mob 13 (.mob 14 (.mob 15 (.mob 16 (.done)))))))])])]), (12, .alt [(5, .alt [(7, .alt [(8, .mob 9 (.mob 10 (.mob 13 (.mob 14 (.mob 15 (.mob 16 (.done)))))))])]), (7, .alt [(5, .alt [(8, .mob 9 (.mob 10 (.mob 13 (.mob 14 (.mob 15 (.mob 16 (.done)))))))])])])]), (7, .alt [(4, .alt [(5, .alt [(8, .mob 9 (.mob 10 (.alt [(12, .mob 13 (.mob 14 (.mob 15 (.mob 16 (.done)))))]))), (12, .alt [(8, .mob 9 (.mob 10 (.mob 13 (.mob 14 (.mob 15 (.mob 16 (.done)))))))])]), (12, .alt [(5, .alt [(8, .mob 9 (.mob 10 (.mob 13 (.mob 14 (.mob 15 (.mob 16 (.done)))))))])])]), (12, .alt [(4, .alt [(5, .alt [(8, .mob 9 (.mob 10 (.mob 13 (.mob 14 (.mob 15 (.mob 16 (.done)))))))])])])]), (12, .alt [(4, .alt [(5, .alt [(7, .alt [(8, .mob 9 (.mob 10 (.mob 13 (.mob 14 (.mob 15 (.mob 16 (.done)))))))])]), (7, .alt [(5, .alt [(8, .mob 9 (.mob 10 (.mob 13 (.mob 14 (.mob 15 (.mob 16 (.done)))))))])])]), (7, .alt [(4, .alt [(5, .alt [(8, .mob 9 (.mob 10 (.mob 13 (.mob 14 (.mob 15 (.mob 16 (.done)))))))])])])])]), (4, .alt [(2, .alt [(5, .alt [(7, .alt [(8, .mob 9 (.mob 10 (.alt [(12, .mob 13 (.mob 14 (.mob 15 (.mob 16 (.done)))))]))), (12, .alt [(8, .mob 9 (.mob 10 (.mob 13 (.mob 14 (.mob 15 (.mob 16 (.done)))))))])]), (12, .alt [(7, .alt [(8, .mob 9 (.mob 10 (.mob 13 (.mob 14 (.mob 15 (.mob 16 (.done)))))))])])]), (7, .alt [(5, .alt [(8, .mob 9 (.mob 10 (.alt [(12, .mob 13 (.mob 14 (.mob 15 (.mob 16 (.done)))))]))), (12, .alt [(8, .mob 9 (.mob 10 (.mob 13 (.mob 14 (.mob 15 (.mob 16 (.done)))))))])]), (12, .alt [(5, .alt [(8, .mob 9 (.mob 10 (.mob 13 (.mob 14 (.mob 15 (.mob 16 (.done)))))))])])]), (12, .alt [(5, .alt [(7, .alt [(8, .mob 9 (.mob 10 (.mob 13 (.mob 14 (.mob 15 (.mob 16 (.done)))))))])]), (7, .alt [(5, .alt [(8, .mob 9 (.mob 10 (.mob 13 (.mob 14 (.mob 15 (.mob 16 (.done)))))))])])])]), (7, .alt [(2, .alt [(5, .alt [(8, .mob 9 (.mob 10 (.alt [(12, .mob 13 (.mob 14 (.mob 15 (.mob 16 (.done)))))]))), (12, .alt [(8, .mob 9 (.mob 10 (.mob 13 (.mob 14 (.mob 15 (.mob 16 (.done)))))))])]), (12, .alt [(5, .alt [(8, .mob 9 (.mob 10 (.mob 13 (.mob 14 (.mob 15 (.mob 16 (.done)))))))])])]), (12, .alt [(2, .alt [(5, .alt [(8, .mob 9 (.mob 10 (.mob 13 (.mob 14 (.mob 15 (.mob 16 (.done)))))))])])])]), (12, .alt [(2, .alt [(5, .alt [(7, .alt [(8, .mob 9 (.mob 10 (.mob 13 (.mob 14 (.mob 15 (.mob 16 (.done)))))))])]), (7, .alt [(5, .alt [(8, .mob 9 (.mob 10 (.mob 13 (.mob 14 (.mob 15 (.mob 16 (.done)))))))])])]), (7, .alt [(2, .alt [(5, .alt [(8, .mob 9 (.mob 10 (.mob 13 (.mob 14 (.mob 15 (.mob 16 (.done)))))))])])])])]), (7, .alt [(2, .alt [(4, .alt [(5, .alt [(8, .mob 9 (.mob 10 (.alt [(12, .mob 13 (.mob 14 (.mob 15 (.mob 16 (.done)))))]))), (12, .alt [(8, .mob 9 (.mob 10 (.mob 13 (.mob 14 (.mob 15 (.mob 16 (.done)))))))])]), (12, .alt [(5, .alt [(8, .mob 9 (.mob 10 (.mob 13 (.mob 14 (.mob 15 (.mob 16 (.done)))))))])])]), (12, .alt [(4, .alt [(5, .alt [(8, .mob 9 (.mob 10 (.mob 13 (.mob 14 (.mob 15 (.mob 16 (.done)))))))])])])]), (4, .alt [(2, .alt [(5, .alt [(8, .mob 9 (.mob 10 (.alt [(12, .mob 13 (.mob 14 (.mob 15 (.mob 16 (.done)))))]))), (12, .alt [(8, .mob 9 (.mob 10 (.mob 13 (.mob 14 (.mob 15 (.mob 16 (.done)))))))])]), (12, .alt [(5, .alt [(8, .mob 9 (.mob 10 (.mob 13 (.mob 14 (.mob 15 (.mob 16 (.done)))))))])])]), (12, .alt [(2, .alt [(5, .alt [(8, .mob 9 (.mob 10 (.mob 13 (.mob 14 (.mob 15 (.mob 16 (.done)))))))])])])]), (12, .alt [(2, .alt [(4, .alt [(5, .alt [(8, .mob 9 (.mob 10 (.mob 13 (.mob 14 (.mob 15 (.mob 16 (.done)))))))])])]), (4, .alt [(2, .alt [(5, .alt [(8, .mob 9 (.mob 10 (.mob 13 (.mob 14 (.mob 15 (.mob 16 (.done)))))))])])])])]), (12, .alt [(2, .alt [(4, .alt [(5, .alt [(7, .alt [(8, .mob 9 (.mob 10 (.mob 13 (.mob 14 (.mob 15 (.mob 16 (.done)))))))])]), (7, .alt [(5, .alt [(8, .mob 9 (.mob 10 (.mob 13 (.mob 14 (.mob 15 (.mob 16 (.done)))))))])])]), (7, .alt [(4, .alt [(5, .alt [(8, .mob 9 (.mob 10 (.mob 13 (.mob 14 (.mob 15 (.mob 16 (.done)))))))])])])]), (4, .alt [(2, .alt [(5, .alt [(7, .alt [(8, .mob 9 (.mob 10 (.mob 13 (.mob 14 (.mob 15 (.mob 16 (.done)))))))])]), (7, .alt [(5, .alt [(8, .mob 9 (.mob 10 (.mob 13 (.mob 14 (.mob 15 (.mob 16 (.done)))))))])])]), (7, .alt [(2, .alt [(5, .alt [(8, .mob 9 (.mob 10 (.mob 13 (.mob 14 (.mob 15 (.mob 16 (.done)))))))])])])]), (7, .alt [(2, .alt [(4, .alt [(5, .alt [(8, .mob 9 (.mob 10 (.mob 13 (.mob 14 (.mob 15 (.mob 16 (.done)))))))])])]), (4, .alt [(2, .alt [(5, .alt [(8, .mob 9 (.mob 10 (.mob 13 (.mob 14 (.mob 15 (.mob 16 (.done)))))))])])])])])])))))) (by kernel_rfl) ?_; conv => whnf)
    | exact ⟨rfl, rfl⟩
    | (refine Fin.bool ?_ rfl)
    | (refine Fin.int ?_ rfl)
    | (refine Fin.str ?_ rfl)
    | (refine Fin.sl ?_ rfl)
    | exact trivial)
  obtain ⟨⟨a, b, c, ps⟩, hn⟩ : ∃ x, l[i]? = some x := ⟨l[i], by simp [hlt]⟩
  obtain ⟨m1, m2, m3, m4⟩ := nds_part hn
  have hla := len_attr b
  have hb : ∀ x ∈ b, x.name.length ≤ 1048576 ∧ x.value.length ≤ 1048576 := fun x hx => by have := mem_attr hx; omega
  have ht := ndsT_take hn
  have h1 := szs_mem hn
  simp only [Nd.sz] at h1
  have hx := ndsT_lin (l.take i)
  have hy := nds_take_sz l i
  have hz := ndsT_lin ps
  have h2 := tag_lin a b false
  have h3 := esc_len false c
  have ihp := ih ps (by omega) (by unfold H; omega)
  by_cases ha : a = []
  · have e : ndT (.mk a b c ps) = esc false c := by simp [ndT, ha]
    conv => whnf
    repeat' (first
    | (refine Br.tt ?_; conv => whnf)
    | (refine Br.ff ?_; conv => whnf)
    | (refine Both.mk ?_ ?_ <;> conv => whnf)
    | (refine Br.not ?_)
    | (refine Need.mk ?_ ?_; (focus ((first | omega | exact ⟨by omega, by omega⟩ | rfl | exact trivial | assumption | (simp only [List.length_map, List.length_append, List.length_take, List.length_drop, List.length_cons, List.length_nil, List.length_replicate, List.length_set, List.length_reverse, nds_len, numsD_length]; omega) | (simp only [List.length_map, List.length_append, List.length_take, List.length_drop, List.length_cons, List.length_nil, List.length_replicate, List.length_set, List.length_reverse, nds_len, numsD_length]; exact ⟨by omega, by omega⟩) | exact nds_each | (refine map_each ?_; intro x; rfl) | (refine first_map ?_; intro x; rfl) | exact first_nds | simp | (simp; omega)); done)); conv => whnf)
    | (refine Br.t (by assumption) ?_; conv => whnf)
    | (refine Br.f (by assumption) ?_; conv => whnf)
    | (refine Br.self ?_; conv => whnf)
    | (refine Br.decT (by assumption) ?_; conv => whnf)
    | (refine Br.decF (by assumption) ?_; conv => whnf)
    | (refine Br.eqT (by assumption) ?_; conv => whnf)
    | (refine Br.eqF (by assumption) ?_; conv => whnf)
    | (refine Br.dec (fun hc => ?_) (fun hc => ?_) <;> (try simp only [List.length_map, List.length_append, List.length_take, List.length_drop, List.length_cons, List.length_nil, List.length_replicate, List.length_set, List.length_reverse, nds_len, numsD_length] at hc) <;> first | (exfalso; omega) | exact absurd trivial hc | exact absurd rfl hc | conv => whnf)
    | (refine Br.eq (fun hc => ?_) (fun hc => ?_) <;> first | (exfalso; omega) | exact absurd trivial hc | exact absurd rfl hc | conv => whnf)
    | (refine Br.ne (fun hc => ?_) (fun hc => ?_) <;> first | (exfalso; omega) | exact absurd trivial hc | exact absurd rfl hc | conv => whnf)
    | (with_reducible refine Br.and ?_)
    | (with_reducible refine Br.or ?_)
    | (refine Br.any (fun hc => ?_) (fun hc => ?_) <;> conv => whnf)
    | (refine Fit.inl ?_ ?_; (focus ((first | omega | exact ⟨by omega, by omega⟩ | rfl | exact trivial | assumption | (simp only [List.length_map, List.length_append, List.length_take, List.length_drop, List.length_cons, List.length_nil, List.length_replicate, List.length_set, List.length_reverse, nds_len, numsD_length]; omega) | (simp only [List.length_map, List.length_append, List.length_take, List.length_drop, List.length_cons, List.length_nil, List.length_replicate, List.length_set, List.length_reverse, nds_len, numsD_length]; exact ⟨by omega, by omega⟩) | exact nds_each | (refine map_each ?_; intro x; rfl) | (refine first_map ?_; intro x; rfl) | exact first_nds | simp | (simp; omega)); done)); conv => whnf)
    | (refine Each.mapAt (by assumption) ?_; conv => whnf)
    | (refine Each.ndsAt (by assumption) ?_; conv => whnf)
    | (refine Each.at (by assumption) ?_; conv => whnf)
    | (refine Each.map (fun x hx => ?_); (try simp only [Int.toNat_natCast, Int.toNat_zero, Int.toNat_one, Int.toNat_natCast_add_one] at hx); conv => whnf)
    | (refine Each.nds (fun a b c ps hx => ?_); (try simp only [Int.toNat_natCast, Int.toNat_zero, Int.toNat_one, Int.toNat_natCast_add_one] at hx); conv => whnf)
    | (refine Each.rep ?_; conv => whnf)
    | (refine Each.drop ?_)
    | (refine Each.take (fun hi => ?_))
    | (refine Each.any (fun x hx => ?_); (try simp only [Int.toNat_natCast, Int.toNat_zero, Int.toNat_one, Int.toNat_natCast_add_one] at hx); conv => whnf)
    | (refine NilB.any (fun hn => ?_) ?_ <;> conv => whnf)
    | (refine CallWP.mono (escC c false (by omega)) ?_; rintro r h ⟨rfl, rfl⟩; conv => whnf)
    | (refine ⟨_, bytesOfD_nums _, ?_⟩; conv => whnf)
    | (refine WP.sch (id := 5) tabOK hmix (.mob 0 (.mob 1 (.mob 3 (.mob 6 (.mob 11 (.alt [(2, .alt [(4, .alt [(5, .alt [(7, .alt [(8, .mob 9 (.mob 10 (.alt [(12, .mob 13 (.mob 14 (.mob 15 (.mob 16 (.done)))))]))), (12, .alt [(8, .mob 9 (.mob 10 (.mob 13 (.mob 14 (.mob 15 (.mob 16 (.done)))))))])]), (12, .alt [(7, .alt [(8, .mob 9 (.mob 10 (.mob 13 (.mob 14 (.mob 15 (.mob 16 (.done)))))))])])]), (7, .alt [(5, .alt [(8, .mob 9 (.mob 10 (.alt [(12, .mob 13 (.mob 14 (.mob 15 (.mob 16 (.done)))))]))), (12, .alt [(8, .mob 9 (.mob 10 (.mob 13 (.mob 14 (.mob 15 (.mob 16 (.done)))))))])]), (12, .alt [(5, .alt [(8, .mob 9 (.mob 10 (.mob 13 (.mob 14 (.mob 15 (.mob 16 (.done)))))))])])]), (12, .alt [(5, .alt [(7, .alt [(8, .mob 9 (.mob 10 (.mob 13 (.mob 14 (.mob 15 (.mob 16 (.done)))))))])]), (7, .alt [(5, .alt [(8, .mob 9 (.mob 10 (.mob 13 (.mob 14 (.mob 15 (.mob 16 (.done)))))))])])])]), (7, .alt [(4, .alt [(5, .alt [(8, .mob 9 (.mob 10 (.alt [(12, .mob 13 (.mob 14 (.mob 15 (.mob 16 (.done)))))]))), (12, .alt [(8, .mob 9 (.mob 10 (.mob 13 (.mob 14 (.mob 15 (.mob 16 (.done)))))))])]), (12, .alt [(5, .alt [(8, .mob 9 (.mob 10 (.mob 13 (.mob 14 (.mob 15 (.mob 16 (.done)))))))])])]), (12, .alt [(4, .alt [(5, .alt [(8, .mob 9 (.mob 10 (.mob 13 (.mob 14 (.mob 15 (.mob 16 (.done)))))))])])])]), (12, .alt [(4, .alt [(5, .alt [(7, .alt [(8, .mob 9 (.mob 10 (.mob 13 (.mob 14 (.mob 15 (.mob 16 (.done)))))))])]), (7, .alt [(5, .alt [(8, .mob 9 (.mob 10 (.mob 13 (.mob 14 (.mob 15 (.mob 16 (.done)))))))])])]), (7, .alt [(4, .alt [(5, .alt [(8, .mob 9 (.mob 10 (.mob 13 (.mob 14 (.mob 15 (.mob 16 (.done)))))))])])])])]), (4, .alt [(2, .alt [(5, .alt [(7, .alt [(8, .mob 9 (.mob 10 (.alt [(12, .mob 13 (.mob 14 (.mob 15 (.mob 16 (.done)))))]))), (12, .alt [(8, .mob 9 (.mob 10 (.mob 13 (.mob 14 (.mob 15 (.mob 16 (.done)))))))])]), (12, .alt [(7, .alt [(8, .mob 9 (.mob 10 (.mob 13 (.mob 14 (.mob 15 (.mob 16 (.done)))))))])])]), (7, .alt [(5, .alt [(8, .mob 9 (.mob 10 (.alt [(12, .mob 13 (.mob 14 (.mob 15 (.mob 16 (.done)))))]))), (12, .alt [(8, .mob 9 (.mob 10 (.mob 13 (.mob 14 (.mob 15 (.mob 16 (.done)))))))])]), (12, .alt [(5, .alt [(8, .mob 9 (.mob 10 (.mob 13 (.mob 14 (.mob 15 (.mob 16 (.done)))))))])])]), (12, .alt [(5, .alt [(7, .alt [(8, .mob 9 (.mob 10 (.mob 13 (.mob 14 (.mob 15 (.mob 16 (.done)))))))])]), (7, .alt [(5, .alt [(8, .mob 9 (.mob 10 (.mob 13 (.mob 14 (.mob 15 (.mob 16 (.done)))))))])])])]), (7, .alt [(2, .alt [(5, .alt [(8, .mob 9 (.mob 10 (.alt [(12, .mob 13 (.mob 14 (.mob 15 (.mob 16 (.done)))))]))), (12, .alt [(8, .mob 9 (.mob 10 (.mob 13 (.mob 14 (.mob 15 (.mob 16 (.done)))))))])]), (12, .alt [(5, .alt [(8, .mob 9 (.mob 10 (.mob 13 (.mob 14 (.mob 15 (.mob 16 (.done)))))))])])]), (12, .alt [(2, .alt [(5, .alt [(8, .mob 9 (.mob 10 (.mob 13 (.mob 14 (.mob 15 (.mob 16 (.done)))))))])])])]), (12, .alt [(2, .alt [(5, .alt [(7, .alt [(8, .mob 9 (.mob 10 (.mob 13 (.mob 14 (.mob 15 (.mob 16 (.done)))))))])]), (7, .alt [(5, .alt [(8, .mob 9 (.mob 10 (.mob 13 (.mob 14 (.mob 15 (.mob 16 (.done)))))))])])]), (7, .alt [(2, .alt [(5, .alt [(8, .mob 9 (.mob 10 (.mob 13 (.mob 14 (.mob 15 (.mob 16 (.done)))))))])])])])]), (7, .alt [(2, .alt [(4, .alt [(5, .alt [(8, .mob 9 (.mob 10 (.alt [(12, .mob 13 (.mob 14 (.mob 15 (.mob 16 (.done)))))]))), (12, .alt [(8, .mob 9 (.mob 10 (.mob 13 (.mob 14 (.mob 15 (.mob 16 (.done)))))))])]), (12, .alt [(5, .alt [(8, .mob 9 (.mob 10 (.mob 13 (.mob 14 (.mob 15 (.mob 16 (.done)))))))])])]), (12, .alt [(4, .alt [(5, .alt [(8, .mob 9 (.mob 10 (.mob 13 (.mob 14 (.mob 15 (.mob 16 (.done)))))))])])])]), (4, .alt [(2, .alt [(5, .alt [(8, .mob 9 (.mob 10 (.alt [(12, .mob 13 (.mob 14 (.mob 15 (.mob 16 (.done)))))]))), (12, .alt [(8, .mob 9 (.mob 10 (.mob 13 (.mob 14 (.mob 15 (.mob 16 (.done)))))))])]), (12, .alt [(5, .alt [(8, .mob 9 (.mob 10 (.mob 13 (.mob 14 (.mob 15 (.mob 16 (.done)))))))])])]), (12, .alt [(2, .alt [(5, .alt [(8, .mob 9 (.mob 10 (.mob 13 (.mob 14 (.mob 15 (.mob 16 (.done)))))))])])])]), (12, .alt [(2, .alt [(4, .alt [(5, .alt [(8, .mob 9 (.mob 10 (.mob 13 (.mob 14 (.mob 15 (.mob 16 (.done)))))))])])]), (4, .alt [(2, .alt [(5, .alt [(8, .mob 9 (.mob 10 (.mob 13 (.mob 14 (.mob 15 (.mob 16 (.done)))))))])])])])]), (12, .alt [(2, .alt [(4, .alt [(5, .alt [(7, .alt [(8, .mob 9 (.mob 10 (.mob 13 (.mob 14 (.mob 15 (.mob 16 (.done)))))))])]), (7, .alt [(5, .alt [(8, .mob 9 (.mob 10 (.mob 13 (.mob 14 (.mob 15 (.mob 16 (.done)))))))])])]), (7, .alt [(4, .alt [(5, .alt [(8, .mob 9 (.mob 10 (.mob 13 (.mob 14 (.mob 15 (.mob 16 (.done)))))))])])])]), (4, .alt [(2, .alt [(5, .alt [(7, .alt [(8, .mob 9 (.mob 10 (.mob 13 (.mob 14 (.mob 15 (.mob 16 (.done)))))))])]), (7, .alt [(5, .alt [(8, .mob 9 (.mob 10 (.mob 13 (.mob 14 (.mob 15 (.mob 16 (.done)))))))])])]), (7, .alt [(2, .alt [(5, .alt [(8, .mob 9 (.mob 10 (.mob 13 (.mob 14 (.mob 15 (.mob 16 (.done)))))))])])])]), (7, .alt [(2, .alt [(4, .alt [(5, .alt [(8, .mob 9 (.mob 10 (.mob 13 (.mob 14 (.mob 15 (.mob 16 (.done)))))))])])]), (4, .alt [(2, .alt [(5, .alt [(8, .mob 9 (.mob 10 (.mob 13 (.mob 14 (.mob 15 (.mob 16 (.done)))))))])])])])])])))))) (by kernel_rfl) ?_; conv => whnf)
    | exact ⟨rfl, rfl⟩
    | (refine Fin.bool ?_ rfl)
    | (refine Fin.int ?_ rfl)
    | (refine Fin.str ?_ rfl)
    | (refine Fin.sl ?_ rfl)
    | exact trivial)
    all_goals
      refine ⟨i + 1, by omega, by dsimp only; omega, ?_⟩
      conv => whnf
      repeat (first | exact True.intro | (refine Need.mk ?_ ?_; (focus ((first | rfl | assumption | omega | (simp only [List.length_map, List.length_append, List.length_take, List.length_drop, List.length_cons, List.length_nil, List.length_replicate, List.length_set, List.length_reverse, nds_len, numsD_length]; omega) | simp [ht, e]); done)); conv => whnf) | ((conv => whnf); exact True.intro))
  cases hv : voidB a
  · have e : ndT (.mk a b c ps) = tagText a b false ++ ndsT ps ++ [60, 47] ++ a ++ [62] := by simp [ndT, ha, hv]
    conv => whnf
    repeat' (first
    | (refine Br.tt ?_; conv => whnf)
    | (refine Br.ff ?_; conv => whnf)
    | (refine Both.mk ?_ ?_ <;> conv => whnf)
    | (refine Br.not ?_)
    | (refine Need.mk ?_ ?_; (focus ((first | omega | exact ⟨by omega, by omega⟩ | rfl | exact trivial | assumption | (simp only [List.length_map, List.length_append, List.length_take, List.length_drop, List.length_cons, List.length_nil, List.length_replicate, List.length_set, List.length_reverse, nds_len, numsD_length]; omega) | (simp only [List.length_map, List.length_append, List.length_take, List.length_drop, List.length_cons, List.length_nil, List.length_replicate, List.length_set, List.length_reverse, nds_len, numsD_length]; exact ⟨by omega, by omega⟩) | exact nds_each | (refine map_each ?_; intro x; rfl) | (refine first_map ?_; intro x; rfl) | exact first_nds | simp | (simp; omega)); done)); conv => whnf)
    | (refine Br.t (by assumption) ?_; conv => whnf)
    | (refine Br.f (by assumption) ?_; conv => whnf)
    | (refine Br.self ?_; conv => whnf)
    | (refine Br.decT (by assumption) ?_; conv => whnf)
    | (refine Br.decF (by assumption) ?_; conv => whnf)
    | (refine Br.eqT (by assumption) ?_; conv => whnf)
    | (refine Br.eqF (by assumption) ?_; conv => whnf)
    | (refine Br.dec (fun hc => ?_) (fun hc => ?_) <;> (try simp only [List.length_map, List.length_append, List.length_take, List.length_drop, List.length_cons, List.length_nil, List.length_replicate, List.length_set, List.length_reverse, nds_len, numsD_length] at hc) <;> first | (exfalso; omega) | exact absurd trivial hc | exact absurd rfl hc | conv => whnf)
    | (refine Br.eq (fun hc => ?_) (fun hc => ?_) <;> first | (exfalso; omega) | exact absurd trivial hc | exact absurd rfl hc | conv => whnf)
    | (refine Br.ne (fun hc => ?_) (fun hc => ?_) <;> first | (exfalso; omega) | exact absurd trivial hc | exact absurd rfl hc | conv => whnf)
    | (with_reducible refine Br.and ?_)
    | (with_reducible refine Br.or ?_)
    | (refine Br.any (fun hc => ?_) (fun hc => ?_) <;> conv => whnf)
    | (refine Fit.inl ?_ ?_; (focus ((first | omega | exact ⟨by omega, by omega⟩ | rfl | exact trivial | assumption | (simp only [List.length_map, List.length_append, List.length_take, List.length_drop, List.length_cons, List.length_nil, List.length_replicate, List.length_set, List.length_reverse, nds_len, numsD_length]; omega) | (simp only [List.length_map, List.length_append, List.length_take, List.length_drop, List.length_cons, List.length_nil, List.length_replicate, List.length_set, List.length_reverse, nds_len, numsD_length]; exact ⟨by omega, by omega⟩) | exact nds_each | (refine map_each ?_; intro x; rfl) | (refine first_map ?_; intro x; rfl) | exact first_nds | simp | (simp; omega)); done)); conv => whnf)
    | (refine Each.mapAt (by assumption) ?_; conv => whnf)
    | (refine Each.ndsAt (by assumption) ?_; conv => whnf)
    | (refine Each.at (by assumption) ?_; conv => whnf)
    | (refine Each.map (fun x hx => ?_); (try simp only [Int.toNat_natCast, Int.toNat_zero, Int.toNat_one, Int.toNat_natCast_add_one] at hx); conv => whnf)
    | (refine Each.nds (fun a b c ps hx => ?_); (try simp only [Int.toNat_natCast, Int.toNat_zero, Int.toNat_one, Int.toNat_natCast_add_one] at hx); conv => whnf)
    | (refine Each.rep ?_; conv => whnf)
    | (refine Each.drop ?_)
    | (refine Each.take (fun hi => ?_))
    | (refine Each.any (fun x hx => ?_); (try simp only [Int.toNat_natCast, Int.toNat_zero, Int.toNat_one, Int.toNat_natCast_add_one] at hx); conv => whnf)
    | (refine NilB.any (fun hn => ?_) ?_ <;> conv => whnf)
    | (refine CallWP.mono (voidC a) ?_; rintro r h ⟨rfl, rfl⟩; conv => whnf)
    | (refine CallWP.mono (tagC a b false (by omega) (by omega) hb) ?_; rintro r h ⟨rfl, rfl⟩; conv => whnf)
    | (refine CallWP.mono (ihp) ?_; rintro r h ⟨rfl, rfl⟩; conv => whnf)
    | (refine ⟨_, bytesOfD_nums _, ?_⟩; conv => whnf)
    | (refine WP.sch (id := 5) tabOK hmix (.mob 0 (.mob 1 (.mob 3 (.mob 6 (.mob 11 (.alt [(2, .alt [(4, .alt [(5, .alt [(7, .alt [(8, .mob 9 (.mob 10 (.alt [(12, .mob 13 (.mob 14 (.mob 15 (.mob 16 (.done)))))]))), (12, .alt [(8, .mob 9 (.mob 10 (.mob 13 (.mob 14 (.mob 15 (.mob 16 (.done)))))))])]), (12, .alt [(7, .alt [(8, .mob 9 (.mob 10 (.mob 13 (.mob 14 (.mob 15 (.mob 16 (.done)))))))])])]), (7, .alt [(5, .alt [(8, .mob 9 (.mob 10 (.alt [(12, .mob 13 (.mob 14 (.mob 15 (.mob 16 (.done)))))]))), (12, .alt [(8, .mob 9 (.mob 10 (.mob 13 (.mob 14 (.mob 15 (.mob 16 (.done)))))))])]), (12, .alt [(5, .alt [(8, .mob 9 (.mob 10 (.mob 13 (.mob 14 (.mob 15 (.mob 16 (.done)))))))])])]), (12, .alt [(5, .alt [(7, .alt [(8, .mob 9 (.mob 10 (.mob 13 (.mob 14 (.mob 15 (.mob 16 (.done)))))))])]), (7, .alt [(5, .alt [(8, .mob 9 (.mob 10 (.mob 13 (.mob 14 (.mob 15 (.mob 16 (.done)))))))])])])]), (7, .alt [(4, .alt [(5, .alt [(8, .mob 9 (.mob 10 (.alt [(12, .mob 13 (.mob 14 (.mob 15 (.mob 16 (.done)))))]))), (12, .alt [(8, .mob 9 (.mob 10 (.mob 13 (.mob 14 (.mob 15 (.mob 16 (.done)))))))])]), (12, .alt [(5, .alt [(8, .mob 9 (.mob 10 (.mob 13 (.mob 14 (.mob 15 (.mob 16 (.done)))))))])])]), (12, .alt [(4, .alt [(5, .alt [(8, .mob 9 (.mob 10 (.mob 13 (.mob 14 (.mob 15 (.mob 16 (.done)))))))])])])]), (12, .alt [(4, .alt [(5, .alt [(7, .alt [(8, .mob 9 (.mob 10 (.mob 13 (.mob 14 (.mob 15 (.mob 16 (.done)))))))])]), (7, .alt [(5, .alt [(8, .mob 9 (.mob 10 (.mob 13 (.mob 14 (.mob 15 (.mob 16 (.done)))))))])])]), (7, .alt [(4, .alt [(5, .alt [(8, .mob 9 (.mob 10 (.mob 13 (.mob 14 (.mob 15 (.mob 16 (.done)))))))])])])])]), (4, .alt [(2, .alt [(5, .alt [(7, .alt [(8, .mob 9 (.mob 10 (.alt [(12, .mob 13 (.mob 14 (.mob 15 (.mob 16 (.done)))))]))), (12, .alt [(8, .mob 9 (.mob 10 (.mob 13 (.mob 14 (.mob 15 (.mob 16 (.done)))))))])]), (12, .alt [(7, .alt [(8, .mob 9 (.mob 10 (.mob 13 (.mob 14 (.mob 15 (.mob 16 (.done)))))))])])]), (7, .alt [(5, .alt [(8, .mob 9 (.mob 10 (.alt [(12, .mob 13 (.mob 14 (.mob 15 (.mob 16 (.done)))))]))), (12, .alt [(8, .mob 9 (.mob 10 (.mob 13 (.mob 14 (.mob 15 (.mob 16 (.done)))))))])]), (12, .alt [(5, .alt [(8, .mob 9 (.mob 10 (.mob 13 (.mob 14 (.mob 15 (.mob 16 (.done)))))))])])]), (12, .alt [(5, .alt [(7, .alt [(8, .mob 9 (.mob 10 (.mob 13 (.mob 14 (.mob 15 (.mob 16 (.done)))))))])]), (7, .alt [(5, .alt [(8, .mob 9 (.mob 10 (.mob 13 (.mob 14 (.mob 15 (.mob 16 (.done)))))))])])])]), (7, .alt [(2, .alt [(5, .alt [(8, .mob 9 (.mob 10 (.alt [(12, .mob 13 (.mob 14 (.mob 15 (.mob 16 (.done)))))]))), (12, .alt [(8, .mob 9 (.mob 10 (.mob 13 (.mob 14 (.mob 15 (.mob 16 (.done)))))))])]), (12, .alt [(5, .alt [(8, .mob 9 (.mob 10 (.mob 13 (.mob 14 (.mob 15 (.mob 16 (.done)))))))])])]), (12, .alt [(2, .alt [(5, .alt [(8, .mob 9 (.mob 10 (.mob 13 (.mob 14 (.mob 15 (.mob 16 (.done)))))))])])])]), (12, .alt [(2, .alt [(5, .alt [(7, .alt [(8, .mob 9 (.mob 10 (.mob 13 (.mob 14 (.mob 15 (.mob 16 (.done)))))))])]), (7, .alt [(5, .alt [(8, .mob 9 (.mob 10 (.mob 13 (.mob 14 (.mob 15 (.mob 16 (.done)))))))])])]), (7, .alt [(2, .alt [(5, .alt [(8, .mob 9 (.mob 10 (.mob 13 (.mob 14 (.mob 15 (.mob 16 (.done)))))))])])])])]), (7, .alt [(2, .alt [(4, .alt [(5, .alt [(8, .mob 9 (.mob 10 (.alt [(12, .mob 13 (.mob 14 (.mob 15 (.mob 16 (.done)))))]))), (12, .alt [(8, .mob 9 (.mob 10 (.mob 13 (.mob 14 (.mob 15 (.mob 16 (.done)))))))])]), (12, .alt [(5, .alt [(8, .mob 9 (.mob 10 (.mob 13 (.mob 14 (.mob 15 (.mob 16 (.done)))))))])])]), (12, .alt [(4, .alt [(5, .alt [(8, .mob 9 (.mob 10 (.mob 13 (.mob 14 (.mob 15 (.mob 16 (.done)))))))])])])]), (4, .alt [(2, .alt [(5, .alt [(8, .mob 9 (.mob 10 (.alt [(12, .mob 13 (.mob 14 (.mob 15 (.mob 16 (.done)))))]))), (12, .alt [(8, .mob 9 (.mob 10 (.mob 13 (.mob 14 (.mob 15 (.mob 16 (.done)))))))])]), (12, .alt [(5, .alt [(8, .mob 9 (.mob 10 (.mob 13 (.mob 14 (.mob 15 (.mob 16 (.done)))))))])])]), (12, .alt [(2, .alt [(5, .alt [(8, .mob 9 (.mob 10 (.mob 13 (.mob 14 (.mob 15 (.mob 16 (.done)))))))])])])]), (12, .alt [(2, .alt [(4, .alt [(5, .alt [(8, .mob 9 (.mob 10 (.mob 13 (.mob 14 (.mob 15 (.mob 16 (.done)))))))])])]), (4, .alt [(2, .alt [(5, .alt [(8, .mob 9 (.mob 10 (.mob 13 (.mob 14 (.mob 15 (.mob 16 (.done)))))))])])])])]), (12, .alt [(2, .alt [(4, .alt [(5, .alt [(7, .alt [(8, .mob 9 (.mob 10 (.mob 13 (.mob 14 (.mob 15 (.mob 16 (.done)))))))])]), (7, .alt [(5, .alt [(8, .mob 9 (.mob 10 (.mob 13 (.mob 14 (.mob 15 (.mob 16 (.done)))))))])])]), (7, .alt [(4, .alt [(5, .alt [(8, .mob 9 (.mob 10 (.mob 13 (.mob 14 (.mob 15 (.mob 16 (.done)))))))])])])]), (4, .alt [(2, .alt [(5, .alt [(7, .alt [(8, .mob 9 (.mob 10 (.mob 13 (.mob 14 (.mob 15 (.mob 16 (.done)))))))])]), (7, .alt [(5, .alt [(8, .mob 9 (.mob 10 (.mob 13 (.mob 14 (.mob 15 (.mob 16 (.done)))))))])])]), (7, .alt [(2, .alt [(5, .alt [(8, .mob 9 (.mob 10 (.mob 13 (.mob 14 (.mob 15 (.mob 16 (.done)))))))])])])]), (7, .alt [(2, .alt [(4, .alt [(5, .alt [(8, .mob 9 (.mob 10 (.mob 13 (.mob 14 (.mob 15 (.mob 16 (.done)))))))])])]), (4, .alt [(2, .alt [(5, .alt [(8, .mob 9 (.mob 10 (.mob 13 (.mob 14 (.mob 15 (.mob 16 (.done)))))))])])])])])])))))) (by kernel_rfl) ?_; conv => whnf)
    | exact ⟨rfl, rfl⟩
    | (refine Fin.bool ?_ rfl)
    | (refine Fin.int ?_ rfl)
    | (refine Fin.str ?_ rfl)
    | (refine Fin.sl ?_ rfl)
    | exact trivial)
    all_goals
      refine ⟨i + 1, by omega, by dsimp only; omega, ?_⟩
      conv => whnf
      repeat (first | exact True.intro | (refine Need.mk ?_ ?_; (focus ((first | rfl | assumption | omega | (simp only [List.length_map, List.length_append, List.length_take, List.length_drop, List.length_cons, List.length_nil, List.length_replicate, List.length_set, List.length_reverse, nds_len, numsD_length]; omega) | simp [ht, e]); done)); conv => whnf) | ((conv => whnf); exact True.intro))
  · have e : ndT (.mk a b c ps) = tagText a b false := by simp [ndT, ha, hv]
    conv => whnf
    repeat' (first
    | (refine Br.tt ?_; conv => whnf)
    | (refine Br.ff ?_; conv => whnf)
    | (refine Both.mk ?_ ?_ <;> conv => whnf)
    | (refine Br.not ?_)
    | (refine Need.mk ?_ ?_; (focus ((first | omega | exact ⟨by omega, by omega⟩ | rfl | exact trivial | assumption | (simp only [List.length_map, List.length_append, List.length_take, List.length_drop, List.length_cons, List.length_nil, List.length_replicate, List.length_set, List.length_reverse, nds_len, numsD_length]; omega) | (simp only [List.length_map, List.length_append, List.length_take, List.length_drop, List.length_cons, List.length_nil, List.length_replicate, List.length_set, List.length_reverse, nds_len, numsD_length]; exact ⟨by omega, by omega⟩) | exact nds_each | (refine map_each ?_; intro x; rfl) | (refine first_map ?_; intro x; rfl) | exact first_nds | simp | (simp; omega)); done)); conv => whnf)
    | (refine Br.t (by assumption) ?_; conv => whnf)
    | (refine Br.f (by assumption) ?_; conv => whnf)
    | (refine Br.self ?_; conv => whnf)
    | (refine Br.decT (by assumption) ?_; conv => whnf)
    | (refine Br.decF (by assumption) ?_; conv => whnf)
    | (refine Br.eqT (by assumption) ?_; conv => whnf)
    | (refine Br.eqF (by assumption) ?_; conv => whnf)
    | (refine Br.dec (fun hc => ?_) (fun hc => ?_) <;> (try simp only [List.length_map, List.length_append, List.length_take, List.length_drop, List.length_cons, List.length_nil, List.length_replicate, List.length_set, List.length_reverse, nds_len, numsD_length] at hc) <;> first | (exfalso; omega) | exact absurd trivial hc | exact absurd rfl hc | conv => whnf)
    | (refine Br.eq (fun hc => ?_) (fun hc => ?_) <;> first | (exfalso; omega) | exact absurd trivial hc | exact absurd rfl hc | conv => whnf)
    | (refine Br.ne (fun hc => ?_) (fun hc => ?_) <;> first | (exfalso; omega) | exact absurd trivial hc | exact absurd rfl hc | conv => whnf)
    | (with_reducible refine Br.and ?_)
    | (with_reducible refine Br.or ?_)
    | (refine Br.any (fun hc => ?_) (fun hc => ?_) <;> conv => whnf)
    | (refine Fit.inl ?_ ?_; (focus ((first | omega | exact ⟨by omega, by omega⟩ | rfl | exact trivial | assumption | (simp only [List.length_map, List.length_append, List.length_take, List.length_drop, List.length_cons, List.length_nil, List.length_replicate, List.length_set, List.length_reverse, nds_len, numsD_length]; omega) | (simp only [List.length_map, List.length_append, List.length_take, List.length_drop, List.length_cons, List.length_nil, List.length_replicate, List.length_set, List.length_reverse, nds_len, numsD_length]; exact ⟨by omega, by omega⟩) | exact nds_each | (refine map_each ?_; intro x; rfl) | (refine first_map ?_; intro x; rfl) | exact first_nds | simp | (simp; omega)); done)); conv => whnf)
    | (refine Each.mapAt (by assumption) ?_; conv => whnf)
    | (refine Each.ndsAt (by assumption) ?_; conv => whnf)
    | (refine Each.at (by assumption) ?_; conv => whnf)
    | (refine Each.map (fun x hx => ?_); (try simp only [Int.toNat_natCast, Int.toNat_zero, Int.toNat_one, Int.toNat_natCast_add_one] at hx); conv => whnf)
    | (refine Each.nds (fun a b c ps hx => ?_); (try simp only [Int.toNat_natCast, Int.toNat_zero, Int.toNat_one, Int.toNat_natCast_add_one] at hx); conv => whnf)
    | (refine Each.rep ?_; conv => whnf)
    | (refine Each.drop ?_)
    | (refine Each.take (fun hi => ?_))
    | (refine Each.any (fun x hx => ?_); (try simp only [Int.toNat_natCast, Int.toNat_zero, Int.toNat_one, Int.toNat_natCast_add_one] at hx); conv => whnf)
    | (refine NilB.any (fun hn => ?_) ?_ <;> conv => whnf)
    | (refine CallWP.mono (voidC a) ?_; rintro r h ⟨rfl, rfl⟩; conv => whnf)
    | (refine CallWP.mono (tagC a b false (by omega) (by omega) hb) ?_; rintro r h ⟨rfl, rfl⟩; conv => whnf)
    | (refine ⟨_, bytesOfD_nums _, ?_⟩; conv => whnf)
    | (refine WP.sch (id := 5) tabOK hmix (.mob 0 (.mob 1 (.mob 3 (.mob 6 (.mob 11 (.alt [(2, .alt [(4, .alt [(5, .alt [(7, .alt [(8, .mob 9 (.mob 10 (.alt [(12, .mob 13 (.mob 14 (.mob 15 (.mob 16 (.done)))))]))), (12, .alt [(8, .mob 9 (.mob 10 (.mob 13 (.mob 14 (.mob 15 (.mob 16 (.done)))))))])]), (12, .alt [(7, .alt [(8, .mob 9 (.mob 10 (.mob 13 (.mob 14 (.mob 15 (.mob 16 (.done)))))))])])]), (7, .alt [(5, .alt [(8, .mob 9 (.mob 10 (.alt [(12, .mob 13 (.mob 14 (.mob 15 (.mob 16 (.done)))))]))), (12, .alt [(8, .mob 9 (.mob 10 (.mob 13 (.mob 14 (.mob 15 (.mob 16 (.done)))))))])]), (12, .alt [(5, .alt [(8, .mob 9 (.mob 10 (.mob 13 (.mob 14 (.mob 15 (.mob 16 (.done)))))))])])]), (12, .alt [(5, .alt [(7, .alt [(8, .mob 9 (.mob 10 (.mob 13 (.mob 14 (.mob 15 (.mob 16 (.done)))))))])]), (7, .alt [(5, .alt [(8, .mob 9 (.mob 10 (.mob 13 (.mob 14 (.mob 15 (.mob 16 (.done)))))))])])])]), (7, .alt [(4, .alt [(5, .alt [(8, .mob 9 (.mob 10 (.alt [(12, .mob 13 (.mob 14 (.mob 15 (.mob 16 (.done)))))]))), (12, .alt [(8, .mob 9 (.mob 10 (.mob 13 (.mob 14 (.mob 15 (.mob 16 (.done)))))))])]), (12, .alt [(5, .alt [(8, .mob 9 (.mob 10 (.mob 13 (.mob 14 (.mob 15 (.mob 16 (.done)))))))])])]), (12, .alt [(4, .alt [(5, .alt [(8, .mob 9 (.mob 10 (.mob 13 (.mob 14 (.mob 15 (.mob 16 (.done)))))))])])])]), (12, .alt [(4, .alt [(5, .alt [(7, .alt [(8, .mob 9 (.mob 10 (.mob 13 (.mob 14 (.mob 15 (.mob 16 (.done)))))))])]), (7, .alt [(5, .alt [(8, .mob 9 (.mob 10 (.mob 13 (.mob 14 (.mob 15 (.mob 16 (.done)))))))])])]), (7, .alt [(4, .alt [(5, .alt [(8, .mob 9 (.mob 10 (.mob 13 (.mob 14 (.mob 15 (.mob 16 (.done)))))))])])])])]), (4, .alt [(2, .alt [(5, .alt [(7, .alt [(8, .mob 9 (.mob 10 (.alt [(12, .mob 13 (.mob 14 (.mob 15 (.mob 16 (.done)))))]))), (12, .alt [(8, .mob 9 (.mob 10 (.mob 13 (.mob 14 (.mob 15 (.mob 16 (.done)))))))])]), (12, .alt [(7, .alt [(8, .mob 9 (.mob 10 (.mob 13 (.mob 14 (.mob 15 (.mob 16 (.done)))))))])])]), (7, .alt [(5, .alt [(8, .mob 9 (.mob 10 (.alt [(12, .mob 13 (.mob 14 (.mob 15 (.mob 16 (.done)))))]))), (12, .alt [(8, .mob 9 (.mob 10 (.mob 13 (.mob 14 (.mob 15 (.mob 16 (.done)))))))])]), (12, .alt [(5, .alt [(8, .mob 9 (.mob 10 (.mob 13 (.mob 14 (.mob 15 (.mob 16 (.done)))))))])])]), (12, .alt [(5, .alt [(7, .alt [(8, .mob 9 (.mob 10 (.mob 13 (.mob 14 (.mob 15 (.mob 16 (.done)))))))])]), (7, .alt [(5, .alt [(8, .mob 9 (.mob 10 (.mob 13 (.mob 14 (.mob 15 (.mob 16 (.done)))))))])])])]), (7, .alt [(2, .alt [(5, .alt [(8, .mob 9 (.mob 10 (.alt [(12, .mob 13 (.mob 14 (.mob 15 (.mob 16 (.done)))))]))), (12, .alt [(8, .mob 9 (.mob 10 (.mob 13 (.mob 14 (.mob 15 (.mob 16 (.done)))))))])]), (12, .alt [(5, .alt [(8, .mob 9 (.mob 10 (.mob 13 (.mob 14 (.mob 15 (.mob 16 (.done)))))))])])]), (12, .alt [(2, .alt [(5, .alt [(8, .mob 9 (.mob 10 (.mob 13 (.mob 14 (.mob 15 (.mob 16 (.done)))))))])])])]), (12, .alt [(2, .alt [(5, .alt [(7, .alt [(8, .mob 9 (.mob 10 (.mob 13 (.mob 14 (.mob 15 (.mob 16 (.done)))))))])]), (7, .alt [(5, .alt [(8, .mob 9 (.mob 10 (.mob 13 (.mob 14 (.mob 15 (.mob 16 (.done)))))))])])]), (7, .alt [(2, .alt [(5, .alt [(8, .mob 9 (.mob 10 (.mob 13 (.mob 14 (.mob 15 (.mob 16 (.done)))))))])])])])]), (7, .alt [(2, .alt [(4, .alt [(5, .alt [(8, .mob 9 (.mob 10 (.alt [(12, .mob 13 (.mob 14 (.mob 15 (.mob 16 (.done)))))]))), (12, .alt [(8, .mob 9 (.mob 10 (.mob 13 (.mob 14 (.mob 15 (.mob 16 (.done)))))))])]), (12, .alt [(5, .alt [(8, .mob 9 (.mob 10 (.mob 13 (.mob 14 (.mob 15 (.mob 16 (.done)))))))])])]), (12, .alt [(4, .alt [(5, .alt [(8, .mob 9 (.mob 10 (.mob 13 (.mob 14 (.mob 15 (.mob 16 (.done)))))))])])])]), (4, .alt [(2, .alt [(5, .alt [(8, .mob 9 (.mob 10 (.alt [(12, .mob 13 (.mob 14 (.mob 15 (.mob 16 (.done)))))]))), (12, .alt [(8, .mob 9 (.mob 10 (.mob 13 (.mob 14 (.mob 15 (.mob 16 (.done)))))))])]), (12, .alt [(5, .alt [(8, .mob 9 (.mob 10 (.mob 13 (.mob 14 (.mob 15 (.mob 16 (.done)))))))])])]), (12, .alt [(2, .alt [(5, .alt [(8, .mob 9 (.mob 10 (.mob 13 (.mob 14 (.mob 15 (.mob 16 (.done)))))))])])])]), (12, .alt [(2, .alt [(4, .alt [(5, .alt [(8, .mob 9 (.mob 10 (.mob 13 (.mob 14 (.mob 15 (.mob 16 (.done)))))))])])]), (4, .alt [(2, .alt [(5, .alt [(8, .mob 9 (.mob 10 (.mob 13 (.mob 14 (.mob 15 (.mob 16 (.done)))))))])])])])]), (12, .alt [(2, .alt [(4, .alt [(5, .alt [(7, .alt [(8, .mob 9 (.mob 10 (.mob 13 (.mob 14 (.mob 15 (.mob 16 (.done)))))))])]), (7, .alt [(5, .alt [(8, .mob 9 (.mob 10 (.mob 13 (.mob 14 (.mob 15 (.mob 16 (.done)))))))])])]), (7, .alt [(4, .alt [(5, .alt [(8, .mob 9 (.mob 10 (.mob 13 (.mob 14 (.mob 15 (.mob 16 (.done)))))))])])])]), (4, .alt [(2, .alt [(5, .alt [(7, .alt [(8, .mob 9 (.mob 10 (.mob 13 (.mob 14 (.mob 15 (.mob 16 (.done)))))))])]), (7, .alt [(5, .alt [(8, .mob 9 (.mob 10 (.mob 13 (.mob 14 (.mob 15 (.mob 16 (.done)))))))])])]), (7, .alt [(2, .alt [(5, .alt [(8, .mob 9 (.mob 10 (.mob 13 (.mob 14 (.mob 15 (.mob 16 (.done)))))))])])])]), (7, .alt [(2, .alt [(4, .alt [(5, .alt [(8, .mob 9 (.mob 10 (.mob 13 (.mob 14 (.mob 15 (.mob 16 (.done)))))))])])]), (4, .alt [(2, .alt [(5, .alt [(8, .mob 9 (.mob 10 (.mob 13 (.mob 14 (.mob 15 (.mob 16 (.done)))))))])])])])])])))))) (by kernel_rfl) ?_; conv => whnf)
    | exact ⟨rfl, rfl⟩
    | (refine Fin.bool ?_ rfl)
    | (refine Fin.int ?_ rfl)
    | (refine Fin.str ?_ rfl)
    | (refine Fin.sl ?_ rfl)
    | exact trivial)
    all_goals
      refine ⟨i + 1, by omega, by dsimp only; omega, ?_⟩
      conv => whnf
      repeat (first | exact True.intro | (refine Need.mk ?_ ?_; (focus ((first | rfl | assumption | omega | (simp only [List.length_map, List.length_append, List.length_take, List.length_drop, List.length_cons, List.length_nil, List.length_replicate, List.length_set, List.length_reverse, nds_len, numsD_length]; omega) | simp [ht, e]); done)); conv => whnf) | ((conv => whnf); exact True.intro))
set_option maxHeartbeats 4000000 in
theorem ofR (m : Nat) : ∀ l : List Nd, szs l < m → H l → CallWP Try.prog 62 [.d (.sl (nds l))] [] (fun r h => r = .d (.str (ndsT l)) ∧ h = []) := by
  induction m with
  | zero => intro ns h; omega
  | succ m ih =>
  intro l hm hH
  have hlen := len_nds l
  unfold H at hH
  (refine CallWP.go tabOK Try.func62 0 44 rfl rfl rfl rfl ?_; conv => whnf)
  refine WP.loop (α := Nat) tabOK (fun i => i ≤ l.length) (fun i => ⟨[(3, (.d (.str (ndsT (l.take i))))), (6, (.d (.sl (nds l)))), (7, (.d (.int .i64 ((nds l).length)))), (8, (.d (.int .i64 (i))))], [], 0, 44⟩) (fun i => l.length - i) (0) ?_ ?_ ?_
  · exact Nat.zero_le _
  · conv => whnf
    repeat (first | exact True.intro | (refine Need.mk ?_ ?_; (focus ((first | rfl | assumption | omega | (simp only [List.length_map, List.length_append, List.length_take, List.length_drop, List.length_cons, List.length_nil, List.length_replicate, List.length_set, List.length_reverse, nds_len, numsD_length]; omega) | simp [ndsT]); done)); conv => whnf) | ((conv => whnf); exact True.intro))
  intro i hi
  by_cases hlt : i < l.length
  case neg =>
    have e : l.take i = l := List.take_of_length_le (by omega)
    rw [e]
    conv => whnf
    repeat' (first
    | (refine Br.tt ?_; conv => whnf)
    | (refine Br.ff ?_; conv => whnf)
    | (refine Both.mk ?_ ?_ <;> conv => whnf)
    | (refine Br.not ?_)
    | (refine Need.mk ?_ ?_; (focus ((first | omega | exact ⟨by omega, by omega⟩ | rfl | exact trivial | assumption | (simp only [List.length_map, List.length_append, List.length_take, List.length_drop, List.length_cons, List.length_nil, List.length_replicate, List.length_set, List.length_reverse, nds_len, numsD_length]; omega) | (simp only [List.length_map, List.length_append, List.length_take, List.length_drop, List.length_cons, List.length_nil, List.length_replicate, List.length_set, List.length_reverse, nds_len, numsD_length]; exact ⟨by omega, by omega⟩) | exact nds_each | (refine map_each ?_; intro x; rfl) | (refine first_map ?_; intro x; rfl) | exact first_nds | simp | (simp; omega)); done)); conv => whnf)
    | (refine Br.t (by assumption) ?_; conv => whnf)
    | (refine Br.f (by assumption) ?_; conv => whnf)
    | (refine Br.self ?_; conv => whnf)
    | (refine Br.decT (by assumption) ?_; conv => whnf)
    | (refine Br.decF (by assumption) ?_; conv => whnf)
    | (refine Br.eqT (by assumption) ?_; conv => whnf)
    | (refine Br.eqF (by assumption) ?_; conv => whnf)
    | (refine Br.dec (fun hc => ?_) (fun hc => ?_) <;> (try simp only [List.length_map, List.length_append, List.length_take, List.length_drop, List.length_cons, List.length_nil, List.length_replicate, List.length_set, List.length_reverse, nds_len, numsD_length] at hc) <;> first | (exfalso; omega) | exact absurd trivial hc | exact absurd rfl hc | conv => whnf)
    | (refine Br.eq (fun hc => ?_) (fun hc => ?_) <;> first | (exfalso; omega) | exact absurd trivial hc | exact absurd rfl hc | conv => whnf)
    | (refine Br.ne (fun hc => ?_) (fun hc => ?_) <;> first | (exfalso; omega) | exact absurd trivial hc | exact absurd rfl hc | conv => whnf)
    | (with_reducible refine Br.and ?_)
    | (with_reducible refine Br.or ?_)
    | (refine Br.any (fun hc => ?_) (fun hc => ?_) <;> conv => whnf)
    | (refine Fit.inl ?_ ?_; (focus ((first | omega | exact ⟨by omega, by omega⟩ | rfl | exact trivial | assumption | (simp only [List.length_map, List.length_append, List.length_take, List.length_drop, List.length_cons, List.length_nil, List.length_replicate, List.length_set, List.length_reverse, nds_len, numsD_length]; omega) | (simp only [List.length_map, List.length_append, List.length_take, List.length_drop, List.length_cons, List.length_nil, List.length_replicate, List.length_set, List.length_reverse, nds_len, numsD_length]; exact ⟨by omega, by omega⟩) | exact nds_each | (refine map_each ?_; intro x; rfl) | (refine first_map ?_; intro x; rfl) | exact first_nds | simp | (simp; omega)); done)); conv => whnf)
    | (refine Each.mapAt (by assumption) ?_; conv => whnf)
    | (refine Each.ndsAt (by assumption) ?_; conv => whnf)
    | (refine Each.at (by assumption) ?_; conv => whnf)
    | (refine Each.map (fun x hx => ?_); (try simp only [Int.toNat_natCast, Int.toNat_zero, Int.toNat_one, Int.toNat_natCast_add_one] at hx); conv => whnf)
    | (refine Each.nds (fun a b c ps hx => ?_); (try simp only [Int.toNat_natCast, Int.toNat_zero, Int.toNat_one, Int.toNat_natCast_add_one] at hx); conv => whnf)
    | (refine Each.rep ?_; conv => whnf)
    | (refine Each.drop ?_)
    | (refine Each.take (fun hi => ?_))
    | (refine Each.any (fun x hx => ?_); (try simp only [Int.toNat_natCast, Int.toNat_zero, Int.toNat_one, Int.toNat_natCast_add_one] at hx); conv => whnf)
    | (refine NilB.any (fun hn => ?_) ?_ <;> conv => whnf)
    | (refine ⟨_, bytesOfD_nums _, ?_⟩; conv => whnf)
    | (refine WP.sch (id := 9) tabOK hmix (.mob 0 (.mob 1 (.mob 5 (.alt [(2, .alt [(3, .mob 4 (.alt [(6, .mob 7 (.mob 8 (.mob 9 (.mob 10 (.done)))))])), (6, .alt [(3, .mob 4 (.mob 7 (.mob 8 (.mob 9 (.mob 10 (.done))))))])]), (6, .alt [(2, .alt [(3, .mob 4 (.mob 7 (.mob 8 (.mob 9 (.mob 10 (.done))))))])])])))) (by kernel_rfl) ?_; conv => whnf)
    | exact ⟨rfl, rfl⟩
    | (refine Fin.bool ?_ rfl)
    | (refine Fin.int ?_ rfl)
    | (refine Fin.str ?_ rfl)
    | (refine Fin.sl ?_ rfl)
    | exact trivial)
  obtain ⟨⟨a, b, c, ps⟩, hn⟩ : ∃ x, l[i]? = some x := ⟨l[i], by simp [hlt]⟩
  obtain ⟨m1, m2, m3, m4⟩ := nds_part hn
  have hla := len_attr b
  have hb : ∀ x ∈ b, x.name.length ≤ 1048576 ∧ x.value.length ≤ 1048576 := fun x hx => by have := mem_attr hx; omega
  have ht := ndsT_take hn
  have h1 := szs_mem hn
  simp only [Nd.sz] at h1
  have hx := ndsT_lin (l.take i)
  have hy := nds_take_sz l i
  have hz := ndsT_lin ps
  have h2 := atts_lin b
  have h3 := esc_len false c
  have ihp := ih ps (by omega) (by unfold H; omega)
  by_cases ha : a = []
  · have e : ndT (.mk a b c ps) = esc false c := by simp [ndT, ha]
    conv => whnf
    repeat' (first
    | (refine Br.tt ?_; conv => whnf)
    | (refine Br.ff ?_; conv => whnf)
    | (refine Both.mk ?_ ?_ <;> conv => whnf)
    | (refine Br.not ?_)
    | (refine Need.mk ?_ ?_; (focus ((first | omega | exact ⟨by omega, by omega⟩ | rfl | exact trivial | assumption | (simp only [List.length_map, List.length_append, List.length_take, List.length_drop, List.length_cons, List.length_nil, List.length_replicate, List.length_set, List.length_reverse, nds_len, numsD_length]; omega) | (simp only [List.length_map, List.length_append, List.length_take, List.length_drop, List.length_cons, List.length_nil, List.length_replicate, List.length_set, List.length_reverse, nds_len, numsD_length]; exact ⟨by omega, by omega⟩) | exact nds_each | (refine map_each ?_; intro x; rfl) | (refine first_map ?_; intro x; rfl) | exact first_nds | simp | (simp; omega)); done)); conv => whnf)
    | (refine Br.t (by assumption) ?_; conv => whnf)
    | (refine Br.f (by assumption) ?_; conv => whnf)
    | (refine Br.self ?_; conv => whnf)
    | (refine Br.decT (by assumption) ?_; conv => whnf)
    | (refine Br.decF (by assumption) ?_; conv => whnf)
    | (refine Br.eqT (by assumption) ?_; conv => whnf)
    | (refine Br.eqF (by assumption) ?_; conv => whnf)
    | (refine Br.dec (fun hc => ?_) (fun hc => ?_) <;> (try simp only [List.length_map, List.length_append, List.length_take, List.length_drop, List.length_cons, List.length_nil, List.length_replicate, List.length_set, List.length_reverse, nds_len, numsD_length] at hc) <;> first | (exfalso; omega) | exact absurd trivial hc | exact absurd rfl hc | conv => whnf)
    | (refine Br.eq (fun hc => ?_) (fun hc => ?_) <;> first | (exfalso; omega) | exact absurd trivial hc | exact absurd rfl hc | conv => whnf)
    | (refine Br.ne (fun hc => ?_) (fun hc => ?_) <;> first | (exfalso; omega) | exact absurd trivial hc | exact absurd rfl hc | conv => whnf)
    | (with_reducible refine Br.and ?_)
    | (with_reducible refine Br.or ?_)
    | (refine Br.any (fun hc => ?_) (fun hc => ?_) <;> conv => whnf)
    | (refine Fit.inl ?_ ?_; (focus ((first | omega | exact ⟨by omega, by omega⟩ | rfl | exact trivial | assumption | (simp only [List.length_map, List.length_append, List.length_take, List.length_drop, List.length_cons, List.length_nil, List.length_replicate, List.length_set, List.length_reverse, nds_len, numsD_length]; omega) | (simp only [List.length_map, List.length_append, List.length_take, List.length_drop, List.length_cons, List.length_nil, List.length_replicate, List.length_set, List.length_reverse, nds_len, numsD_length]; exact ⟨by omega, by omega⟩) | exact nds_each | (refine map_each ?_; intro x; rfl) | (refine first_map ?_; intro x; rfl) | exact first_nds | simp | (simp; omega)); done)); conv => whnf)
    | (refine Each.mapAt (by assumption) ?_; conv => whnf)
    | (refine Each.ndsAt (by assumption) ?_; conv => whnf)
    | (refine Each.at (by assumption) ?_; conv => whnf)
    | (refine Each.map (fun x hx => ?_); (try simp only [Int.toNat_natCast, Int.toNat_zero, Int.toNat_one, Int.toNat_natCast_add_one] at hx); conv => whnf)
    | (refine Each.nds (fun a b c ps hx => ?_); (try simp only [Int.toNat_natCast, Int.toNat_zero, Int.toNat_one, Int.toNat_natCast_add_one] at hx); conv => whnf)
    | (refine Each.rep ?_; conv => whnf)
    | (refine Each.drop ?_)
    | (refine Each.take (fun hi => ?_))
    | (refine Each.any (fun x hx => ?_); (try simp only [Int.toNat_natCast, Int.toNat_zero, Int.toNat_one, Int.toNat_natCast_add_one] at hx); conv => whnf)
    | (refine NilB.any (fun hn => ?_) ?_ <;> conv => whnf)
    | (refine CallWP.mono (escR c false (by omega)) ?_; rintro r h ⟨rfl, rfl⟩; conv => whnf)
    | (refine ⟨_, bytesOfD_nums _, ?_⟩; conv => whnf)
    | (refine WP.sch (id := 9) tabOK hmix (.mob 0 (.mob 1 (.mob 5 (.alt [(2, .alt [(3, .mob 4 (.alt [(6, .mob 7 (.mob 8 (.mob 9 (.mob 10 (.done)))))])), (6, .alt [(3, .mob 4 (.mob 7 (.mob 8 (.mob 9 (.mob 10 (.done))))))])]), (6, .alt [(2, .alt [(3, .mob 4 (.mob 7 (.mob 8 (.mob 9 (.mob 10 (.done))))))])])])))) (by kernel_rfl) ?_; conv => whnf)
    | exact ⟨rfl, rfl⟩
    | (refine Fin.bool ?_ rfl)
    | (refine Fin.int ?_ rfl)
    | (refine Fin.str ?_ rfl)
    | (refine Fin.sl ?_ rfl)
    | exact trivial)
    all_goals
      refine ⟨i + 1, by omega, by dsimp only; omega, ?_⟩
      conv => whnf
      repeat (first | exact True.intro | (refine Need.mk ?_ ?_; (focus ((first | rfl | assumption | omega | (simp only [List.length_map, List.length_append, List.length_take, List.length_drop, List.length_cons, List.length_nil, List.length_replicate, List.length_set, List.length_reverse, nds_len, numsD_length]; omega) | simp [ht, e]); done)); conv => whnf) | ((conv => whnf); exact True.intro))
  cases hv : voidB a
  · have e : ndT (.mk a b c ps) = [60] ++ a ++ atts b ++ [62] ++ ndsT ps ++ [60, 47] ++ a ++ [62] := by simp [ndT, ha, hv, tagText]
    conv => whnf
    repeat' (first
    | (refine Br.tt ?_; conv => whnf)
    | (refine Br.ff ?_; conv => whnf)
    | (refine Both.mk ?_ ?_ <;> conv => whnf)
    | (refine Br.not ?_)
    | (refine Need.mk ?_ ?_; (focus ((first | omega | exact ⟨by omega, by omega⟩ | rfl | exact trivial | assumption | (simp only [List.length_map, List.length_append, List.length_take, List.length_drop, List.length_cons, List.length_nil, List.length_replicate, List.length_set, List.length_reverse, nds_len, numsD_length]; omega) | (simp only [List.length_map, List.length_append, List.length_take, List.length_drop, List.length_cons, List.length_nil, List.length_replicate, List.length_set, List.length_reverse, nds_len, numsD_length]; exact ⟨by omega, by omega⟩) | exact nds_each | (refine map_each ?_; intro x; rfl) | (refine first_map ?_; intro x; rfl) | exact first_nds | simp | (simp; omega)); done)); conv => whnf)
    | (refine Br.t (by assumption) ?_; conv => whnf)
    | (refine Br.f (by assumption) ?_; conv => whnf)
    | (refine Br.self ?_; conv => whnf)
    | (refine Br.decT (by assumption) ?_; conv => whnf)
    | (refine Br.decF (by assumption) ?_; conv => whnf)
    | (refine Br.eqT (by assumption) ?_; conv => whnf)
    | (refine Br.eqF (by assumption) ?_; conv => whnf)
    | (refine Br.dec (fun hc => ?_) (fun hc => ?_) <;> (try simp only [List.length_map, List.length_append, List.length_take, List.length_drop, List.length_cons, List.length_nil, List.length_replicate, List.length_set, List.length_reverse, nds_len, numsD_length] at hc) <;> first | (exfalso; omega) | exact absurd trivial hc | exact absurd rfl hc | conv => whnf)
    | (refine Br.eq (fun hc => ?_) (fun hc => ?_) <;> first | (exfalso; omega) | exact absurd trivial hc | exact absurd rfl hc | conv => whnf)
    | (refine Br.ne (fun hc => ?_) (fun hc => ?_) <;> first | (exfalso; omega) | exact absurd trivial hc | exact absurd rfl hc | conv => whnf)
    | (with_reducible refine Br.and ?_)
    | (with_reducible refine Br.or ?_)
    | (refine Br.any (fun hc => ?_) (fun hc => ?_) <;> conv => whnf)
    | (refine Fit.inl ?_ ?_; (focus ((first | omega | exact ⟨by omega, by omega⟩ | rfl | exact trivial | assumption | (simp only [List.length_map, List.length_append, List.length_take, List.length_drop, List.length_cons, List.length_nil, List.length_replicate, List.length_set, List.length_reverse, nds_len, numsD_length]; omega) | (simp only [List.length_map, List.length_append, List.length_take, List.length_drop, List.length_cons, List.length_nil, List.length_replicate, List.length_set, List.length_reverse, nds_len, numsD_length]; exact ⟨by omega, by omega⟩) | exact nds_each | (refine map_each ?_; intro x; rfl) | (refine first_map ?_; intro x; rfl) | exact first_nds | simp | (simp; omega)); done)); conv => whnf)
    | (refine Each.mapAt (by assumption) ?_; conv => whnf)
    | (refine Each.ndsAt (by assumption) ?_; conv => whnf)
    | (refine Each.at (by assumption) ?_; conv => whnf)
    | (refine Each.map (fun x hx => ?_); (try simp only [Int.toNat_natCast, Int.toNat_zero, Int.toNat_one, Int.toNat_natCast_add_one] at hx); conv => whnf)
    | (refine Each.nds (fun a b c ps hx => ?_); (try simp only [Int.toNat_natCast, Int.toNat_zero, Int.toNat_one, Int.toNat_natCast_add_one] at hx); conv => whnf)
    | (refine Each.rep ?_; conv => whnf)
    | (refine Each.drop ?_)
    | (refine Each.take (fun hi => ?_))
    | (refine Each.any (fun x hx => ?_); (try simp only [Int.toNat_natCast, Int.toNat_zero, Int.toNat_one, Int.toNat_natCast_add_one] at hx); conv => whnf)
    | (refine NilB.any (fun hn => ?_) ?_ <;> conv => whnf)
    | (refine CallWP.mono (voidR a) ?_; rintro r h ⟨rfl, rfl⟩; conv => whnf)
    | (refine CallWP.mono (startR a b (by omega) (by omega) hb) ?_; rintro r h ⟨rfl, rfl⟩; conv => whnf)
    | (refine CallWP.mono (ihp) ?_; rintro r h ⟨rfl, rfl⟩; conv => whnf)
    | (refine ⟨_, bytesOfD_nums _, ?_⟩; conv => whnf)
    | (refine WP.sch (id := 9) tabOK hmix (.mob 0 (.mob 1 (.mob 5 (.alt [(2, .alt [(3, .mob 4 (.alt [(6, .mob 7 (.mob 8 (.mob 9 (.mob 10 (.done)))))])), (6, .alt [(3, .mob 4 (.mob 7 (.mob 8 (.mob 9 (.mob 10 (.done))))))])]), (6, .alt [(2, .alt [(3, .mob 4 (.mob 7 (.mob 8 (.mob 9 (.mob 10 (.done))))))])])])))) (by kernel_rfl) ?_; conv => whnf)
    | exact ⟨rfl, rfl⟩
    | (refine Fin.bool ?_ rfl)
    | (refine Fin.int ?_ rfl)
    | (refine Fin.str ?_ rfl)
    | (refine Fin.sl ?_ rfl)
    | exact trivial)
    all_goals
      refine ⟨i + 1, by omega, by dsimp only; omega, ?_⟩
      conv => whnf
      repeat (first | exact True.intro | (refine Need.mk ?_ ?_; (focus ((first | rfl | assumption | omega | (simp only [List.length_map, List.length_append, List.length_take, List.length_drop, List.length_cons, List.length_nil, List.length_replicate, List.length_set, List.length_reverse, nds_len, numsD_length]; omega) | simp [ht, e]); done)); conv => whnf) | ((conv => whnf); exact True.intro))
  · have e : ndT (.mk a b c ps) = [60] ++ a ++ atts b ++ [62] := by simp [ndT, ha, hv, tagText]
    conv => whnf
    repeat' (first
    | (refine Br.tt ?_; conv => whnf)
    | (refine Br.ff ?_; conv => whnf)
    | (refine Both.mk ?_ ?_ <;> conv => whnf)
    | (refine Br.not ?_)
    | (refine Need.mk ?_ ?_; (focus ((first | omega | exact ⟨by omega, by omega⟩ | rfl | exact trivial | assumption | (simp only [List.length_map, List.length_append, List.length_take, List.length_drop, List.length_cons, List.length_nil, List.length_replicate, List.length_set, List.length_reverse, nds_len, numsD_length]; omega) | (simp only [List.length_map, List.length_append, List.length_take, List.length_drop, List.length_cons, List.length_nil, List.length_replicate, List.length_set, List.length_reverse, nds_len, numsD_length]; exact ⟨by omega, by omega⟩) | exact nds_each | (refine map_each ?_; intro x; rfl) | (refine first_map ?_; intro x; rfl) | exact first_nds | simp | (simp; omega)); done)); conv => whnf)
    | (refine Br.t (by assumption) ?_; conv => whnf)
    | (refine Br.f (by assumption) ?_; conv => whnf)
    | (refine Br.self ?_; conv => whnf)
    | (refine Br.decT (by assumption) ?_; conv => whnf)
    | (refine Br.decF (by assumption) ?_; conv => whnf)
    | (refine Br.eqT (by assumption) ?_; conv => whnf)
    | (refine Br.eqF (by assumption) ?_; conv => whnf)
    | (refine Br.dec (fun hc => ?_) (fun hc => ?_) <;> (try simp only [List.length_map, List.length_append, List.length_take, List.length_drop, List.length_cons, List.length_nil, List.length_replicate, List.length_set, List.length_reverse, nds_len, numsD_length] at hc) <;> first | (exfalso; omega) | exact absurd trivial hc | exact absurd rfl hc | conv => whnf)
    | (refine Br.eq (fun hc => ?_) (fun hc => ?_) <;> first | (exfalso; omega) | exact absurd trivial hc | exact absurd rfl hc | conv => whnf)
    | (refine Br.ne (fun hc => ?_) (fun hc => ?_) <;> first | (exfalso; omega) | exact absurd trivial hc | exact absurd rfl hc | conv => whnf)
    | (with_reducible refine Br.and ?_)
    | (with_reducible refine Br.or ?_)
    | (refine Br.any (fun hc => ?_) (fun hc => ?_) <;> conv => whnf)
    | (refine Fit.inl ?_ ?_; (focus ((first | omega | exact ⟨by omega, by omega⟩ | rfl | exact trivial | assumption | (simp only [List.length_map, List.length_append, List.length_take, List.length_drop, List.length_cons, List.length_nil, List.length_replicate, List.length_set, List.length_reverse, nds_len, numsD_length]; omega) | (simp only [List.length_map, List.length_append, List.length_take, List.length_drop, List.length_cons, List.length_nil, List.length_replicate, List.length_set, List.length_reverse, nds_len, numsD_length]; exact ⟨by omega, by omega⟩) | exact nds_each | (refine map_each ?_; intro x; rfl) | (refine first_map ?_; intro x; rfl) | exact first_nds | simp | (simp; omega)); done)); conv => whnf)
    | (refine Each.mapAt (by assumption) ?_; conv => whnf)
    | (refine Each.ndsAt (by assumption) ?_; conv => whnf)
    | (refine Each.at (by assumption) ?_; conv => whnf)
    | (refine Each.map (fun x hx => ?_); (try simp only [Int.toNat_natCast, Int.toNat_zero, Int.toNat_one, Int.toNat_natCast_add_one] at hx); conv => whnf)
    | (refine Each.nds (fun a b c ps hx => ?_); (try simp only [Int.toNat_natCast, Int.toNat_zero, Int.toNat_one, Int.toNat_natCast_add_one] at hx); conv => whnf)
    | (refine Each.rep ?_; conv => whnf)
    | (refine Each.drop ?_)
    | (refine Each.take (fun hi => ?_))
    | (refine Each.any (fun x hx => ?_); (try simp only [Int.toNat_natCast, Int.toNat_zero, Int.toNat_one, Int.toNat_natCast_add_one] at hx); conv => whnf)
    | (refine NilB.any (fun hn => ?_) ?_ <;> conv => whnf)
    | (refine CallWP.mono (voidR a) ?_; rintro r h ⟨rfl, rfl⟩; conv => whnf)
    | (refine CallWP.mono (startR a b (by omega) (by omega) hb) ?_; rintro r h ⟨rfl, rfl⟩; conv => whnf)
    | (refine ⟨_, bytesOfD_nums _, ?_⟩; conv => whnf)
    | (refine WP.sch (id := 9) tabOK hmix (.mob 0 (.mob 1 (.mob 5 (.alt [(2, .alt [(3, .mob 4 (.alt [(6, .mob 7 (.mob 8 (.mob 9 (.mob 10 (.done)))))])), (6, .alt [(3, .mob 4 (.mob 7 (.mob 8 (.mob 9 (.mob 10 (.done))))))])]), (6, .alt [(2, .alt [(3, .mob 4 (.mob 7 (.mob 8 (.mob 9 (.mob 10 (.done))))))])])])))) (by kernel_rfl) ?_; conv => whnf)
    | exact ⟨rfl, rfl⟩
    | (refine Fin.bool ?_ rfl)
    | (refine Fin.int ?_ rfl)
    | (refine Fin.str ?_ rfl)
    | (refine Fin.sl ?_ rfl)
    | exact trivial)
    all_goals
      refine ⟨i + 1, by omega, by dsimp only; omega, ?_⟩
      conv => whnf
      repeat (first | exact True.intro | (refine Need.mk ?_ ?_; (focus ((first | rfl | assumption | omega | (simp only [List.length_map, List.length_append, List.length_take, List.length_drop, List.length_cons, List.length_nil, List.length_replicate, List.length_set, List.length_reverse, nds_len, numsD_length]; omega) | simp [ht, e]); done)); conv => whnf) | ((conv => whnf); exact True.intro))
def res (l : List Nd) : Str × Int := if chk l = 0 then (if (ndsT l).length > 600 then ([], 1) else (ndsT l, 0)) else ([], chk l)
theorem textC (l : List Nd) (hH : H l) (hb : szs l ≤ 1048576) : CallWP Try.prog 31 [.d (.sl (nds l))] [] (fun r h => r = .tup [(.d (.str ((res l).1))), (.d (.int .i64 ((res l).2)))] ∧ h = []) := by
  have hx := ndsT_lin l
  have hH2 := hH
  unfold H at hH2
  unfold res
  (refine CallWP.go tabOK Try.func31 0 17 rfl rfl rfl rfl ?_; conv => whnf)
  repeat' (first
    | (refine Br.tt ?_; conv => whnf)
    | (refine Br.ff ?_; conv => whnf)
    | (refine Both.mk ?_ ?_ <;> conv => whnf)
    | (refine Br.not ?_)
    | (refine Need.mk ?_ ?_; (focus ((first | omega | exact ⟨by omega, by omega⟩ | rfl | exact trivial | assumption | (simp only [List.length_map, List.length_append, List.length_take, List.length_drop, List.length_cons, List.length_nil, List.length_replicate, List.length_set, List.length_reverse, nds_len, numsD_length]; omega) | (simp only [List.length_map, List.length_append, List.length_take, List.length_drop, List.length_cons, List.length_nil, List.length_replicate, List.length_set, List.length_reverse, nds_len, numsD_length]; exact ⟨by omega, by omega⟩) | exact nds_each | (refine map_each ?_; intro x; rfl) | (refine first_map ?_; intro x; rfl) | exact first_nds | simp | (simp; omega)); done)); conv => whnf)
    | (refine Br.t (by assumption) ?_; conv => whnf)
    | (refine Br.f (by assumption) ?_; conv => whnf)
    | (refine Br.self ?_; conv => whnf)
    | (refine Br.decT (by assumption) ?_; conv => whnf)
    | (refine Br.decF (by assumption) ?_; conv => whnf)
    | (refine Br.eqT (by assumption) ?_; conv => whnf)
    | (refine Br.eqF (by assumption) ?_; conv => whnf)
    | (refine Br.dec (fun hc => ?_) (fun hc => ?_) <;> (try simp only [List.length_map, List.length_append, List.length_take, List.length_drop, List.length_cons, List.length_nil, List.length_replicate, List.length_set, List.length_reverse, nds_len, numsD_length] at hc) <;> first | (exfalso; omega) | exact absurd trivial hc | exact absurd rfl hc | conv => whnf)
    | (refine Br.eq (fun hc => ?_) (fun hc => ?_) <;> first | (exfalso; omega) | exact absurd trivial hc | exact absurd rfl hc | conv => whnf)
    | (refine Br.ne (fun hc => ?_) (fun hc => ?_) <;> first | (exfalso; omega) | exact absurd trivial hc | exact absurd rfl hc | conv => whnf)
    | (with_reducible refine Br.and ?_)
    | (with_reducible refine Br.or ?_)
    | (refine Br.any (fun hc => ?_) (fun hc => ?_) <;> conv => whnf)
    | (refine Fit.inl ?_ ?_; (focus ((first | omega | exact ⟨by omega, by omega⟩ | rfl | exact trivial | assumption | (simp only [List.length_map, List.length_append, List.length_take, List.length_drop, List.length_cons, List.length_nil, List.length_replicate, List.length_set, List.length_reverse, nds_len, numsD_length]; omega) | (simp only [List.length_map, List.length_append, List.length_take, List.length_drop, List.length_cons, List.length_nil, List.length_replicate, List.length_set, List.length_reverse, nds_len, numsD_length]; exact ⟨by omega, by omega⟩) | exact nds_each | (refine map_each ?_; intro x; rfl) | (refine first_map ?_; intro x; rfl) | exact first_nds | simp | (simp; omega)); done)); conv => whnf)
    | (refine Each.mapAt (by assumption) ?_; conv => whnf)
    | (refine Each.ndsAt (by assumption) ?_; conv => whnf)
    | (refine Each.at (by assumption) ?_; conv => whnf)
    | (refine Each.map (fun x hx => ?_); (try simp only [Int.toNat_natCast, Int.toNat_zero, Int.toNat_one, Int.toNat_natCast_add_one] at hx); conv => whnf)
    | (refine Each.nds (fun a b c ps hx => ?_); (try simp only [Int.toNat_natCast, Int.toNat_zero, Int.toNat_one, Int.toNat_natCast_add_one] at hx); conv => whnf)
    | (refine Each.rep ?_; conv => whnf)
    | (refine Each.drop ?_)
    | (refine Each.take (fun hi => ?_))
    | (refine Each.any (fun x hx => ?_); (try simp only [Int.toNat_natCast, Int.toNat_zero, Int.toNat_one, Int.toNat_natCast_add_one] at hx); conv => whnf)
    | (refine NilB.any (fun hn => ?_) ?_ <;> conv => whnf)
    | (refine CallWP.mono (checkC l hH hb) ?_; rintro r h ⟨rfl, rfl⟩; conv => whnf)
    | (refine CallWP.mono (ofC _ l (Nat.lt_succ_self _) hH) ?_; rintro r h ⟨rfl, rfl⟩; conv => whnf)
    | (refine ⟨_, bytesOfD_nums _, ?_⟩; conv => whnf)
    | exact ⟨rfl, rfl⟩
    | (refine Fin.bool ?_ rfl)
    | (refine Fin.int ?_ rfl)
    | (refine Fin.str ?_ rfl)
    | (refine Fin.sl ?_ rfl)
    | exact trivial)
  · rw [if_pos (by assumption), if_pos (by omega)]; exact ⟨rfl, rfl⟩
  · rw [if_pos (by assumption), if_neg (by omega)]; exact ⟨rfl, rfl⟩
  · rw [if_neg (by assumption)]; exact ⟨rfl, rfl⟩
theorem textR (l : List Nd) (hH : H l) (hb : szs l ≤ 1048576) : CallWP Try.prog 32 [.d (.sl (nds l))] [] (fun r h => r = .tup [(.d (.str ((res l).1))), (.d (.int .i64 ((res l).2)))] ∧ h = []) := by
  have hx := ndsT_lin l
  have hH2 := hH
  unfold H at hH2
  unfold res
  (refine CallWP.go tabOK Try.func32 0 17 rfl rfl rfl rfl ?_; conv => whnf)
  repeat' (first
    | (refine Br.tt ?_; conv => whnf)
    | (refine Br.ff ?_; conv => whnf)
    | (refine Both.mk ?_ ?_ <;> conv => whnf)
    | (refine Br.not ?_)
    | (refine Need.mk ?_ ?_; (focus ((first | omega | exact ⟨by omega, by omega⟩ | rfl | exact trivial | assumption | (simp only [List.length_map, List.length_append, List.length_take, List.length_drop, List.length_cons, List.length_nil, List.length_replicate, List.length_set, List.length_reverse, nds_len, numsD_length]; omega) | (simp only [List.length_map, List.length_append, List.length_take, List.length_drop, List.length_cons, List.length_nil, List.length_replicate, List.length_set, List.length_reverse, nds_len, numsD_length]; exact ⟨by omega, by omega⟩) | exact nds_each | (refine map_each ?_; intro x; rfl) | (refine first_map ?_; intro x; rfl) | exact first_nds | simp | (simp; omega)); done)); conv => whnf)
    | (refine Br.t (by assumption) ?_; conv => whnf)
    | (refine Br.f (by assumption) ?_; conv => whnf)
    | (refine Br.self ?_; conv => whnf)
    | (refine Br.decT (by assumption) ?_; conv => whnf)
    | (refine Br.decF (by assumption) ?_; conv => whnf)
    | (refine Br.eqT (by assumption) ?_; conv => whnf)
    | (refine Br.eqF (by assumption) ?_; conv => whnf)
    | (refine Br.dec (fun hc => ?_) (fun hc => ?_) <;> (try simp only [List.length_map, List.length_append, List.length_take, List.length_drop, List.length_cons, List.length_nil, List.length_replicate, List.length_set, List.length_reverse, nds_len, numsD_length] at hc) <;> first | (exfalso; omega) | exact absurd trivial hc | exact absurd rfl hc | conv => whnf)
    | (refine Br.eq (fun hc => ?_) (fun hc => ?_) <;> first | (exfalso; omega) | exact absurd trivial hc | exact absurd rfl hc | conv => whnf)
    | (refine Br.ne (fun hc => ?_) (fun hc => ?_) <;> first | (exfalso; omega) | exact absurd trivial hc | exact absurd rfl hc | conv => whnf)
    | (with_reducible refine Br.and ?_)
    | (with_reducible refine Br.or ?_)
    | (refine Br.any (fun hc => ?_) (fun hc => ?_) <;> conv => whnf)
    | (refine Fit.inl ?_ ?_; (focus ((first | omega | exact ⟨by omega, by omega⟩ | rfl | exact trivial | assumption | (simp only [List.length_map, List.length_append, List.length_take, List.length_drop, List.length_cons, List.length_nil, List.length_replicate, List.length_set, List.length_reverse, nds_len, numsD_length]; omega) | (simp only [List.length_map, List.length_append, List.length_take, List.length_drop, List.length_cons, List.length_nil, List.length_replicate, List.length_set, List.length_reverse, nds_len, numsD_length]; exact ⟨by omega, by omega⟩) | exact nds_each | (refine map_each ?_; intro x; rfl) | (refine first_map ?_; intro x; rfl) | exact first_nds | simp | (simp; omega)); done)); conv => whnf)
    | (refine Each.mapAt (by assumption) ?_; conv => whnf)
    | (refine Each.ndsAt (by assumption) ?_; conv => whnf)
    | (refine Each.at (by assumption) ?_; conv => whnf)
    | (refine Each.map (fun x hx => ?_); (try simp only [Int.toNat_natCast, Int.toNat_zero, Int.toNat_one, Int.toNat_natCast_add_one] at hx); conv => whnf)
    | (refine Each.nds (fun a b c ps hx => ?_); (try simp only [Int.toNat_natCast, Int.toNat_zero, Int.toNat_one, Int.toNat_natCast_add_one] at hx); conv => whnf)
    | (refine Each.rep ?_; conv => whnf)
    | (refine Each.drop ?_)
    | (refine Each.take (fun hi => ?_))
    | (refine Each.any (fun x hx => ?_); (try simp only [Int.toNat_natCast, Int.toNat_zero, Int.toNat_one, Int.toNat_natCast_add_one] at hx); conv => whnf)
    | (refine NilB.any (fun hn => ?_) ?_ <;> conv => whnf)
    | (refine CallWP.mono (checkR l hH hb) ?_; rintro r h ⟨rfl, rfl⟩; conv => whnf)
    | (refine CallWP.mono (ofR _ l (Nat.lt_succ_self _) hH) ?_; rintro r h ⟨rfl, rfl⟩; conv => whnf)
    | (refine ⟨_, bytesOfD_nums _, ?_⟩; conv => whnf)
    | exact ⟨rfl, rfl⟩
    | (refine Fin.bool ?_ rfl)
    | (refine Fin.int ?_ rfl)
    | (refine Fin.str ?_ rfl)
    | (refine Fin.sl ?_ rfl)
    | exact trivial)
  · rw [if_pos (by assumption), if_pos (by omega)]; exact ⟨rfl, rfl⟩
  · rw [if_pos (by assumption), if_neg (by omega)]; exact ⟨rfl, rfl⟩
  · rw [if_neg (by assumption)]; exact ⟨rfl, rfl⟩
end Go.VL.ShowText
