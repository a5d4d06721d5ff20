/- walk.At and its reference answer alike. -/
import Derived.Test.YtpkgjkoijeapjaaNodes
import Derived.Test.YtpkgjkoijeapjaaVWalk
set_option linter.unusedVariables false
set_option linter.unusedSimpArgs false
namespace Go.VL.At
open Go Go.Proofs Go.VL Go.VL.Nodes Go.VL.VWalk
set_option maxRecDepth 100000
attribute [local irreducible] CallWP WP Need Br Each NilB fit Both
/-- A node and a number, or the zero node with slices that are nil. -/
def Res (a : Str) (b : List Attr) (c : Str) (ps : List Nd) (e : Int) (r : T) (h : Hp) : Prop :=
  (r = .tup [.agg [(.d (.str (a))), (.d (.sl (b.map Attr.d))), (.d (.str (c))), (.d (.sl (nds ps)))], (.d (.int .i64 (e)))] ∨ (r = .tup [.agg [(.d (.str ([]))), .nils, (.d (.str ([]))), .nils], (.d (.int .i64 (7)))] ∧ a = [] ∧ b = [] ∧ c = [] ∧ ps = [] ∧ e = 7)) ∧ h = []
theorem Res.val {a b c ps e r h} (q : Res a b c ps e r h) : r.tr (valF h) = .tup [.agg [(.d (.str (a))), (.d (.sl (b.map Attr.d))), (.d (.str (c))), (.d (.sl (nds ps)))], (.d (.int .i64 (e)))] ∧ remL h r.rws = [] := by
  rcases q with ⟨rfl | ⟨rfl, rfl, rfl, rfl, rfl, rfl⟩, rfl⟩ <;> exact ⟨rfl, rfl⟩
theorem Res.zero {a b c ps e} (h : (zero, (7 : Int)) = (Nd.mk a b c ps, e)) : Res a b c ps e (.tup [.agg [(.d (.str ([]))), .nils, (.d (.str ([]))), .nils], (.d (.int .i64 (7)))]) [] := ⟨.inr ⟨rfl, zero_inv h⟩, rfl⟩
theorem atR (path : List Int) (hp : path.length < 2 ^ 62) (l : List Nd) (hk : attrsOk l) (a b c ps e) (h : at_ l path = (.mk a b c ps, e)) : CallWP Try.prog 26 [.d (.sl (nds l)), .d (.sl (path.map iI))] [] (fun r h => r = .tup [.agg [(.d (.str (a))), (.d (.sl (b.map Attr.d))), (.d (.str (c))), (.d (.sl (nds ps)))], (.d (.int .i64 (e)))] ∧ h = []) := by
  refine CallWP.val (Q := Res a b c ps e) ?_ (fun _ _ => Res.val)
  (refine CallWP.go tabOK Try.func26 0 46 rfl rfl rfl rfl ?_; conv => whnf)
  repeat' (first
    | (refine Br.tt ?_; conv => whnf)
    | (refine Br.ff ?_; conv => whnf)
    | (refine Both.mk ?_ ?_ <;> conv => whnf)
    | (refine Br.not ?_)
    | (refine Need.mk ?_ ?_; (focus ((first | omega | exact ⟨by omega, by omega⟩ | rfl | exact trivial | assumption | (simp only [List.length_map, List.length_append, List.length_take, List.length_drop, List.length_cons, List.length_nil, List.length_replicate, List.length_set, List.length_reverse, nds_len, numsD_length]; omega) | (simp only [List.length_map, List.length_append, List.length_take, List.length_drop, List.length_cons, List.length_nil, List.length_replicate, List.length_set, List.length_reverse, nds_len, numsD_length]; exact ⟨by omega, by omega⟩) | exact nds_each | (refine map_each ?_; intro x; rfl) | (refine first_map ?_; intro x; rfl) | exact first_nds | simp | (simp; omega)); done)); conv => whnf)
    | (refine Br.t (by assumption) ?_; conv => whnf)
    | (refine Br.f (by assumption) ?_; conv => whnf)
    | (refine Br.self ?_; conv => whnf)
    | (refine Br.decT (by assumption) ?_; conv => whnf)
    | (refine Br.decF (by assumption) ?_; conv => whnf)
    | (refine Br.eqT (by assumption) ?_; conv => whnf)
    | (refine Br.eqF (by assumption) ?_; conv => whnf)
    | (refine Br.dec (fun hc => ?_) (fun hc => ?_) <;> (try simp only [List.length_map, List.length_append, List.length_take, List.length_drop, List.length_cons, List.length_nil, List.length_replicate, List.length_set, List.length_reverse, nds_len, numsD_length] at hc) <;> first | (exfalso; omega) | exact absurd trivial hc | exact absurd rfl hc | conv => whnf)
    | (refine Br.eq (fun hc => ?_) (fun hc => ?_) <;> first | (exfalso; omega) | exact absurd trivial hc | exact absurd rfl hc | conv => whnf)
    | (refine Br.ne (fun hc => ?_) (fun hc => ?_) <;> first | (exfalso; omega) | exact absurd trivial hc | exact absurd rfl hc | conv => whnf)
    | (with_reducible refine Br.and ?_)
    | (with_reducible refine Br.or ?_)
    | (refine Br.any (fun hc => ?_) (fun hc => ?_) <;> conv => whnf)
    | (refine Fit.inl ?_ ?_; (focus ((first | omega | exact ⟨by omega, by omega⟩ | rfl | exact trivial | assumption | (simp only [List.length_map, List.length_append, List.length_take, List.length_drop, List.length_cons, List.length_nil, List.length_replicate, List.length_set, List.length_reverse, nds_len, numsD_length]; omega) | (simp only [List.length_map, List.length_append, List.length_take, List.length_drop, List.length_cons, List.length_nil, List.length_replicate, List.length_set, List.length_reverse, nds_len, numsD_length]; exact ⟨by omega, by omega⟩) | exact nds_each | (refine map_each ?_; intro x; rfl) | (refine first_map ?_; intro x; rfl) | exact first_nds | simp | (simp; omega)); done)); conv => whnf)
    | (refine Each.mapAt (by assumption) ?_; conv => whnf)
    | (refine Each.ndsAt (by assumption) ?_; conv => whnf)
    | (refine Each.at (by assumption) ?_; conv => whnf)
    | (refine Each.map (fun x hx => ?_); (try simp only [Int.toNat_natCast, Int.toNat_zero, Int.toNat_one, Int.toNat_natCast_add_one] at hx); conv => whnf)
    | (refine Each.nds (fun a b c ps hx => ?_); (try simp only [Int.toNat_natCast, Int.toNat_zero, Int.toNat_one, Int.toNat_natCast_add_one] at hx); conv => whnf)
    | (refine Each.rep ?_; conv => whnf)
    | (refine Each.drop ?_)
    | (refine Each.take (fun hi => ?_))
    | (refine Each.any (fun x hx => ?_); (try simp only [Int.toNat_natCast, Int.toNat_zero, Int.toNat_one, Int.toNat_natCast_add_one] at hx); conv => whnf)
    | (refine NilB.any (fun hn => ?_) ?_ <;> conv => whnf)
    | (refine ⟨_, bytesOfD_nums _, ?_⟩; conv => whnf)
    | exact ⟨rfl, rfl⟩
    | (refine Fin.bool ?_ rfl)
    | (refine Fin.int ?_ rfl)
    | (refine Fin.str ?_ rfl)
    | (refine Fin.sl ?_ rfl)
    | exact trivial)
  · obtain rfl : path = [] := List.eq_nil_of_length_eq_zero (by omega)
    exact Res.zero (by rw [← h]; simp [at_])
  · refine WP.loop (α := (Nat × Str × List Attr × Str × List Nd × List Nd)) tabOK (fun ⟨i, a1, b1, c1, p1, l1⟩ => i ≤ path.length ∧ attrsOk l1 ∧ (0 < i → l1 = p1) ∧ cont i (.mk a1 b1 c1 p1) l1 (path.drop i) = (.mk a b c ps, e)) (fun ⟨i, a1, b1, c1, p1, l1⟩ => ⟨[(0, (.d (.sl (nds l1)))), (4, .ref 0 0 0), (6, .ref 1 0 0), (13, (.d (.sl (path.map iI)))), (14, (.d (.int .i64 ((path.map iI).length)))), (15, (.d (.int .i64 (i))))], [(0, .var 62 [(.d (.str ([]))), .nils, (.d (.str ([]))), .nils]), (1, .var 62 [(.d (.str (a1))), (.d (.sl (b1.map Attr.d))), (.d (.str (c1))), (.d (.sl (nds p1)))])], 2, 46⟩) (fun ⟨i, a1, b1, c1, p1, l1⟩ => path.length - i) ((0, [], [], [], [], l)) ?_ ?_ ?_
    · refine ⟨Nat.zero_le _, hk, by simp, ?_⟩
      rcases path with _ | ⟨q, t⟩
      · exact absurd rfl hc
      rw [List.drop_zero, cont_go (by simp)]
      exact h
    · conv => whnf
      repeat (first | exact True.intro | (refine Need.mk ?_ ?_; (focus ((first | rfl | assumption | omega | (simp only [List.length_map, List.length_append, List.length_take, List.length_drop, List.length_cons, List.length_nil, List.length_replicate, List.length_set, List.length_reverse, nds_len, numsD_length]; omega) | simp [nds]); done)); conv => whnf) | ((conv => whnf); exact True.intro))
    rintro ⟨i, a1, b1, c1, p1, l1⟩ ⟨hi, hk1, hl1, hcont⟩
    have hd : ∀ x, path[i]? = some x → path.drop i = x :: path.drop (i + 1) := fun x hx => by
      obtain ⟨h1, h2⟩ := List.getElem?_eq_some_iff.mp hx
      rw [List.drop_eq_getElem_cons h1, h2]
    have next : ∀ x a2 b2 c2 p2, path[i]? = some x → ¬ (0 < i ∧ a1 = []) → nthO l1 x = some (.mk a2 b2 c2 p2) → cont (i + 1) (.mk a2 b2 c2 p2) p2 (path.drop (i + 1)) = (.mk a b c ps, e) := fun x a2 b2 c2 p2 hx hn hq => by
      rw [← hcont, hd x hx, cont_go hn]
      rcases path.drop (i + 1) with _ | ⟨q, t⟩
      · rw [at_one hq]; rfl
      · by_cases ha : a2 = []
        · rw [cont_stop (n := .mk a2 b2 c2 p2) ⟨Nat.succ_pos _, ha⟩, at_stop hq ha]
        · rw [cont_go (n := .mk a2 b2 c2 p2) (fun h => ha h.2), at_more hq ha]; rfl
    have stop : ∀ x, path[i]? = some x → (0 < i ∧ a1 = []) ∨ nthO l1 x = none → (zero, (7 : Int)) = (Nd.mk a b c ps, e) := fun x hx hs => by
      rw [← hcont, hd x hx]
      by_cases hn : 0 < i ∧ a1 = []
      · rw [cont_stop hn]
      · rw [cont_go hn, at_none (hs.resolve_left hn)]
    have hat := fun (p : Int) a b c ps (hx : l1[p.toNat]? = some (.mk a b c ps)) => attrsOk_mem hk1 hx
    conv => whnf
    repeat' (first
    | (refine Br.tt ?_; conv => whnf)
    | (refine Br.ff ?_; conv => whnf)
    | (refine Both.mk ?_ ?_ <;> conv => whnf)
    | (refine Br.not ?_)
    | (refine Need.mk ?_ ?_; (focus ((first | omega | exact ⟨by omega, by omega⟩ | rfl | exact trivial | assumption | (simp only [List.length_map, List.length_append, List.length_take, List.length_drop, List.length_cons, List.length_nil, List.length_replicate, List.length_set, List.length_reverse, nds_len, numsD_length]; omega) | (simp only [List.length_map, List.length_append, List.length_take, List.length_drop, List.length_cons, List.length_nil, List.length_replicate, List.length_set, List.length_reverse, nds_len, numsD_length]; exact ⟨by omega, by omega⟩) | exact nds_each | (refine map_each ?_; intro x; rfl) | (refine first_map ?_; intro x; rfl) | exact first_nds | simp | (simp; omega)); done)); conv => whnf)
    | (refine Br.t (by assumption) ?_; conv => whnf)
    | (refine Br.f (by assumption) ?_; conv => whnf)
    | (refine Br.self ?_; conv => whnf)
    | (refine Br.decT (by assumption) ?_; conv => whnf)
    | (refine Br.decF (by assumption) ?_; conv => whnf)
    | (refine Br.eqT (by assumption) ?_; conv => whnf)
    | (refine Br.eqF (by assumption) ?_; conv => whnf)
    | (refine Br.dec (fun hc => ?_) (fun hc => ?_) <;> (try simp only [List.length_map, List.length_append, List.length_take, List.length_drop, List.length_cons, List.length_nil, List.length_replicate, List.length_set, List.length_reverse, nds_len, numsD_length] at hc) <;> first | (exfalso; omega) | exact absurd trivial hc | exact absurd rfl hc | conv => whnf)
    | (refine Br.eq (fun hc => ?_) (fun hc => ?_) <;> first | (exfalso; omega) | exact absurd trivial hc | exact absurd rfl hc | conv => whnf)
    | (refine Br.ne (fun hc => ?_) (fun hc => ?_) <;> first | (exfalso; omega) | exact absurd trivial hc | exact absurd rfl hc | conv => whnf)
    | (with_reducible refine Br.and ?_)
    | (with_reducible refine Br.or ?_)
    | (refine Br.any (fun hc => ?_) (fun hc => ?_) <;> conv => whnf)
    | (refine Fit.inl ?_ ?_; (focus ((first | omega | exact ⟨by omega, by omega⟩ | rfl | exact trivial | assumption | (simp only [List.length_map, List.length_append, List.length_take, List.length_drop, List.length_cons, List.length_nil, List.length_replicate, List.length_set, List.length_reverse, nds_len, numsD_length]; omega) | (simp only [List.length_map, List.length_append, List.length_take, List.length_drop, List.length_cons, List.length_nil, List.length_replicate, List.length_set, List.length_reverse, nds_len, numsD_length]; exact ⟨by omega, by omega⟩) | exact nds_each | (refine map_each ?_; intro x; rfl) | (refine first_map ?_; intro x; rfl) | exact first_nds | simp | (simp; omega)); done)); conv => whnf)
    | (refine Each.mapAt (by assumption) ?_; conv => whnf)
    | (refine Each.ndsAt (by assumption) ?_; conv => whnf)
    | (refine Each.at (by assumption) ?_; conv => whnf)
    | (refine Each.map (fun x hx => ?_); (try simp only [Int.toNat_natCast, Int.toNat_zero, Int.toNat_one, Int.toNat_natCast_add_one] at hx); conv => whnf)
    | (refine Each.nds (fun a b c ps hx => ?_); (try simp only [Int.toNat_natCast, Int.toNat_zero, Int.toNat_one, Int.toNat_natCast_add_one] at hx); conv => whnf)
    | (refine Each.rep ?_; conv => whnf)
    | (refine Each.drop ?_)
    | (refine Each.take (fun hi => ?_))
    | (refine Each.any (fun x hx => ?_); (try simp only [Int.toNat_natCast, Int.toNat_zero, Int.toNat_one, Int.toNat_natCast_add_one] at hx); conv => whnf)
    | (refine NilB.any (fun hn => ?_) ?_ <;> conv => whnf)
    | (refine ⟨_, bytesOfD_nums _, ?_⟩; conv => whnf)
    | exact ⟨rfl, rfl⟩
    | (refine Fin.bool ?_ rfl)
    | (refine Fin.int ?_ rfl)
    | (refine Fin.str ?_ rfl)
    | (refine Fin.sl ?_ rfl)
    | exact trivial)
    · exact Res.zero (stop x hx (.inl ⟨by omega, hc⟩))
    · exact Res.zero (stop x hx (.inr (nthO_none (.inl hc))))
    · exact Res.zero (stop x hx (.inr (nthO_none (.inr hc))))
    · refine ⟨(i + 1, _, _, _, _, _), ⟨by omega, (hat _ _ _ _ _ hx).1, fun _ => rfl, next _ _ _ _ _ (by assumption) (fun h => absurd h.2 (by assumption)) (nthO_some (by assumption) hx)⟩, by dsimp only; omega, ?_⟩
      conv => whnf
      repeat (first | exact True.intro | (refine Need.mk ?_ ?_; (focus ((first | rfl | assumption | omega | (simp only [List.length_map, List.length_append, List.length_take, List.length_drop, List.length_cons, List.length_nil, List.length_replicate, List.length_set, List.length_reverse, nds_len, numsD_length]; omega) | simp); done)); conv => whnf) | ((conv => whnf); exact True.intro))
    · exact Res.zero (stop _ (by assumption) (.inr (nthO_none (.inl hc))))
    · exact Res.zero (stop _ (by assumption) (.inr (nthO_none (.inr hc))))
    · refine ⟨(i + 1, _, _, _, _, _), ⟨by omega, (hat _ _ _ _ _ hx).1, fun _ => rfl, next _ _ _ _ _ (by assumption) (fun h => by omega) (nthO_some (by assumption) hx)⟩, by dsimp only; omega, ?_⟩
      conv => whnf
      repeat (first | exact True.intro | (refine Need.mk ?_ ?_; (focus ((first | rfl | assumption | omega | (simp only [List.length_map, List.length_append, List.length_take, List.length_drop, List.length_cons, List.length_nil, List.length_replicate, List.length_set, List.length_reverse, nds_len, numsD_length]; omega) | simp); done)); conv => whnf) | ((conv => whnf); exact True.intro))
    · rw [List.drop_eq_nil_of_le (by omega)] at hcont
      simp only [cont, Prod.mk.injEq, Nd.mk.injEq] at hcont
      obtain ⟨⟨rfl, rfl, rfl, rfl⟩, rfl⟩ := hcont
      exact ⟨.inl rfl, rfl⟩
theorem at_ok (path : List Int) : ∀ (l : List Nd), attrsOk l → ∀ a b c ps e, at_ l path = (.mk a b c ps, e) → attrsOk [.mk a b c ps] := by
  have hz : attrsOk [zero] := by simp [attrsOk, zero, nds, Nd.d, szLL, szL, szD]
  induction path with
  | nil => intro l hk a b c ps e h; rw [at_] at h; cases h; exact hz
  | cons p r ih =>
    intro l hk a b c ps e h
    cases hq : nthO l p with
    | none => rw [at_none hq] at h; cases h; exact hz
    | some n =>
      have hn : ∃ i : Nat, l[i]? = some n := by
        unfold nthO at hq
        split at hq
        · cases hq
        · exact ⟨_, hq⟩
      obtain ⟨i, hi⟩ := hn
      rcases r with _ | ⟨q, t⟩
      · rw [at_one hq] at h
        cases h
        unfold attrsOk at *
        have h1 : szL (Nd.mk a b c ps).d ≤ szLL (nds l) := szLL_mem (by rw [nds_eq]; exact List.mem_map_of_mem (List.mem_of_getElem? hi))
        simp only [nds, szLL]
        omega
      · by_cases ha : n.name = []
        · rw [at_stop hq ha] at h; cases h; exact hz
        · rw [at_more hq ha] at h
          obtain ⟨a1, b1, c1, p1⟩ := n
          exact ih p1 (attrsOk_mem hk hi).1 a b c ps e h
end Go.VL.At
