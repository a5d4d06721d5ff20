/- A start tag's text. -/
import Derived.Test.YtekmfhoppbpobaaEscape
import Derived.Test.YtekmfhoppbpobaaVTy4
set_option linter.unusedVariables false
set_option linter.unusedSimpArgs false
namespace Go.VL.Tag
open Go Go.Proofs Go.VL Go.VL.Escape
set_option maxRecDepth 100000
attribute [local irreducible] CallWP WP Need Br Each NilB fit Both
def at1 (a : Attr) : Str := [32] ++ a.name ++ [61, 34] ++ esc true a.value ++ [34]
def atts (l : List Attr) : Str := (l.map at1).flatten
def tagText (nm : Str) (l : List Attr) (self : Bool) : Str := [60] ++ nm ++ atts l ++ (if self then [47] else []) ++ [62]
theorem atts_at {l : List Attr} {i : Nat} {a : Attr} (h : l[i]? = some a) : atts (l.take (i + 1)) = atts (l.take i) ++ at1 a := by
  rw [List.take_add_one, h]; simp [atts]
theorem at1_len (a : Attr) : (at1 a).length ≤ 4 + a.name.length + 6 * a.value.length := by
  have := esc_len true a.value
  simp only [at1, List.length_append, List.length_cons, List.length_nil]; omega
theorem atts_len {B : Nat} : ∀ {l : List Attr}, (∀ a ∈ l, a.name.length ≤ B ∧ a.value.length ≤ B) → (atts l).length ≤ l.length * (4 + 7 * B)
  | [], _ => by simp [atts]
  | a :: r, h => by
    have h1 := at1_len a
    have h2 := atts_len (l := r) fun x hx => h x (by simp [hx])
    have h3 := h a (by simp)
    simp only [atts, List.map_cons, List.flatten_cons, List.length_append, List.length_cons, Nat.add_mul] at h2 ⊢
    omega
theorem tagC (nm : Str) (l : List Attr) (self : Bool) (hnm : nm.length ≤ 1048576) (hl : l.length ≤ 1048576) (hb : ∀ a ∈ l, a.name.length ≤ 1048576 ∧ a.value.length ≤ 1048576) : CallWP Try.prog 55 [(.d (.str (nm))), .d (.sl (l.map Attr.d)), (.d (.bool (self)))] [] (fun r h => r = .d (.str (tagText nm l self)) ∧ h = []) := by
  (refine CallWP.go tabOK Try.func55 0 35 rfl rfl rfl rfl ?_; conv => whnf)
  repeat' (first
    | (refine Br.tt ?_; conv => whnf)
    | (refine Br.ff ?_; conv => whnf)
    | (refine Both.mk ?_ ?_ <;> conv => whnf)
    | (refine Br.not ?_)
    | (refine Need.mk ?_ ?_; (focus ((first | omega | exact ⟨by omega, by omega⟩ | rfl | exact trivial | assumption | (simp only [List.length_map, List.length_append, List.length_take, List.length_drop, List.length_cons, List.length_nil, List.length_replicate, List.length_set, List.length_reverse, nds_len, numsD_length]; omega) | (simp only [List.length_map, List.length_append, List.length_take, List.length_drop, List.length_cons, List.length_nil, List.length_replicate, List.length_set, List.length_reverse, nds_len, numsD_length]; exact ⟨by omega, by omega⟩) | exact nds_each | (refine map_each ?_; intro x; rfl) | (refine first_map ?_; intro x; rfl) | exact first_nds | simp | (simp; omega)); done)); conv => whnf)
    | (refine Br.t (by assumption) ?_; conv => whnf)
    | (refine Br.f (by assumption) ?_; conv => whnf)
    | (refine Br.self ?_; conv => whnf)
    | (refine Br.decT (by assumption) ?_; conv => whnf)
    | (refine Br.decF (by assumption) ?_; conv => whnf)
    | (refine Br.eqT (by assumption) ?_; conv => whnf)
    | (refine Br.eqF (by assumption) ?_; conv => whnf)
    | (refine Br.dec (fun hc => ?_) (fun hc => ?_) <;> (try simp only [List.length_map, List.length_append, List.length_take, List.length_drop, List.length_cons, List.length_nil, List.length_replicate, List.length_set, List.length_reverse, nds_len, numsD_length] at hc) <;> first | (exfalso; omega) | exact absurd trivial hc | exact absurd rfl hc | conv => whnf)
    | (refine Br.eq (fun hc => ?_) (fun hc => ?_) <;> first | (exfalso; omega) | exact absurd trivial hc | exact absurd rfl hc | conv => whnf)
    | (refine Br.ne (fun hc => ?_) (fun hc => ?_) <;> first | (exfalso; omega) | exact absurd trivial hc | exact absurd rfl hc | conv => whnf)
    | (with_reducible refine Br.and ?_)
    | (with_reducible refine Br.or ?_)
    | (refine Br.any (fun hc => ?_) (fun hc => ?_) <;> conv => whnf)
    | (refine Fit.inl ?_ ?_; (focus ((first | omega | exact ⟨by omega, by omega⟩ | rfl | exact trivial | assumption | (simp only [List.length_map, List.length_append, List.length_take, List.length_drop, List.length_cons, List.length_nil, List.length_replicate, List.length_set, List.length_reverse, nds_len, numsD_length]; omega) | (simp only [List.length_map, List.length_append, List.length_take, List.length_drop, List.length_cons, List.length_nil, List.length_replicate, List.length_set, List.length_reverse, nds_len, numsD_length]; exact ⟨by omega, by omega⟩) | exact nds_each | (refine map_each ?_; intro x; rfl) | (refine first_map ?_; intro x; rfl) | exact first_nds | simp | (simp; omega)); done)); conv => whnf)
    | (refine Each.mapAt (by assumption) ?_; conv => whnf)
    | (refine Each.ndsAt (by assumption) ?_; conv => whnf)
    | (refine Each.at (by assumption) ?_; conv => whnf)
    | (refine Each.map (fun x hx => ?_); (try simp only [Int.toNat_natCast, Int.toNat_zero, Int.toNat_one, Int.toNat_natCast_add_one] at hx); conv => whnf)
    | (refine Each.nds (fun a b c ps hx => ?_); (try simp only [Int.toNat_natCast, Int.toNat_zero, Int.toNat_one, Int.toNat_natCast_add_one] at hx); conv => whnf)
    | (refine Each.rep ?_; conv => whnf)
    | (refine Each.drop ?_)
    | (refine Each.take (fun hi => ?_))
    | (refine Each.any (fun x hx => ?_); (try simp only [Int.toNat_natCast, Int.toNat_zero, Int.toNat_one, Int.toNat_natCast_add_one] at hx); conv => whnf)
    | (refine NilB.any (fun hn => ?_) ?_ <;> conv => whnf)
    | (refine ⟨_, bytesOfD_nums _, ?_⟩; conv => whnf)
    | (refine WP.sch (id := 5) tabOK hmix (.mob 0 (.mob 1 (.mob 5 (.alt [(2, .mob 3 (.mob 4 (.alt [(6, .alt [(7, .mob 8 (.mob 9 (.mob 10 (.mob 11 (.done)))))])]))), (6, .alt [(2, .mob 3 (.mob 4 (.alt [(7, .mob 8 (.mob 9 (.mob 10 (.mob 11 (.done)))))]))), (7, .alt [(2, .mob 3 (.mob 4 (.mob 8 (.mob 9 (.mob 10 (.mob 11 (.done)))))))])])])))) (by kernel_rfl) ?_; conv => whnf)
    | exact ⟨rfl, rfl⟩
    | (refine Fin.bool ?_ rfl)
    | (refine Fin.int ?_ rfl)
    | (refine Fin.str ?_ rfl)
    | (refine Fin.sl ?_ rfl)
    | exact trivial)
  refine WP.loop (α := Nat) tabOK (fun i => i ≤ l.length) (fun i => ⟨[(2, (.d (.bool (self)))), (7, (.d (.str ([60] ++ nm ++ atts (l.take i))))), (12, (.d (.sl (l.map Attr.d)))), (13, (.d (.int .i64 ((l.map Attr.d).length)))), (14, (.d (.int .i64 (i))))], [], 0, 35⟩) (fun i => l.length - i) (0) ?_ ?_ ?_
  · exact Nat.zero_le _
  · conv => whnf
    repeat (first | exact True.intro | (refine Need.mk ?_ ?_; (focus ((first | rfl | assumption | omega | (simp only [List.length_map, List.length_append, List.length_take, List.length_drop, List.length_cons, List.length_nil, List.length_replicate, List.length_set, List.length_reverse, nds_len, numsD_length]; omega) | simp [atts]); done)); conv => whnf) | ((conv => whnf); exact True.intro))
  intro i hi
  have hal := atts_len (B := 1048576) (l := l.take i) fun a ha => hb a (List.mem_of_mem_take ha)
  rw [List.length_take] at hal
  have hal2 : (atts (l.take i)).length ≤ 1048576 * (4 + 7 * 1048576) := Nat.le_trans hal (Nat.mul_le_mul_right _ (by omega))
  by_cases hlt : i < l.length
  case neg =>
    have e : l.take i = l := List.take_of_length_le (by omega)
    rw [e] at hal2 ⊢
    conv => whnf
    repeat' (first
    | (refine Br.tt ?_; conv => whnf)
    | (refine Br.ff ?_; conv => whnf)
    | (refine Both.mk ?_ ?_ <;> conv => whnf)
    | (refine Br.not ?_)
    | (refine Need.mk ?_ ?_; (focus ((first | omega | exact ⟨by omega, by omega⟩ | rfl | exact trivial | assumption | (simp only [List.length_map, List.length_append, List.length_take, List.length_drop, List.length_cons, List.length_nil, List.length_replicate, List.length_set, List.length_reverse, nds_len, numsD_length]; omega) | (simp only [List.length_map, List.length_append, List.length_take, List.length_drop, List.length_cons, List.length_nil, List.length_replicate, List.length_set, List.length_reverse, nds_len, numsD_length]; exact ⟨by omega, by omega⟩) | exact nds_each | (refine map_each ?_; intro x; rfl) | (refine first_map ?_; intro x; rfl) | exact first_nds | simp | (simp; omega)); done)); conv => whnf)
    | (refine Br.t (by assumption) ?_; conv => whnf)
    | (refine Br.f (by assumption) ?_; conv => whnf)
    | (refine Br.self ?_; conv => whnf)
    | (refine Br.decT (by assumption) ?_; conv => whnf)
    | (refine Br.decF (by assumption) ?_; conv => whnf)
    | (refine Br.eqT (by assumption) ?_; conv => whnf)
    | (refine Br.eqF (by assumption) ?_; conv => whnf)
    | (refine Br.dec (fun hc => ?_) (fun hc => ?_) <;> (try simp only [List.length_map, List.length_append, List.length_take, List.length_drop, List.length_cons, List.length_nil, List.length_replicate, List.length_set, List.length_reverse, nds_len, numsD_length] at hc) <;> first | (exfalso; omega) | exact absurd trivial hc | exact absurd rfl hc | conv => whnf)
    | (refine Br.eq (fun hc => ?_) (fun hc => ?_) <;> first | (exfalso; omega) | exact absurd trivial hc | exact absurd rfl hc | conv => whnf)
    | (refine Br.ne (fun hc => ?_) (fun hc => ?_) <;> first | (exfalso; omega) | exact absurd trivial hc | exact absurd rfl hc | conv => whnf)
    | (with_reducible refine Br.and ?_)
    | (with_reducible refine Br.or ?_)
    | (refine Br.any (fun hc => ?_) (fun hc => ?_) <;> conv => whnf)
    | (refine Fit.inl ?_ ?_; (focus ((first | omega | exact ⟨by omega, by omega⟩ | rfl | exact trivial | assumption | (simp only [List.length_map, List.length_append, List.length_take, List.length_drop, List.length_cons, List.length_nil, List.length_replicate, List.length_set, List.length_reverse, nds_len, numsD_length]; omega) | (simp only [List.length_map, List.length_append, List.length_take, List.length_drop, List.length_cons, List.length_nil, List.length_replicate, List.length_set, List.length_reverse, nds_len, numsD_length]; exact ⟨by omega, by omega⟩) | exact nds_each | (refine map_each ?_; intro x; rfl) | (refine first_map ?_; intro x; rfl) | exact first_nds | simp | (simp; omega)); done)); conv => whnf)
    | (refine Each.mapAt (by assumption) ?_; conv => whnf)
    | (refine Each.ndsAt (by assumption) ?_; conv => whnf)
    | (refine Each.at (by assumption) ?_; conv => whnf)
    | (refine Each.map (fun x hx => ?_); (try simp only [Int.toNat_natCast, Int.toNat_zero, Int.toNat_one, Int.toNat_natCast_add_one] at hx); conv => whnf)
    | (refine Each.nds (fun a b c ps hx => ?_); (try simp only [Int.toNat_natCast, Int.toNat_zero, Int.toNat_one, Int.toNat_natCast_add_one] at hx); conv => whnf)
    | (refine Each.rep ?_; conv => whnf)
    | (refine Each.drop ?_)
    | (refine Each.take (fun hi => ?_))
    | (refine Each.any (fun x hx => ?_); (try simp only [Int.toNat_natCast, Int.toNat_zero, Int.toNat_one, Int.toNat_natCast_add_one] at hx); conv => whnf)
    | (refine NilB.any (fun hn => ?_) ?_ <;> conv => whnf)
    | (refine ⟨_, bytesOfD_nums _, ?_⟩; conv => whnf)
    | (refine WP.sch (id := 5) tabOK hmix (.mob 0 (.mob 1 (.mob 5 (.alt [(2, .mob 3 (.mob 4 (.alt [(6, .alt [(7, .mob 8 (.mob 9 (.mob 10 (.mob 11 (.done)))))])]))), (6, .alt [(2, .mob 3 (.mob 4 (.alt [(7, .mob 8 (.mob 9 (.mob 10 (.mob 11 (.done)))))]))), (7, .alt [(2, .mob 3 (.mob 4 (.mob 8 (.mob 9 (.mob 10 (.mob 11 (.done)))))))])])])))) (by kernel_rfl) ?_; conv => whnf)
    | exact ⟨rfl, rfl⟩
    | (refine Fin.bool ?_ rfl)
    | (refine Fin.int ?_ rfl)
    | (refine Fin.str ?_ rfl)
    | (refine Fin.sl ?_ rfl)
    | exact trivial)
    all_goals simp [tagText, *]
  obtain ⟨a, ha⟩ : ∃ x, l[i]? = some x := ⟨l[i], by simp [hlt]⟩
  obtain ⟨b1, b2⟩ := hb a (List.mem_of_getElem? ha)
  have he := esc_len true a.value
  have hat := atts_at ha
  conv => whnf
  repeat' (first
    | (refine Br.tt ?_; conv => whnf)
    | (refine Br.ff ?_; conv => whnf)
    | (refine Both.mk ?_ ?_ <;> conv => whnf)
    | (refine Br.not ?_)
    | (refine Need.mk ?_ ?_; (focus ((first | omega | exact ⟨by omega, by omega⟩ | rfl | exact trivial | assumption | (simp only [List.length_map, List.length_append, List.length_take, List.length_drop, List.length_cons, List.length_nil, List.length_replicate, List.length_set, List.length_reverse, nds_len, numsD_length]; omega) | (simp only [List.length_map, List.length_append, List.length_take, List.length_drop, List.length_cons, List.length_nil, List.length_replicate, List.length_set, List.length_reverse, nds_len, numsD_length]; exact ⟨by omega, by omega⟩) | exact nds_each | (refine map_each ?_; intro x; rfl) | (refine first_map ?_; intro x; rfl) | exact first_nds | simp | (simp; omega)); done)); conv => whnf)
    | (refine Br.t (by assumption) ?_; conv => whnf)
    | (refine Br.f (by assumption) ?_; conv => whnf)
    | (refine Br.self ?_; conv => whnf)
    | (refine Br.decT (by assumption) ?_; conv => whnf)
    | (refine Br.decF (by assumption) ?_; conv => whnf)
    | (refine Br.eqT (by assumption) ?_; conv => whnf)
    | (refine Br.eqF (by assumption) ?_; conv => whnf)
    | (refine Br.dec (fun hc => ?_) (fun hc => ?_) <;> (try simp only [List.length_map, List.length_append, List.length_take, List.length_drop, List.length_cons, List.length_nil, List.length_replicate, List.length_set, List.length_reverse, nds_len, numsD_length] at hc) <;> first | (exfalso; omega) | exact absurd trivial hc | exact absurd rfl hc | conv => whnf)
    | (refine Br.eq (fun hc => ?_) (fun hc => ?_) <;> first | (exfalso; omega) | exact absurd trivial hc | exact absurd rfl hc | conv => whnf)
    | (refine Br.ne (fun hc => ?_) (fun hc => ?_) <;> first | (exfalso; omega) | exact absurd trivial hc | exact absurd rfl hc | conv => whnf)
    | (with_reducible refine Br.and ?_)
    | (with_reducible refine Br.or ?_)
    | (refine Br.any (fun hc => ?_) (fun hc => ?_) <;> conv => whnf)
    | (refine Fit.inl ?_ ?_; (focus ((first | omega | exact ⟨by omega, by omega⟩ | rfl | exact trivial | assumption | (simp only [List.length_map, List.length_append, List.length_take, List.length_drop, List.length_cons, List.length_nil, List.length_replicate, List.length_set, List.length_reverse, nds_len, numsD_length]; omega) | (simp only [List.length_map, List.length_append, List.length_take, List.length_drop, List.length_cons, List.length_nil, List.length_replicate, List.length_set, List.length_reverse, nds_len, numsD_length]; exact ⟨by omega, by omega⟩) | exact nds_each | (refine map_each ?_; intro x; rfl) | (refine first_map ?_; intro x; rfl) | exact first_nds | simp | (simp; omega)); done)); conv => whnf)
    | (refine Each.mapAt (by assumption) ?_; conv => whnf)
    | (refine Each.ndsAt (by assumption) ?_; conv => whnf)
    | (refine Each.at (by assumption) ?_; conv => whnf)
    | (refine Each.map (fun x hx => ?_); (try simp only [Int.toNat_natCast, Int.toNat_zero, Int.toNat_one, Int.toNat_natCast_add_one] at hx); conv => whnf)
    | (refine Each.nds (fun a b c ps hx => ?_); (try simp only [Int.toNat_natCast, Int.toNat_zero, Int.toNat_one, Int.toNat_natCast_add_one] at hx); conv => whnf)
    | (refine Each.rep ?_; conv => whnf)
    | (refine Each.drop ?_)
    | (refine Each.take (fun hi => ?_))
    | (refine Each.any (fun x hx => ?_); (try simp only [Int.toNat_natCast, Int.toNat_zero, Int.toNat_one, Int.toNat_natCast_add_one] at hx); conv => whnf)
    | (refine NilB.any (fun hn => ?_) ?_ <;> conv => whnf)
    | (refine CallWP.mono (escC a.value true (by omega)) ?_; rintro r h ⟨rfl, rfl⟩; conv => whnf)
    | (refine ⟨_, bytesOfD_nums _, ?_⟩; conv => whnf)
    | (refine WP.sch (id := 5) tabOK hmix (.mob 0 (.mob 1 (.mob 5 (.alt [(2, .mob 3 (.mob 4 (.alt [(6, .alt [(7, .mob 8 (.mob 9 (.mob 10 (.mob 11 (.done)))))])]))), (6, .alt [(2, .mob 3 (.mob 4 (.alt [(7, .mob 8 (.mob 9 (.mob 10 (.mob 11 (.done)))))]))), (7, .alt [(2, .mob 3 (.mob 4 (.mob 8 (.mob 9 (.mob 10 (.mob 11 (.done)))))))])])])))) (by kernel_rfl) ?_; conv => whnf)
    | exact ⟨rfl, rfl⟩
    | (refine Fin.bool ?_ rfl)
    | (refine Fin.int ?_ rfl)
    | (refine Fin.str ?_ rfl)
    | (refine Fin.sl ?_ rfl)
    | exact trivial)
  all_goals
    refine ⟨i + 1, by omega, by dsimp only; omega, ?_⟩
    conv => whnf
    repeat (first | exact True.intro | (refine Need.mk ?_ ?_; (focus ((first | rfl | assumption | omega | (simp only [List.length_map, List.length_append, List.length_take, List.length_drop, List.length_cons, List.length_nil, List.length_replicate, List.length_set, List.length_reverse, nds_len, numsD_length]; omega) | simp [hat, at1]); done)); conv => whnf) | ((conv => whnf); exact True.intro))
theorem startR (nm : Str) (l : List Attr) (hnm : nm.length ≤ 1048576) (hl : l.length ≤ 1048576) (hb : ∀ a ∈ l, a.name.length ≤ 1048576 ∧ a.value.length ≤ 1048576) : CallWP Try.prog 58 [(.d (.str (nm))), .d (.sl (l.map Attr.d))] [] (fun r h => r = .d (.str ([60] ++ nm ++ atts l)) ∧ h = []) := by
  (refine CallWP.go tabOK Try.func58 0 29 rfl rfl rfl rfl ?_; conv => whnf)
  repeat' (first
    | (refine Br.tt ?_; conv => whnf)
    | (refine Br.ff ?_; conv => whnf)
    | (refine Both.mk ?_ ?_ <;> conv => whnf)
    | (refine Br.not ?_)
    | (refine Need.mk ?_ ?_; (focus ((first | omega | exact ⟨by omega, by omega⟩ | rfl | exact trivial | assumption | (simp only [List.length_map, List.length_append, List.length_take, List.length_drop, List.length_cons, List.length_nil, List.length_replicate, List.length_set, List.length_reverse, nds_len, numsD_length]; omega) | (simp only [List.length_map, List.length_append, List.length_take, List.length_drop, List.length_cons, List.length_nil, List.length_replicate, List.length_set, List.length_reverse, nds_len, numsD_length]; exact ⟨by omega, by omega⟩) | exact nds_each | (refine map_each ?_; intro x; rfl) | (refine first_map ?_; intro x; rfl) | exact first_nds | simp | (simp; omega)); done)); conv => whnf)
    | (refine Br.t (by assumption) ?_; conv => whnf)
    | (refine Br.f (by assumption) ?_; conv => whnf)
    | (refine Br.self ?_; conv => whnf)
    | (refine Br.decT (by assumption) ?_; conv => whnf)
    | (refine Br.decF (by assumption) ?_; conv => whnf)
    | (refine Br.eqT (by assumption) ?_; conv => whnf)
    | (refine Br.eqF (by assumption) ?_; conv => whnf)
    | (refine Br.dec (fun hc => ?_) (fun hc => ?_) <;> (try simp only [List.length_map, List.length_append, List.length_take, List.length_drop, List.length_cons, List.length_nil, List.length_replicate, List.length_set, List.length_reverse, nds_len, numsD_length] at hc) <;> first | (exfalso; omega) | exact absurd trivial hc | exact absurd rfl hc | conv => whnf)
    | (refine Br.eq (fun hc => ?_) (fun hc => ?_) <;> first | (exfalso; omega) | exact absurd trivial hc | exact absurd rfl hc | conv => whnf)
    | (refine Br.ne (fun hc => ?_) (fun hc => ?_) <;> first | (exfalso; omega) | exact absurd trivial hc | exact absurd rfl hc | conv => whnf)
    | (with_reducible refine Br.and ?_)
    | (with_reducible refine Br.or ?_)
    | (refine Br.any (fun hc => ?_) (fun hc => ?_) <;> conv => whnf)
    | (refine Fit.inl ?_ ?_; (focus ((first | omega | exact ⟨by omega, by omega⟩ | rfl | exact trivial | assumption | (simp only [List.length_map, List.length_append, List.length_take, List.length_drop, List.length_cons, List.length_nil, List.length_replicate, List.length_set, List.length_reverse, nds_len, numsD_length]; omega) | (simp only [List.length_map, List.length_append, List.length_take, List.length_drop, List.length_cons, List.length_nil, List.length_replicate, List.length_set, List.length_reverse, nds_len, numsD_length]; exact ⟨by omega, by omega⟩) | exact nds_each | (refine map_each ?_; intro x; rfl) | (refine first_map ?_; intro x; rfl) | exact first_nds | simp | (simp; omega)); done)); conv => whnf)
    | (refine Each.mapAt (by assumption) ?_; conv => whnf)
    | (refine Each.ndsAt (by assumption) ?_; conv => whnf)
    | (refine Each.at (by assumption) ?_; conv => whnf)
    | (refine Each.map (fun x hx => ?_); (try simp only [Int.toNat_natCast, Int.toNat_zero, Int.toNat_one, Int.toNat_natCast_add_one] at hx); conv => whnf)
    | (refine Each.nds (fun a b c ps hx => ?_); (try simp only [Int.toNat_natCast, Int.toNat_zero, Int.toNat_one, Int.toNat_natCast_add_one] at hx); conv => whnf)
    | (refine Each.rep ?_; conv => whnf)
    | (refine Each.drop ?_)
    | (refine Each.take (fun hi => ?_))
    | (refine Each.any (fun x hx => ?_); (try simp only [Int.toNat_natCast, Int.toNat_zero, Int.toNat_one, Int.toNat_natCast_add_one] at hx); conv => whnf)
    | (refine NilB.any (fun hn => ?_) ?_ <;> conv => whnf)
    | (refine ⟨_, bytesOfD_nums _, ?_⟩; conv => whnf)
    | (refine WP.sch (id := 5) tabOK hmix (.mob 0 (.mob 1 (.mob 5 (.alt [(2, .mob 3 (.mob 4 (.alt [(6, .alt [(7, .mob 8 (.mob 9 (.mob 10 (.mob 11 (.done)))))])]))), (6, .alt [(2, .mob 3 (.mob 4 (.alt [(7, .mob 8 (.mob 9 (.mob 10 (.mob 11 (.done)))))]))), (7, .alt [(2, .mob 3 (.mob 4 (.mob 8 (.mob 9 (.mob 10 (.mob 11 (.done)))))))])])])))) (by kernel_rfl) ?_; conv => whnf)
    | exact ⟨rfl, rfl⟩
    | (refine Fin.bool ?_ rfl)
    | (refine Fin.int ?_ rfl)
    | (refine Fin.str ?_ rfl)
    | (refine Fin.sl ?_ rfl)
    | exact trivial)
  refine WP.loop (α := Nat) tabOK (fun i => i ≤ l.length) (fun i => ⟨[(5, (.d (.str ([60] ++ nm ++ atts (l.take i))))), (10, (.d (.sl (l.map Attr.d)))), (11, (.d (.int .i64 ((l.map Attr.d).length)))), (12, (.d (.int .i64 (i))))], [], 0, 29⟩) (fun i => l.length - i) (0) ?_ ?_ ?_
  · exact Nat.zero_le _
  · conv => whnf
    repeat (first | exact True.intro | (refine Need.mk ?_ ?_; (focus ((first | rfl | assumption | omega | (simp only [List.length_map, List.length_append, List.length_take, List.length_drop, List.length_cons, List.length_nil, List.length_replicate, List.length_set, List.length_reverse, nds_len, numsD_length]; omega) | simp [atts]); done)); conv => whnf) | ((conv => whnf); exact True.intro))
  intro i hi
  have hal := atts_len (B := 1048576) (l := l.take i) fun a ha => hb a (List.mem_of_mem_take ha)
  rw [List.length_take] at hal
  have hal2 : (atts (l.take i)).length ≤ 1048576 * (4 + 7 * 1048576) := Nat.le_trans hal (Nat.mul_le_mul_right _ (by omega))
  by_cases hlt : i < l.length
  case neg =>
    have e : l.take i = l := List.take_of_length_le (by omega)
    rw [e] at hal2 ⊢
    conv => whnf
    repeat' (first
    | (refine Br.tt ?_; conv => whnf)
    | (refine Br.ff ?_; conv => whnf)
    | (refine Both.mk ?_ ?_ <;> conv => whnf)
    | (refine Br.not ?_)
    | (refine Need.mk ?_ ?_; (focus ((first | omega | exact ⟨by omega, by omega⟩ | rfl | exact trivial | assumption | (simp only [List.length_map, List.length_append, List.length_take, List.length_drop, List.length_cons, List.length_nil, List.length_replicate, List.length_set, List.length_reverse, nds_len, numsD_length]; omega) | (simp only [List.length_map, List.length_append, List.length_take, List.length_drop, List.length_cons, List.length_nil, List.length_replicate, List.length_set, List.length_reverse, nds_len, numsD_length]; exact ⟨by omega, by omega⟩) | exact nds_each | (refine map_each ?_; intro x; rfl) | (refine first_map ?_; intro x; rfl) | exact first_nds | simp | (simp; omega)); done)); conv => whnf)
    | (refine Br.t (by assumption) ?_; conv => whnf)
    | (refine Br.f (by assumption) ?_; conv => whnf)
    | (refine Br.self ?_; conv => whnf)
    | (refine Br.decT (by assumption) ?_; conv => whnf)
    | (refine Br.decF (by assumption) ?_; conv => whnf)
    | (refine Br.eqT (by assumption) ?_; conv => whnf)
    | (refine Br.eqF (by assumption) ?_; conv => whnf)
    | (refine Br.dec (fun hc => ?_) (fun hc => ?_) <;> (try simp only [List.length_map, List.length_append, List.length_take, List.length_drop, List.length_cons, List.length_nil, List.length_replicate, List.length_set, List.length_reverse, nds_len, numsD_length] at hc) <;> first | (exfalso; omega) | exact absurd trivial hc | exact absurd rfl hc | conv => whnf)
    | (refine Br.eq (fun hc => ?_) (fun hc => ?_) <;> first | (exfalso; omega) | exact absurd trivial hc | exact absurd rfl hc | conv => whnf)
    | (refine Br.ne (fun hc => ?_) (fun hc => ?_) <;> first | (exfalso; omega) | exact absurd trivial hc | exact absurd rfl hc | conv => whnf)
    | (with_reducible refine Br.and ?_)
    | (with_reducible refine Br.or ?_)
    | (refine Br.any (fun hc => ?_) (fun hc => ?_) <;> conv => whnf)
    | (refine Fit.inl ?_ ?_; (focus ((first | omega | exact ⟨by omega, by omega⟩ | rfl | exact trivial | assumption | (simp only [List.length_map, List.length_append, List.length_take, List.length_drop, List.length_cons, List.length_nil, List.length_replicate, List.length_set, List.length_reverse, nds_len, numsD_length]; omega) | (simp only [List.length_map, List.length_append, List.length_take, List.length_drop, List.length_cons, List.length_nil, List.length_replicate, List.length_set, List.length_reverse, nds_len, numsD_length]; exact ⟨by omega, by omega⟩) | exact nds_each | (refine map_each ?_; intro x; rfl) | (refine first_map ?_; intro x; rfl) | exact first_nds | simp | (simp; omega)); done)); conv => whnf)
    | (refine Each.mapAt (by assumption) ?_; conv => whnf)
    | (refine Each.ndsAt (by assumption) ?_; conv => whnf)
    | (refine Each.at (by assumption) ?_; conv => whnf)
    | (refine Each.map (fun x hx => ?_); (try simp only [Int.toNat_natCast, Int.toNat_zero, Int.toNat_one, Int.toNat_natCast_add_one] at hx); conv => whnf)
    | (refine Each.nds (fun a b c ps hx => ?_); (try simp only [Int.toNat_natCast, Int.toNat_zero, Int.toNat_one, Int.toNat_natCast_add_one] at hx); conv => whnf)
    | (refine Each.rep ?_; conv => whnf)
    | (refine Each.drop ?_)
    | (refine Each.take (fun hi => ?_))
    | (refine Each.any (fun x hx => ?_); (try simp only [Int.toNat_natCast, Int.toNat_zero, Int.toNat_one, Int.toNat_natCast_add_one] at hx); conv => whnf)
    | (refine NilB.any (fun hn => ?_) ?_ <;> conv => whnf)
    | (refine ⟨_, bytesOfD_nums _, ?_⟩; conv => whnf)
    | (refine WP.sch (id := 5) tabOK hmix (.mob 0 (.mob 1 (.mob 5 (.alt [(2, .mob 3 (.mob 4 (.alt [(6, .alt [(7, .mob 8 (.mob 9 (.mob 10 (.mob 11 (.done)))))])]))), (6, .alt [(2, .mob 3 (.mob 4 (.alt [(7, .mob 8 (.mob 9 (.mob 10 (.mob 11 (.done)))))]))), (7, .alt [(2, .mob 3 (.mob 4 (.mob 8 (.mob 9 (.mob 10 (.mob 11 (.done)))))))])])])))) (by kernel_rfl) ?_; conv => whnf)
    | exact ⟨rfl, rfl⟩
    | (refine Fin.bool ?_ rfl)
    | (refine Fin.int ?_ rfl)
    | (refine Fin.str ?_ rfl)
    | (refine Fin.sl ?_ rfl)
    | exact trivial)
  obtain ⟨a, ha⟩ : ∃ x, l[i]? = some x := ⟨l[i], by simp [hlt]⟩
  obtain ⟨b1, b2⟩ := hb a (List.mem_of_getElem? ha)
  have he := esc_len true a.value
  have hat := atts_at ha
  conv => whnf
  repeat' (first
    | (refine Br.tt ?_; conv => whnf)
    | (refine Br.ff ?_; conv => whnf)
    | (refine Both.mk ?_ ?_ <;> conv => whnf)
    | (refine Br.not ?_)
    | (refine Need.mk ?_ ?_; (focus ((first | omega | exact ⟨by omega, by omega⟩ | rfl | exact trivial | assumption | (simp only [List.length_map, List.length_append, List.length_take, List.length_drop, List.length_cons, List.length_nil, List.length_replicate, List.length_set, List.length_reverse, nds_len, numsD_length]; omega) | (simp only [List.length_map, List.length_append, List.length_take, List.length_drop, List.length_cons, List.length_nil, List.length_replicate, List.length_set, List.length_reverse, nds_len, numsD_length]; exact ⟨by omega, by omega⟩) | exact nds_each | (refine map_each ?_; intro x; rfl) | (refine first_map ?_; intro x; rfl) | exact first_nds | simp | (simp; omega)); done)); conv => whnf)
    | (refine Br.t (by assumption) ?_; conv => whnf)
    | (refine Br.f (by assumption) ?_; conv => whnf)
    | (refine Br.self ?_; conv => whnf)
    | (refine Br.decT (by assumption) ?_; conv => whnf)
    | (refine Br.decF (by assumption) ?_; conv => whnf)
    | (refine Br.eqT (by assumption) ?_; conv => whnf)
    | (refine Br.eqF (by assumption) ?_; conv => whnf)
    | (refine Br.dec (fun hc => ?_) (fun hc => ?_) <;> (try simp only [List.length_map, List.length_append, List.length_take, List.length_drop, List.length_cons, List.length_nil, List.length_replicate, List.length_set, List.length_reverse, nds_len, numsD_length] at hc) <;> first | (exfalso; omega) | exact absurd trivial hc | exact absurd rfl hc | conv => whnf)
    | (refine Br.eq (fun hc => ?_) (fun hc => ?_) <;> first | (exfalso; omega) | exact absurd trivial hc | exact absurd rfl hc | conv => whnf)
    | (refine Br.ne (fun hc => ?_) (fun hc => ?_) <;> first | (exfalso; omega) | exact absurd trivial hc | exact absurd rfl hc | conv => whnf)
    | (with_reducible refine Br.and ?_)
    | (with_reducible refine Br.or ?_)
    | (refine Br.any (fun hc => ?_) (fun hc => ?_) <;> conv => whnf)
    | (refine Fit.inl ?_ ?_; (focus ((first | omega | exact ⟨by omega, by omega⟩ | rfl | exact trivial | assumption | (simp only [List.length_map, List.length_append, List.length_take, List.length_drop, List.length_cons, List.length_nil, List.length_replicate, List.length_set, List.length_reverse, nds_len, numsD_length]; omega) | (simp only [List.length_map, List.length_append, List.length_take, List.length_drop, List.length_cons, List.length_nil, List.length_replicate, List.length_set, List.length_reverse, nds_len, numsD_length]; exact ⟨by omega, by omega⟩) | exact nds_each | (refine map_each ?_; intro x; rfl) | (refine first_map ?_; intro x; rfl) | exact first_nds | simp | (simp; omega)); done)); conv => whnf)
    | (refine Each.mapAt (by assumption) ?_; conv => whnf)
    | (refine Each.ndsAt (by assumption) ?_; conv => whnf)
    | (refine Each.at (by assumption) ?_; conv => whnf)
    | (refine Each.map (fun x hx => ?_); (try simp only [Int.toNat_natCast, Int.toNat_zero, Int.toNat_one, Int.toNat_natCast_add_one] at hx); conv => whnf)
    | (refine Each.nds (fun a b c ps hx => ?_); (try simp only [Int.toNat_natCast, Int.toNat_zero, Int.toNat_one, Int.toNat_natCast_add_one] at hx); conv => whnf)
    | (refine Each.rep ?_; conv => whnf)
    | (refine Each.drop ?_)
    | (refine Each.take (fun hi => ?_))
    | (refine Each.any (fun x hx => ?_); (try simp only [Int.toNat_natCast, Int.toNat_zero, Int.toNat_one, Int.toNat_natCast_add_one] at hx); conv => whnf)
    | (refine NilB.any (fun hn => ?_) ?_ <;> conv => whnf)
    | (refine CallWP.mono (escR a.value true (by omega)) ?_; rintro r h ⟨rfl, rfl⟩; conv => whnf)
    | (refine ⟨_, bytesOfD_nums _, ?_⟩; conv => whnf)
    | (refine WP.sch (id := 5) tabOK hmix (.mob 0 (.mob 1 (.mob 5 (.alt [(2, .mob 3 (.mob 4 (.alt [(6, .alt [(7, .mob 8 (.mob 9 (.mob 10 (.mob 11 (.done)))))])]))), (6, .alt [(2, .mob 3 (.mob 4 (.alt [(7, .mob 8 (.mob 9 (.mob 10 (.mob 11 (.done)))))]))), (7, .alt [(2, .mob 3 (.mob 4 (.mob 8 (.mob 9 (.mob 10 (.mob 11 (.done)))))))])])])))) (by kernel_rfl) ?_; conv => whnf)
    | exact ⟨rfl, rfl⟩
    | (refine Fin.bool ?_ rfl)
    | (refine Fin.int ?_ rfl)
    | (refine Fin.str ?_ rfl)
    | (refine Fin.sl ?_ rfl)
    | exact trivial)
  all_goals
    refine ⟨i + 1, by omega, by dsimp only; omega, ?_⟩
    conv => whnf
    repeat (first | exact True.intro | (refine Need.mk ?_ ?_; (focus ((first | rfl | assumption | omega | (simp only [List.length_map, List.length_append, List.length_take, List.length_drop, List.length_cons, List.length_nil, List.length_replicate, List.length_set, List.length_reverse, nds_len, numsD_length]; omega) | simp [hat, at1]); done)); conv => whnf) | ((conv => whnf); exact True.intro))
end Go.VL.Tag
