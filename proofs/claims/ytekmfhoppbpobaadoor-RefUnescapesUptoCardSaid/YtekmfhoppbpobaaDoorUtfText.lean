/- utf.Text and its reference answer alike. -/
import Derived.Test.YtekmfhoppbpobaaDoorUtfBytes
set_option linter.unusedVariables false
set_option linter.unusedSimpArgs false
namespace Go.VL.UtfText
open Go Go.Proofs Go.VL Go.VL.UtfBytes
set_option maxRecDepth 100000
theorem Fit.inr {k : IntKind} {n : Int} {K : T → Prop} (hk : K (.d (.int k (k.wrap n)))) : fit k n K := .inr hk
attribute [local irreducible] CallWP WP Need Br Each NilB fit Both
theorem validC (n : Int) : CallWP Tryd.prog 55 [.d (.int .i32 n)] [] (fun r h => r = .d (.bool (letter n)) ∧ h = []) := by
  (refine CallWP.go tabOK Tryd.func55 0 17 rfl rfl rfl rfl ?_; conv => whnf)
  repeat' (first
    | (refine Br.tt ?_; conv => whnf)
    | (refine Br.ff ?_; conv => whnf)
    | (refine Both.mk ?_ ?_ <;> conv => whnf)
    | (refine Br.not ?_)
    | (refine Need.mk ?_ ?_; (focus ((first | omega | exact ⟨by omega, by omega⟩ | rfl | exact trivial | assumption | (simp only [List.length_map, List.length_append, List.length_take, List.length_drop, List.length_cons, List.length_nil, List.length_replicate, List.length_set, List.length_reverse, nds_len, numsD_length]; omega) | (simp only [List.length_map, List.length_append, List.length_take, List.length_drop, List.length_cons, List.length_nil, List.length_replicate, List.length_set, List.length_reverse, nds_len, numsD_length]; exact ⟨by omega, by omega⟩) | exact nds_each | (refine map_each ?_; intro x; rfl) | (refine first_map ?_; intro x; rfl) | exact first_nds | simp | (simp; omega)); done)); conv => whnf)
    | (refine Br.t (by assumption) ?_; conv => whnf)
    | (refine Br.f (by assumption) ?_; conv => whnf)
    | (refine Br.self ?_; conv => whnf)
    | (refine Br.decT (by assumption) ?_; conv => whnf)
    | (refine Br.decF (by assumption) ?_; conv => whnf)
    | (refine Br.eqT (by assumption) ?_; conv => whnf)
    | (refine Br.eqF (by assumption) ?_; conv => whnf)
    | (refine Br.dec (fun hc => ?_) (fun hc => ?_) <;> (try simp only [List.length_map, List.length_append, List.length_take, List.length_drop, List.length_cons, List.length_nil, List.length_replicate, List.length_set, List.length_reverse, nds_len, numsD_length] at hc) <;> first | (exfalso; omega) | exact absurd trivial hc | exact absurd rfl hc | conv => whnf)
    | (refine Br.eq (fun hc => ?_) (fun hc => ?_) <;> first | (exfalso; omega) | exact absurd trivial hc | exact absurd rfl hc | conv => whnf)
    | (refine Br.ne (fun hc => ?_) (fun hc => ?_) <;> first | (exfalso; omega) | exact absurd trivial hc | exact absurd rfl hc | conv => whnf)
    | (with_reducible refine Br.and ?_)
    | (with_reducible refine Br.or ?_)
    | (refine Br.any (fun hc => ?_) (fun hc => ?_) <;> conv => whnf)
    | (refine Fit.inl ?_ ?_; (focus ((first | omega | exact ⟨by omega, by omega⟩ | rfl | exact trivial | assumption | (simp only [List.length_map, List.length_append, List.length_take, List.length_drop, List.length_cons, List.length_nil, List.length_replicate, List.length_set, List.length_reverse, nds_len, numsD_length]; omega) | (simp only [List.length_map, List.length_append, List.length_take, List.length_drop, List.length_cons, List.length_nil, List.length_replicate, List.length_set, List.length_reverse, nds_len, numsD_length]; exact ⟨by omega, by omega⟩) | exact nds_each | (refine map_each ?_; intro x; rfl) | (refine first_map ?_; intro x; rfl) | exact first_nds | simp | (simp; omega)); done)); conv => whnf)
    | (refine Each.mapAt (by assumption) ?_; conv => whnf)
    | (refine Each.ndsAt (by assumption) ?_; conv => whnf)
    | (refine Each.at (by assumption) ?_; conv => whnf)
    | (refine Each.map (fun x hx => ?_); (try simp only [Int.toNat_natCast, Int.toNat_zero, Int.toNat_one, Int.toNat_natCast_add_one] at hx); conv => whnf)
    | (refine Each.nds (fun a b c ps hx => ?_); (try simp only [Int.toNat_natCast, Int.toNat_zero, Int.toNat_one, Int.toNat_natCast_add_one] at hx); conv => whnf)
    | (refine Each.rep ?_; conv => whnf)
    | (refine Each.drop ?_)
    | (refine Each.take (fun hi => ?_))
    | (refine Each.any (fun x hx => ?_); (try simp only [Int.toNat_natCast, Int.toNat_zero, Int.toNat_one, Int.toNat_natCast_add_one] at hx); conv => whnf)
    | (refine NilB.any (fun hn => ?_) ?_ <;> conv => whnf)
    | (refine ⟨_, bytesOfD_nums _, ?_⟩; conv => whnf)
    | exact ⟨rfl, rfl⟩
    | (refine Fin.bool ?_ rfl)
    | (refine Fin.int ?_ rfl)
    | (refine Fin.str ?_ rfl)
    | (refine Fin.sl ?_ rfl)
    | exact trivial)
  all_goals
    cases hl : letter n
    all_goals simp only [letter, Bool.and_eq_true, Bool.or_eq_true, decide_eq_true_eq, Bool.and_eq_false_iff, Bool.or_eq_false_iff, decide_eq_false_iff_not] at hl
    all_goals first | rfl | (exfalso; omega)
theorem wrap8 (n : Int) : IntKind.u8.wrap n = n % 256 := by simp [IntKind.wrap, IntKind.bits, IntKind.signed]
theorem or8 (c : Int) (m : Nat) (h : ∀ y : Fin m, bitsI .or .u8 c (y.val : Int) = c + y.val) {y : Int} (h0 : 0 ≤ y) (h1 : y < m) : bitsI .or .u8 c y = c + y := by
  have := h ⟨y.toNat, by omega⟩
  have e : ((y.toNat : Nat) : Int) = y := by omega
  simpa only [e] using this
theorem and63 {y : Int} (h0 : 0 ≤ y) (h1 : y < 256) : bitsI .and .u8 y 63 = y % 64 := by
  have h : ∀ y : Fin 256, bitsI .and .u8 (y.val : Int) 63 = (y.val : Int) % 64 := by decide +kernel
  have := h ⟨y.toNat, by omega⟩
  have e : ((y.toNat : Nat) : Int) = y := by omega
  simpa only [e] using this
theorem low8 (y : Int) : bitsI .or .u8 128 (bitsI .and .u8 (IntKind.u8.wrap y) 63) = 128 + y % 64 := by
  rw [wrap8, and63 (by omega) (by omega), or8 128 64 (by decide +kernel) (by omega) (by omega)]
  omega
theorem hi2 {y : Int} (h0 : 0 ≤ y) (h1 : y < 32) : bitsI .or .u8 192 (IntKind.u8.wrap y) = 192 + y := by
  rw [wrap8, or8 192 32 (by decide +kernel) (by omega) (by omega)]; omega
theorem hi3 {y : Int} (h0 : 0 ≤ y) (h1 : y < 16) : bitsI .or .u8 224 (IntKind.u8.wrap y) = 224 + y := by
  rw [wrap8, or8 224 16 (by decide +kernel) (by omega) (by omega)]; omega
theorem hi4 {y : Int} (h0 : 0 ≤ y) (h1 : y < 8) : bitsI .or .u8 240 (IntKind.u8.wrap y) = 240 + y := by
  rw [wrap8, or8 240 8 (by decide +kernel) (by omega) (by omega)]; omega
theorem sh6 (n : Int) : n.fdiv (2 ^ min (Int.toNat 6) IntKind.i32.bits) = n / 64 := Int.fdiv_eq_ediv_of_nonneg n (b := 64) (by omega)
theorem sh12 (n : Int) : n.fdiv (2 ^ min (Int.toNat 12) IntKind.i32.bits) = n / 4096 := Int.fdiv_eq_ediv_of_nonneg n (b := 4096) (by omega)
theorem sh18 (n : Int) : n.fdiv (2 ^ min (Int.toNat 18) IntKind.i32.bits) = n / 262144 := Int.fdiv_eq_ediv_of_nonneg n (b := 262144) (by omega)
theorem nonAscii (n : Int) (es : List (List D)) (hn : 0 ≤ n) (h1 : 128 ≤ n) (h2 : n ≤ 2147483647) (hl : es.length < 2 ^ 40) (hes : ∀ c ∈ es, c.length = 1) : CallWP Tryd.prog 57 [.full 0, .d (.int .i32 n)] [(0, .row 5 es)] (fun r h => r = .full 1 ∧ h = [(1, .row 5 (es ++ encC n))]) := by
  (refine CallWP.goM tabOK [0] Tryd.func57 1 78 rfl rfl rfl rfl ?_; conv => whnf)
  repeat' (first
    | (refine Br.tt ?_; conv => whnf)
    | (refine Br.ff ?_; conv => whnf)
    | (refine Both.mk ?_ ?_ <;> conv => whnf)
    | (refine Br.not ?_)
    | (refine Need.mk ?_ ?_; (focus ((first | omega | exact ⟨by omega, by omega⟩ | rfl | exact trivial | assumption | (simp only [List.length_map, List.length_append, List.length_take, List.length_drop, List.length_cons, List.length_nil, List.length_replicate, List.length_set, List.length_reverse, nds_len, numsD_length]; omega) | (simp only [List.length_map, List.length_append, List.length_take, List.length_drop, List.length_cons, List.length_nil, List.length_replicate, List.length_set, List.length_reverse, nds_len, numsD_length]; exact ⟨by omega, by omega⟩) | exact nds_each | (refine map_each ?_; intro x; rfl) | (refine first_map ?_; intro x; rfl) | exact first_nds | simp | (simp; omega)); done)); conv => whnf)
    | (refine Br.t (by assumption) ?_; conv => whnf)
    | (refine Br.f (by assumption) ?_; conv => whnf)
    | (refine Br.self ?_; conv => whnf)
    | (refine Br.decT (by assumption) ?_; conv => whnf)
    | (refine Br.decF (by assumption) ?_; conv => whnf)
    | (refine Br.eqT (by assumption) ?_; conv => whnf)
    | (refine Br.eqF (by assumption) ?_; conv => whnf)
    | (refine Br.dec (fun hc => ?_) (fun hc => ?_) <;> (try simp only [List.length_map, List.length_append, List.length_take, List.length_drop, List.length_cons, List.length_nil, List.length_replicate, List.length_set, List.length_reverse, nds_len, numsD_length] at hc) <;> first | (exfalso; omega) | exact absurd trivial hc | exact absurd rfl hc | conv => whnf)
    | (refine Br.eq (fun hc => ?_) (fun hc => ?_) <;> first | (exfalso; omega) | exact absurd trivial hc | exact absurd rfl hc | conv => whnf)
    | (refine Br.ne (fun hc => ?_) (fun hc => ?_) <;> first | (exfalso; omega) | exact absurd trivial hc | exact absurd rfl hc | conv => whnf)
    | (with_reducible refine Br.and ?_)
    | (with_reducible refine Br.or ?_)
    | (refine Br.any (fun hc => ?_) (fun hc => ?_) <;> conv => whnf)
    | (refine Fit.inl ?_ ?_; (focus ((first | omega | exact ⟨by omega, by omega⟩ | rfl | exact trivial | assumption | (simp only [List.length_map, List.length_append, List.length_take, List.length_drop, List.length_cons, List.length_nil, List.length_replicate, List.length_set, List.length_reverse, nds_len, numsD_length]; omega) | (simp only [List.length_map, List.length_append, List.length_take, List.length_drop, List.length_cons, List.length_nil, List.length_replicate, List.length_set, List.length_reverse, nds_len, numsD_length]; exact ⟨by omega, by omega⟩) | exact nds_each | (refine map_each ?_; intro x; rfl) | (refine first_map ?_; intro x; rfl) | exact first_nds | simp | (simp; omega)); done)); conv => whnf)
    | (refine Each.mapAt (by assumption) ?_; conv => whnf)
    | (refine Each.ndsAt (by assumption) ?_; conv => whnf)
    | (refine Each.at (by assumption) ?_; conv => whnf)
    | (refine Each.map (fun x hx => ?_); (try simp only [Int.toNat_natCast, Int.toNat_zero, Int.toNat_one, Int.toNat_natCast_add_one] at hx); conv => whnf)
    | (refine Each.nds (fun a b c ps hx => ?_); (try simp only [Int.toNat_natCast, Int.toNat_zero, Int.toNat_one, Int.toNat_natCast_add_one] at hx); conv => whnf)
    | (refine Each.rep ?_; conv => whnf)
    | (refine Each.drop ?_)
    | (refine Each.take (fun hi => ?_))
    | (refine Each.any (fun x hx => ?_); (try simp only [Int.toNat_natCast, Int.toNat_zero, Int.toNat_one, Int.toNat_natCast_add_one] at hx); conv => whnf)
    | (refine NilB.any (fun hn => ?_) ?_ <;> conv => whnf)
    | (refine Fit.inr ?_; conv => whnf)
    | (refine ⟨_, bytesOfD_nums _, ?_⟩; conv => whnf)
    | exact ⟨rfl, rfl⟩
    | (refine Fin.bool ?_ rfl)
    | (refine Fin.int ?_ rfl)
    | (refine Fin.str ?_ rfl)
    | (refine Fin.sl ?_ rfl)
    | exact trivial)
  · rw [sh6, low8, hi2 (by omega) (by omega)]
    have e : encC n = [[D.int .u8 (192 + n / 64)], [D.int .u8 (128 + n % 64)]] := by rw [encC, Lib.encodeRuneZ_two (by omega) (by omega)]; rfl
    rw [e]; exact ⟨rfl, rfl⟩
  · rw [sh6, sh12, low8, low8, hi3 (by omega) (by omega)]
    have e : encC n = [[D.int .u8 (224 + n / 4096)], [D.int .u8 (128 + n / 64 % 64)], [D.int .u8 (128 + n % 64)]] := by rw [encC, Lib.encodeRuneZ_three (by omega)]; rfl
    rw [e]; exact ⟨rfl, rfl⟩
  · rw [sh6, sh12, low8, low8, hi3 (by omega) (by omega)]
    have e : encC n = [[D.int .u8 (224 + n / 4096)], [D.int .u8 (128 + n / 64 % 64)], [D.int .u8 (128 + n % 64)]] := by rw [encC, Lib.encodeRuneZ_three (by omega)]; rfl
    rw [e]; exact ⟨rfl, rfl⟩
  · rw [sh6, sh12, sh18, low8, low8, low8, hi4 (by omega) (by omega)]
    have e : encC n = [[D.int .u8 (240 + n / 262144)], [D.int .u8 (128 + n / 4096 % 64)], [D.int .u8 (128 + n / 64 % 64)], [D.int .u8 (128 + n % 64)]] := by rw [encC, Lib.encodeRuneZ_four (by omega) (by omega)]; rfl
    rw [e]; exact ⟨rfl, rfl⟩
  all_goals
    have e : encC n = [[D.int .u8 239], [D.int .u8 191], [D.int .u8 189]] := by
      unfold encC Lib.encodeRuneZ
      rw [if_neg (by omega), if_neg (by omega), if_neg (by omega), if_neg (by omega)]; rfl
    rw [e]; exact ⟨rfl, rfl⟩
theorem appendC (n : Int) (es : List (List D)) (hn : 0 ≤ n) (h2 : n ≤ 2147483647) (hl : es.length < 2 ^ 40) (hes : ∀ c ∈ es, c.length = 1) : CallWP Tryd.prog 39 [.full 0, .d (.int .i32 n)] [(0, .row 5 es)] (fun r h => r = .full 1 ∧ h = [(1, .row 5 (es ++ encC n))]) := by
  (refine CallWP.goM tabOK [0] Tryd.func39 1 16 rfl rfl rfl rfl ?_; conv => whnf)
  repeat' (first
    | (refine Br.tt ?_; conv => whnf)
    | (refine Br.ff ?_; conv => whnf)
    | (refine Both.mk ?_ ?_ <;> conv => whnf)
    | (refine Br.not ?_)
    | (refine Need.mk ?_ ?_; (focus ((first | omega | exact ⟨by omega, by omega⟩ | rfl | exact trivial | assumption | (simp only [List.length_map, List.length_append, List.length_take, List.length_drop, List.length_cons, List.length_nil, List.length_replicate, List.length_set, List.length_reverse, nds_len, numsD_length]; omega) | (simp only [List.length_map, List.length_append, List.length_take, List.length_drop, List.length_cons, List.length_nil, List.length_replicate, List.length_set, List.length_reverse, nds_len, numsD_length]; exact ⟨by omega, by omega⟩) | exact nds_each | (refine map_each ?_; intro x; rfl) | (refine first_map ?_; intro x; rfl) | exact first_nds | simp | (simp; omega)); done)); conv => whnf)
    | (refine Br.t (by assumption) ?_; conv => whnf)
    | (refine Br.f (by assumption) ?_; conv => whnf)
    | (refine Br.self ?_; conv => whnf)
    | (refine Br.decT (by assumption) ?_; conv => whnf)
    | (refine Br.decF (by assumption) ?_; conv => whnf)
    | (refine Br.eqT (by assumption) ?_; conv => whnf)
    | (refine Br.eqF (by assumption) ?_; conv => whnf)
    | (refine Br.dec (fun hc => ?_) (fun hc => ?_) <;> (try simp only [List.length_map, List.length_append, List.length_take, List.length_drop, List.length_cons, List.length_nil, List.length_replicate, List.length_set, List.length_reverse, nds_len, numsD_length] at hc) <;> first | (exfalso; omega) | exact absurd trivial hc | exact absurd rfl hc | conv => whnf)
    | (refine Br.eq (fun hc => ?_) (fun hc => ?_) <;> first | (exfalso; omega) | exact absurd trivial hc | exact absurd rfl hc | conv => whnf)
    | (refine Br.ne (fun hc => ?_) (fun hc => ?_) <;> first | (exfalso; omega) | exact absurd trivial hc | exact absurd rfl hc | conv => whnf)
    | (with_reducible refine Br.and ?_)
    | (with_reducible refine Br.or ?_)
    | (refine Br.any (fun hc => ?_) (fun hc => ?_) <;> conv => whnf)
    | (refine Fit.inl ?_ ?_; (focus ((first | omega | exact ⟨by omega, by omega⟩ | rfl | exact trivial | assumption | (simp only [List.length_map, List.length_append, List.length_take, List.length_drop, List.length_cons, List.length_nil, List.length_replicate, List.length_set, List.length_reverse, nds_len, numsD_length]; omega) | (simp only [List.length_map, List.length_append, List.length_take, List.length_drop, List.length_cons, List.length_nil, List.length_replicate, List.length_set, List.length_reverse, nds_len, numsD_length]; exact ⟨by omega, by omega⟩) | exact nds_each | (refine map_each ?_; intro x; rfl) | (refine first_map ?_; intro x; rfl) | exact first_nds | simp | (simp; omega)); done)); conv => whnf)
    | (refine Each.mapAt (by assumption) ?_; conv => whnf)
    | (refine Each.ndsAt (by assumption) ?_; conv => whnf)
    | (refine Each.at (by assumption) ?_; conv => whnf)
    | (refine Each.map (fun x hx => ?_); (try simp only [Int.toNat_natCast, Int.toNat_zero, Int.toNat_one, Int.toNat_natCast_add_one] at hx); conv => whnf)
    | (refine Each.nds (fun a b c ps hx => ?_); (try simp only [Int.toNat_natCast, Int.toNat_zero, Int.toNat_one, Int.toNat_natCast_add_one] at hx); conv => whnf)
    | (refine Each.rep ?_; conv => whnf)
    | (refine Each.drop ?_)
    | (refine Each.take (fun hi => ?_))
    | (refine Each.any (fun x hx => ?_); (try simp only [Int.toNat_natCast, Int.toNat_zero, Int.toNat_one, Int.toNat_natCast_add_one] at hx); conv => whnf)
    | (refine NilB.any (fun hn => ?_) ?_ <;> conv => whnf)
    | (refine CallWP.mono (nonAscii n es hn (by omega) h2 hl hes) ?_; rintro r h ⟨rfl, rfl⟩; conv => whnf)
    | (refine ⟨_, bytesOfD_nums _, ?_⟩; conv => whnf)
    | exact ⟨rfl, rfl⟩
    | (refine Fin.bool ?_ rfl)
    | (refine Fin.int ?_ rfl)
    | (refine Fin.str ?_ rfl)
    | (refine Fin.sl ?_ rfl)
    | exact trivial)
  · have e : encC n = [[D.int .u8 n]] := by rw [encC, Lib.encodeRuneZ_one hn (by omega)]; rfl
    rw [e]; exact ⟨rfl, rfl⟩
def E (l : List Int) : Str := (l.map Lib.encodeRune).flatten
theorem enc_len (n : Int) : (Lib.encodeRune n).length ≤ 4 := by
  unfold Lib.encodeRune Lib.encodeRuneZ
  (repeat' split) <;> simp
theorem E_len (l : List Int) : (E l).length ≤ 4 * l.length := by
  induction l with
  | nil => simp [E]
  | cons x r ih => have := enc_len x; simp only [E, List.map_cons, List.flatten_cons, List.length_append, List.length_cons] at ih ⊢; omega
theorem E_at {l : List Int} {i : Nat} {x : Int} (h : l[i]? = some x) : E (l.take (i + 1)) = E (l.take i) ++ Lib.encodeRune x := by
  rw [List.take_add_one, h]; simp [E]
def textF (l : List Int) : Str × Int := if l.all letter then (if (E l).length > 600 then ([], 1) else (E l, 0)) else ([], 2)
theorem not_all {l : List Int} {i : Nat} {x : Int} (h : l[i]? = some x) (hx : letter x = false) : l.all letter = false := by
  rw [List.all_eq_false]
  exact ⟨x, List.mem_of_getElem? h, by simp [hx]⟩
theorem all_of {l : List Int} {i : Nat} (h : ∀ (j : Nat) (y : Int), j < i → l[j]? = some y → (!letter y) = false) (hi : l.length ≤ i) : l.all letter = true := by
  rw [List.all_eq_true]
  intro x hx
  obtain ⟨j, hj⟩ := List.getElem?_of_mem hx
  have := h j x (by have := (List.getElem?_eq_some_iff.mp hj).1; omega) hj
  simpa using this
theorem nums_one (s : Str) : ∀ c ∈ numsD s, c.length = 1 := fun c hc => by
  obtain ⟨x, _, rfl⟩ := List.mem_map.mp hc; rfl
theorem appC (x : Int) (s : Str) (hx : letter x = true) (hl : s.length < 2 ^ 39) : CallWP Tryd.prog 39 [.full 0, .d (.int .i32 x)] [(0, .row 5 (numsD s))] (fun r h => r = .full 1 ∧ h = [(1, .row 5 (numsD (s ++ Lib.encodeRune x)))]) := by
  rw [letter_iff] at hx
  have e : numsD (s ++ Lib.encodeRune x) = numsD s ++ encC x := by rw [encC_nums]; simp [numsD]
  rw [e]
  exact appendC x (numsD s) hx.1 (by omega) (by rw [numsD_length]; omega) (nums_one s)
theorem bad {l : List Int} {i : Nat} {x : Int} (h : l[i]? = some x) (hx : letter x = false) : textF l = ([], 2) := by unfold textF; rw [not_all h hx]; rfl
end Go.VL.UtfText
