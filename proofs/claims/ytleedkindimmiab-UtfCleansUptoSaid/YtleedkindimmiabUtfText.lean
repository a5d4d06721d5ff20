/- utf.Text and its reference answer alike. -/
import Derived.Test.YtleedkindimmiabUtfBytes
set_option linter.unusedVariables false
set_option linter.unusedSimpArgs false
namespace Go.VL.UtfText
open Go Go.Proofs Go.VL Go.VL.UtfBytes
set_option maxRecDepth 100000
theorem Fit.inr {k : IntKind} {n : Int} {K : T → Prop} (hk : K (.d (.int k (k.wrap n)))) : fit k n K := .inr hk
attribute [local irreducible] CallWP WP Need Br Each NilB fit Both
theorem validC (n : Int) : CallWP Try.prog 38 [.d (.int .i32 n)] [] (fun r h => r = .d (.bool (letter n)) ∧ h = []) := by
  (refine CallWP.go tabOK Try.func38 0 17 rfl rfl rfl rfl ?_; conv => whnf)
  repeat' (first
    | (refine Br.tt ?_; conv => whnf)
    | (refine Br.ff ?_; conv => whnf)
    | (refine Both.mk ?_ ?_ <;> conv => whnf)
    | (refine Br.not ?_)
    | (refine Need.mk ?_ ?_; (focus ((first | omega | exact ⟨by omega, by omega⟩ | rfl | exact trivial | assumption | (simp only [List.length_map, List.length_append, List.length_take, List.length_drop, List.length_cons, List.length_nil, List.length_replicate, List.length_set, List.length_reverse, nds_len, numsD_length]; omega) | (simp only [List.length_map, List.length_append, List.length_take, List.length_drop, List.length_cons, List.length_nil, List.length_replicate, List.length_set, List.length_reverse, nds_len, numsD_length]; exact ⟨by omega, by omega⟩) | exact nds_each | (refine map_each ?_; intro x; rfl) | (refine first_map ?_; intro x; rfl) | exact first_nds | simp | (simp; omega)); done)); conv => whnf)
    | (refine Br.t (by assumption) ?_; conv => whnf)
    | (refine Br.f (by assumption) ?_; conv => whnf)
    | (refine Br.self ?_; conv => whnf)
    | (refine Br.decT (by assumption) ?_; conv => whnf)
    | (refine Br.decF (by assumption) ?_; conv => whnf)
    | (refine Br.eqT (by assumption) ?_; conv => whnf)
    | (refine Br.eqF (by assumption) ?_; conv => whnf)
    | (refine Br.dec (fun hc => ?_) (fun hc => ?_) <;> (try simp only [List.length_map, List.length_append, List.length_take, List.length_drop, List.length_cons, List.length_nil, List.length_replicate, List.length_set, List.length_reverse, nds_len, numsD_length] at hc) <;> first | (exfalso; omega) | exact absurd trivial hc | exact absurd rfl hc | conv => whnf)
    | (refine Br.eq (fun hc => ?_) (fun hc => ?_) <;> first | (exfalso; omega) | exact absurd trivial hc | exact absurd rfl hc | conv => whnf)
    | (refine Br.ne (fun hc => ?_) (fun hc => ?_) <;> first | (exfalso; omega) | exact absurd trivial hc | exact absurd rfl hc | conv => whnf)
    | (with_reducible refine Br.and ?_)
    | (with_reducible refine Br.or ?_)
    | (refine Br.any (fun hc => ?_) (fun hc => ?_) <;> conv => whnf)
    | (refine Fit.inl ?_ ?_; (focus ((first | omega | exact ⟨by omega, by omega⟩ | rfl | exact trivial | assumption | (simp only [List.length_map, List.length_append, List.length_take, List.length_drop, List.length_cons, List.length_nil, List.length_replicate, List.length_set, List.length_reverse, nds_len, numsD_length]; omega) | (simp only [List.length_map, List.length_append, List.length_take, List.length_drop, List.length_cons, List.length_nil, List.length_replicate, List.length_set, List.length_reverse, nds_len, numsD_length]; exact ⟨by omega, by omega⟩) | exact nds_each | (refine map_each ?_; intro x; rfl) | (refine first_map ?_; intro x; rfl) | exact first_nds | simp | (simp; omega)); done)); conv => whnf)
    | (refine Each.mapAt (by assumption) ?_; conv => whnf)
    | (refine Each.ndsAt (by assumption) ?_; conv => whnf)
    | (refine Each.at (by assumption) ?_; conv => whnf)
    | (refine Each.map (fun x hx => ?_); (try simp only [Int.toNat_natCast, Int.toNat_zero, Int.toNat_one, Int.toNat_natCast_add_one] at hx); conv => whnf)
    | (refine Each.nds (fun a b c ps hx => ?_); (try simp only [Int.toNat_natCast, Int.toNat_zero, Int.toNat_one, Int.toNat_natCast_add_one] at hx); conv => whnf)
    | (refine Each.rep ?_; conv => whnf)
    | (refine Each.drop ?_)
    | (refine Each.take (fun hi => ?_))
    | (refine Each.any (fun x hx => ?_); (try simp only [Int.toNat_natCast, Int.toNat_zero, Int.toNat_one, Int.toNat_natCast_add_one] at hx); conv => whnf)
    | (refine NilB.any (fun hn => ?_) ?_ <;> conv => whnf)
    | (refine ⟨_, bytesOfD_nums _, ?_⟩; conv => whnf)
    | exact ⟨rfl, rfl⟩
    | (refine Fin.bool ?_ rfl)
    | (refine Fin.int ?_ rfl)
    | (refine Fin.str ?_ rfl)
    | (refine Fin.sl ?_ rfl)
    | exact trivial)
  all_goals
    cases hl : letter n
    all_goals simp only [letter, Bool.and_eq_true, Bool.or_eq_true, decide_eq_true_eq, Bool.and_eq_false_iff, Bool.or_eq_false_iff, decide_eq_false_iff_not] at hl
    all_goals first | rfl | (exfalso; omega)
theorem wrap8 (n : Int) : IntKind.u8.wrap n = n % 256 := by simp [IntKind.wrap, IntKind.bits, IntKind.signed]
theorem or8 (c : Int) (m : Nat) (h : ∀ y : Fin m, bitsI .or .u8 c (y.val : Int) = c + y.val) {y : Int} (h0 : 0 ≤ y) (h1 : y < m) : bitsI .or .u8 c y = c + y := by
  have := h ⟨y.toNat, by omega⟩
  have e : ((y.toNat : Nat) : Int) = y := by omega
  simpa only [e] using this
theorem and63 {y : Int} (h0 : 0 ≤ y) (h1 : y < 256) : bitsI .and .u8 y 63 = y % 64 := by
  have h : ∀ y : Fin 256, bitsI .and .u8 (y.val : Int) 63 = (y.val : Int) % 64 := by decide +kernel
  have := h ⟨y.toNat, by omega⟩
  have e : ((y.toNat : Nat) : Int) = y := by omega
  simpa only [e] using this
theorem low8 (y : Int) : bitsI .or .u8 128 (bitsI .and .u8 (IntKind.u8.wrap y) 63) = 128 + y % 64 := by
  rw [wrap8, and63 (by omega) (by omega), or8 128 64 (by decide +kernel) (by omega) (by omega)]
  omega
theorem hi2 {y : Int} (h0 : 0 ≤ y) (h1 : y < 32) : bitsI .or .u8 192 (IntKind.u8.wrap y) = 192 + y := by
  rw [wrap8, or8 192 32 (by decide +kernel) (by omega) (by omega)]; omega
theorem hi3 {y : Int} (h0 : 0 ≤ y) (h1 : y < 16) : bitsI .or .u8 224 (IntKind.u8.wrap y) = 224 + y := by
  rw [wrap8, or8 224 16 (by decide +kernel) (by omega) (by omega)]; omega
theorem hi4 {y : Int} (h0 : 0 ≤ y) (h1 : y < 8) : bitsI .or .u8 240 (IntKind.u8.wrap y) = 240 + y := by
  rw [wrap8, or8 240 8 (by decide +kernel) (by omega) (by omega)]; omega
theorem sh6 (n : Int) : n.fdiv (2 ^ min (Int.toNat 6) IntKind.i32.bits) = n / 64 := Int.fdiv_eq_ediv_of_nonneg n (b := 64) (by omega)
theorem sh12 (n : Int) : n.fdiv (2 ^ min (Int.toNat 12) IntKind.i32.bits) = n / 4096 := Int.fdiv_eq_ediv_of_nonneg n (b := 4096) (by omega)
theorem sh18 (n : Int) : n.fdiv (2 ^ min (Int.toNat 18) IntKind.i32.bits) = n / 262144 := Int.fdiv_eq_ediv_of_nonneg n (b := 262144) (by omega)
theorem nonAscii (n : Int) (es : List (List D)) (hn : 0 ≤ n) (h1 : 128 ≤ n) (h2 : n ≤ 2147483647) (hl : es.length < 2 ^ 40) (hes : ∀ c ∈ es, c.length = 1) : CallWP Try.prog 41 [.full 0, .d (.int .i32 n)] [(0, .row 5 es)] (fun r h => r = .full 1 ∧ h = [(1, .row 5 (es ++ encC n))]) := by
  (refine CallWP.goM tabOK [0] Try.func41 1 78 rfl rfl rfl rfl ?_; conv => whnf)
  repeat' (first
    | (refine Br.tt ?_; conv => whnf)
    | (refine Br.ff ?_; conv => whnf)
    | (refine Both.mk ?_ ?_ <;> conv => whnf)
    | (refine Br.not ?_)
    | (refine Need.mk ?_ ?_; (focus ((first | omega | exact ⟨by omega, by omega⟩ | rfl | exact trivial | assumption | (simp only [List.length_map, List.length_append, List.length_take, List.length_drop, List.length_cons, List.length_nil, List.length_replicate, List.length_set, List.length_reverse, nds_len, numsD_length]; omega) | (simp only [List.length_map, List.length_append, List.length_take, List.length_drop, List.length_cons, List.length_nil, List.length_replicate, List.length_set, List.length_reverse, nds_len, numsD_length]; exact ⟨by omega, by omega⟩) | exact nds_each | (refine map_each ?_; intro x; rfl) | (refine first_map ?_; intro x; rfl) | exact first_nds | simp | (simp; omega)); done)); conv => whnf)
    | (refine Br.t (by assumption) ?_; conv => whnf)
    | (refine Br.f (by assumption) ?_; conv => whnf)
    | (refine Br.self ?_; conv => whnf)
    | (refine Br.decT (by assumption) ?_; conv => whnf)
    | (refine Br.decF (by assumption) ?_; conv => whnf)
    | (refine Br.eqT (by assumption) ?_; conv => whnf)
    | (refine Br.eqF (by assumption) ?_; conv => whnf)
    | (refine Br.dec (fun hc => ?_) (fun hc => ?_) <;> (try simp only [List.length_map, List.length_append, List.length_take, List.length_drop, List.length_cons, List.length_nil, List.length_replicate, List.length_set, List.length_reverse, nds_len, numsD_length] at hc) <;> first | (exfalso; omega) | exact absurd trivial hc | exact absurd rfl hc | conv => whnf)
    | (refine Br.eq (fun hc => ?_) (fun hc => ?_) <;> first | (exfalso; omega) | exact absurd trivial hc | exact absurd rfl hc | conv => whnf)
    | (refine Br.ne (fun hc => ?_) (fun hc => ?_) <;> first | (exfalso; omega) | exact absurd trivial hc | exact absurd rfl hc | conv => whnf)
    | (with_reducible refine Br.and ?_)
    | (with_reducible refine Br.or ?_)
    | (refine Br.any (fun hc => ?_) (fun hc => ?_) <;> conv => whnf)
    | (refine Fit.inl ?_ ?_; (focus ((first | omega | exact ⟨by omega, by omega⟩ | rfl | exact trivial | assumption | (simp only [List.length_map, List.length_append, List.length_take, List.length_drop, List.length_cons, List.length_nil, List.length_replicate, List.length_set, List.length_reverse, nds_len, numsD_length]; omega) | (simp only [List.length_map, List.length_append, List.length_take, List.length_drop, List.length_cons, List.length_nil, List.length_replicate, List.length_set, List.length_reverse, nds_len, numsD_length]; exact ⟨by omega, by omega⟩) | exact nds_each | (refine map_each ?_; intro x; rfl) | (refine first_map ?_; intro x; rfl) | exact first_nds | simp | (simp; omega)); done)); conv => whnf)
    | (refine Each.mapAt (by assumption) ?_; conv => whnf)
    | (refine Each.ndsAt (by assumption) ?_; conv => whnf)
    | (refine Each.at (by assumption) ?_; conv => whnf)
    | (refine Each.map (fun x hx => ?_); (try simp only [Int.toNat_natCast, Int.toNat_zero, Int.toNat_one, Int.toNat_natCast_add_one] at hx); conv => whnf)
    | (refine Each.nds (fun a b c ps hx => ?_); (try simp only [Int.toNat_natCast, Int.toNat_zero, Int.toNat_one, Int.toNat_natCast_add_one] at hx); conv => whnf)
    | (refine Each.rep ?_; conv => whnf)
    | (refine Each.drop ?_)
    | (refine Each.take (fun hi => ?_))
    | (refine Each.any (fun x hx => ?_); (try simp only [Int.toNat_natCast, Int.toNat_zero, Int.toNat_one, Int.toNat_natCast_add_one] at hx); conv => whnf)
    | (refine NilB.any (fun hn => ?_) ?_ <;> conv => whnf)
    | (refine Fit.inr ?_; conv => whnf)
    | (refine ⟨_, bytesOfD_nums _, ?_⟩; conv => whnf)
    | exact ⟨rfl, rfl⟩
    | (refine Fin.bool ?_ rfl)
    | (refine Fin.int ?_ rfl)
    | (refine Fin.str ?_ rfl)
    | (refine Fin.sl ?_ rfl)
    | exact trivial)
  · rw [sh6, low8, hi2 (by omega) (by omega)]
    have e : encC n = [[D.int .u8 (192 + n / 64)], [D.int .u8 (128 + n % 64)]] := by rw [encC, Lib.encodeRuneZ_two (by omega) (by omega)]; rfl
    rw [e]; exact ⟨rfl, rfl⟩
  · rw [sh6, sh12, low8, low8, hi3 (by omega) (by omega)]
    have e : encC n = [[D.int .u8 (224 + n / 4096)], [D.int .u8 (128 + n / 64 % 64)], [D.int .u8 (128 + n % 64)]] := by rw [encC, Lib.encodeRuneZ_three (by omega)]; rfl
    rw [e]; exact ⟨rfl, rfl⟩
  · rw [sh6, sh12, low8, low8, hi3 (by omega) (by omega)]
    have e : encC n = [[D.int .u8 (224 + n / 4096)], [D.int .u8 (128 + n / 64 % 64)], [D.int .u8 (128 + n % 64)]] := by rw [encC, Lib.encodeRuneZ_three (by omega)]; rfl
    rw [e]; exact ⟨rfl, rfl⟩
  · rw [sh6, sh12, sh18, low8, low8, low8, hi4 (by omega) (by omega)]
    have e : encC n = [[D.int .u8 (240 + n / 262144)], [D.int .u8 (128 + n / 4096 % 64)], [D.int .u8 (128 + n / 64 % 64)], [D.int .u8 (128 + n % 64)]] := by rw [encC, Lib.encodeRuneZ_four (by omega) (by omega)]; rfl
    rw [e]; exact ⟨rfl, rfl⟩
  all_goals
    have e : encC n = [[D.int .u8 239], [D.int .u8 191], [D.int .u8 189]] := by
      unfold encC Lib.encodeRuneZ
      rw [if_neg (by omega), if_neg (by omega), if_neg (by omega), if_neg (by omega)]; rfl
    rw [e]; exact ⟨rfl, rfl⟩
theorem appendC (n : Int) (es : List (List D)) (hn : 0 ≤ n) (h2 : n ≤ 2147483647) (hl : es.length < 2 ^ 40) (hes : ∀ c ∈ es, c.length = 1) : CallWP Try.prog 22 [.full 0, .d (.int .i32 n)] [(0, .row 5 es)] (fun r h => r = .full 1 ∧ h = [(1, .row 5 (es ++ encC n))]) := by
  (refine CallWP.goM tabOK [0] Try.func22 1 16 rfl rfl rfl rfl ?_; conv => whnf)
  repeat' (first
    | (refine Br.tt ?_; conv => whnf)
    | (refine Br.ff ?_; conv => whnf)
    | (refine Both.mk ?_ ?_ <;> conv => whnf)
    | (refine Br.not ?_)
    | (refine Need.mk ?_ ?_; (focus ((first | omega | exact ⟨by omega, by omega⟩ | rfl | exact trivial | assumption | (simp only [List.length_map, List.length_append, List.length_take, List.length_drop, List.length_cons, List.length_nil, List.length_replicate, List.length_set, List.length_reverse, nds_len, numsD_length]; omega) | (simp only [List.length_map, List.length_append, List.length_take, List.length_drop, List.length_cons, List.length_nil, List.length_replicate, List.length_set, List.length_reverse, nds_len, numsD_length]; exact ⟨by omega, by omega⟩) | exact nds_each | (refine map_each ?_; intro x; rfl) | (refine first_map ?_; intro x; rfl) | exact first_nds | simp | (simp; omega)); done)); conv => whnf)
    | (refine Br.t (by assumption) ?_; conv => whnf)
    | (refine Br.f (by assumption) ?_; conv => whnf)
    | (refine Br.self ?_; conv => whnf)
    | (refine Br.decT (by assumption) ?_; conv => whnf)
    | (refine Br.decF (by assumption) ?_; conv => whnf)
    | (refine Br.eqT (by assumption) ?_; conv => whnf)
    | (refine Br.eqF (by assumption) ?_; conv => whnf)
    | (refine Br.dec (fun hc => ?_) (fun hc => ?_) <;> (try simp only [List.length_map, List.length_append, List.length_take, List.length_drop, List.length_cons, List.length_nil, List.length_replicate, List.length_set, List.length_reverse, nds_len, numsD_length] at hc) <;> first | (exfalso; omega) | exact absurd trivial hc | exact absurd rfl hc | conv => whnf)
    | (refine Br.eq (fun hc => ?_) (fun hc => ?_) <;> first | (exfalso; omega) | exact absurd trivial hc | exact absurd rfl hc | conv => whnf)
    | (refine Br.ne (fun hc => ?_) (fun hc => ?_) <;> first | (exfalso; omega) | exact absurd trivial hc | exact absurd rfl hc | conv => whnf)
    | (with_reducible refine Br.and ?_)
    | (with_reducible refine Br.or ?_)
    | (refine Br.any (fun hc => ?_) (fun hc => ?_) <;> conv => whnf)
    | (refine Fit.inl ?_ ?_; (focus ((first | omega | exact ⟨by omega, by omega⟩ | rfl | exact trivial | assumption | (simp only [List.length_map, List.length_append, List.length_take, List.length_drop, List.length_cons, List.length_nil, List.length_replicate, List.length_set, List.length_reverse, nds_len, numsD_length]; omega) | (simp only [List.length_map, List.length_append, List.length_take, List.length_drop, List.length_cons, List.length_nil, List.length_replicate, List.length_set, List.length_reverse, nds_len, numsD_length]; exact ⟨by omega, by omega⟩) | exact nds_each | (refine map_each ?_; intro x; rfl) | (refine first_map ?_; intro x; rfl) | exact first_nds | simp | (simp; omega)); done)); conv => whnf)
    | (refine Each.mapAt (by assumption) ?_; conv => whnf)
    | (refine Each.ndsAt (by assumption) ?_; conv => whnf)
    | (refine Each.at (by assumption) ?_; conv => whnf)
    | (refine Each.map (fun x hx => ?_); (try simp only [Int.toNat_natCast, Int.toNat_zero, Int.toNat_one, Int.toNat_natCast_add_one] at hx); conv => whnf)
    | (refine Each.nds (fun a b c ps hx => ?_); (try simp only [Int.toNat_natCast, Int.toNat_zero, Int.toNat_one, Int.toNat_natCast_add_one] at hx); conv => whnf)
    | (refine Each.rep ?_; conv => whnf)
    | (refine Each.drop ?_)
    | (refine Each.take (fun hi => ?_))
    | (refine Each.any (fun x hx => ?_); (try simp only [Int.toNat_natCast, Int.toNat_zero, Int.toNat_one, Int.toNat_natCast_add_one] at hx); conv => whnf)
    | (refine NilB.any (fun hn => ?_) ?_ <;> conv => whnf)
    | (refine CallWP.mono (nonAscii n es hn (by omega) h2 hl hes) ?_; rintro r h ⟨rfl, rfl⟩; conv => whnf)
    | (refine ⟨_, bytesOfD_nums _, ?_⟩; conv => whnf)
    | exact ⟨rfl, rfl⟩
    | (refine Fin.bool ?_ rfl)
    | (refine Fin.int ?_ rfl)
    | (refine Fin.str ?_ rfl)
    | (refine Fin.sl ?_ rfl)
    | exact trivial)
  · have e : encC n = [[D.int .u8 n]] := by rw [encC, Lib.encodeRuneZ_one hn (by omega)]; rfl
    rw [e]; exact ⟨rfl, rfl⟩
def E (l : List Int) : Str := (l.map Lib.encodeRune).flatten
theorem enc_len (n : Int) : (Lib.encodeRune n).length ≤ 4 := by
  unfold Lib.encodeRune Lib.encodeRuneZ
  (repeat' split) <;> simp
theorem E_len (l : List Int) : (E l).length ≤ 4 * l.length := by
  induction l with
  | nil => simp [E]
  | cons x r ih => have := enc_len x; simp only [E, List.map_cons, List.flatten_cons, List.length_append, List.length_cons] at ih ⊢; omega
theorem E_at {l : List Int} {i : Nat} {x : Int} (h : l[i]? = some x) : E (l.take (i + 1)) = E (l.take i) ++ Lib.encodeRune x := by
  rw [List.take_add_one, h]; simp [E]
def textF (l : List Int) : Str × Int := if l.all letter then (if (E l).length > 600 then ([], 1) else (E l, 0)) else ([], 2)
theorem not_all {l : List Int} {i : Nat} {x : Int} (h : l[i]? = some x) (hx : letter x = false) : l.all letter = false := by
  rw [List.all_eq_false]
  exact ⟨x, List.mem_of_getElem? h, by simp [hx]⟩
theorem all_of {l : List Int} {i : Nat} (h : ∀ (j : Nat) (y : Int), j < i → l[j]? = some y → (!letter y) = false) (hi : l.length ≤ i) : l.all letter = true := by
  rw [List.all_eq_true]
  intro x hx
  obtain ⟨j, hj⟩ := List.getElem?_of_mem hx
  have := h j x (by have := (List.getElem?_eq_some_iff.mp hj).1; omega) hj
  simpa using this
theorem nums_one (s : Str) : ∀ c ∈ numsD s, c.length = 1 := fun c hc => by
  obtain ⟨x, _, rfl⟩ := List.mem_map.mp hc; rfl
theorem appC (x : Int) (s : Str) (hx : letter x = true) (hl : s.length < 2 ^ 39) : CallWP Try.prog 22 [.full 0, .d (.int .i32 x)] [(0, .row 5 (numsD s))] (fun r h => r = .full 1 ∧ h = [(1, .row 5 (numsD (s ++ Lib.encodeRune x)))]) := by
  rw [letter_iff] at hx
  have e : numsD (s ++ Lib.encodeRune x) = numsD s ++ encC x := by rw [encC_nums]; simp [numsD]
  rw [e]
  exact appendC x (numsD s) hx.1 (by omega) (by rw [numsD_length]; omega) (nums_one s)
theorem bad {l : List Int} {i : Nat} {x : Int} (h : l[i]? = some x) (hx : letter x = false) : textF l = ([], 2) := by unfold textF; rw [not_all h hx]; rfl
theorem textC (l : List Int) (hl : l.length < 2 ^ 32) : CallWP Try.prog 18 [.d (.sl (l.map iI))] [] (fun r h => r = .tup [(.d (.str ((textF l).1))), (.d (.int .i64 ((textF l).2)))] ∧ h = []) := by
  (refine CallWP.go tabOK Try.func18 0 35 rfl rfl rfl rfl ?_; conv => whnf)
  refine WP.loop (α := Nat) tabOK (fun i => i ≤ l.length ∧ ∀ (j : Nat) (y : Int), j < i → l[j]? = some y → (!letter y) = false) (fun i => ⟨[(4, .full 0), (7, (.d (.sl (l.map iI)))), (8, (.d (.int .i64 ((l.map iI).length)))), (9, (.d (.int .i64 (i))))], [(0, .row 5 (numsD (E (l.take i))))], 1, 35⟩) (fun i => l.length - i) (0) ?_ ?_ ?_
  · exact ⟨Nat.zero_le _, by simp⟩
  · conv => whnf
    repeat (first | exact True.intro | (refine Need.mk ?_ ?_; (focus ((first | rfl | omega | (simp only [List.length_map, List.length_append, List.length_take, List.length_drop, List.length_cons, List.length_nil, List.length_replicate, List.length_set, List.length_reverse, nds_len, numsD_length]; omega) | simp [E, numsD]); done)); conv => whnf) | ((conv => whnf); exact True.intro))
  rintro i ⟨hi, hb⟩
  have hE := E_len (l.take i)
  rw [List.length_take] at hE
  conv => whnf
  repeat' (first
    | (refine Br.tt ?_; conv => whnf)
    | (refine Br.ff ?_; conv => whnf)
    | (refine Both.mk ?_ ?_ <;> conv => whnf)
    | (refine Br.not ?_)
    | (refine Need.mk ?_ ?_; (focus ((first | omega | exact ⟨by omega, by omega⟩ | rfl | exact trivial | assumption | (simp only [List.length_map, List.length_append, List.length_take, List.length_drop, List.length_cons, List.length_nil, List.length_replicate, List.length_set, List.length_reverse, nds_len, numsD_length]; omega) | (simp only [List.length_map, List.length_append, List.length_take, List.length_drop, List.length_cons, List.length_nil, List.length_replicate, List.length_set, List.length_reverse, nds_len, numsD_length]; exact ⟨by omega, by omega⟩) | exact nds_each | (refine map_each ?_; intro x; rfl) | (refine first_map ?_; intro x; rfl) | exact first_nds | simp | (simp; omega)); done)); conv => whnf)
    | (refine Br.t (by assumption) ?_; conv => whnf)
    | (refine Br.f (by assumption) ?_; conv => whnf)
    | (refine Br.self ?_; conv => whnf)
    | (refine Br.decT (by assumption) ?_; conv => whnf)
    | (refine Br.decF (by assumption) ?_; conv => whnf)
    | (refine Br.eqT (by assumption) ?_; conv => whnf)
    | (refine Br.eqF (by assumption) ?_; conv => whnf)
    | (refine Br.dec (fun hc => ?_) (fun hc => ?_) <;> (try simp only [List.length_map, List.length_append, List.length_take, List.length_drop, List.length_cons, List.length_nil, List.length_replicate, List.length_set, List.length_reverse, nds_len, numsD_length] at hc) <;> first | (exfalso; omega) | exact absurd trivial hc | exact absurd rfl hc | conv => whnf)
    | (refine Br.eq (fun hc => ?_) (fun hc => ?_) <;> first | (exfalso; omega) | exact absurd trivial hc | exact absurd rfl hc | conv => whnf)
    | (refine Br.ne (fun hc => ?_) (fun hc => ?_) <;> first | (exfalso; omega) | exact absurd trivial hc | exact absurd rfl hc | conv => whnf)
    | (with_reducible refine Br.and ?_)
    | (with_reducible refine Br.or ?_)
    | (refine Br.any (fun hc => ?_) (fun hc => ?_) <;> conv => whnf)
    | (refine Fit.inl ?_ ?_; (focus ((first | omega | exact ⟨by omega, by omega⟩ | rfl | exact trivial | assumption | (simp only [List.length_map, List.length_append, List.length_take, List.length_drop, List.length_cons, List.length_nil, List.length_replicate, List.length_set, List.length_reverse, nds_len, numsD_length]; omega) | (simp only [List.length_map, List.length_append, List.length_take, List.length_drop, List.length_cons, List.length_nil, List.length_replicate, List.length_set, List.length_reverse, nds_len, numsD_length]; exact ⟨by omega, by omega⟩) | exact nds_each | (refine map_each ?_; intro x; rfl) | (refine first_map ?_; intro x; rfl) | exact first_nds | simp | (simp; omega)); done)); conv => whnf)
    | (refine Each.mapAt (by assumption) ?_; conv => whnf)
    | (refine Each.ndsAt (by assumption) ?_; conv => whnf)
    | (refine Each.at (by assumption) ?_; conv => whnf)
    | (refine Each.map (fun x hx => ?_); (try simp only [Int.toNat_natCast, Int.toNat_zero, Int.toNat_one, Int.toNat_natCast_add_one] at hx); conv => whnf)
    | (refine Each.nds (fun a b c ps hx => ?_); (try simp only [Int.toNat_natCast, Int.toNat_zero, Int.toNat_one, Int.toNat_natCast_add_one] at hx); conv => whnf)
    | (refine Each.rep ?_; conv => whnf)
    | (refine Each.drop ?_)
    | (refine Each.take (fun hi => ?_))
    | (refine Each.any (fun x hx => ?_); (try simp only [Int.toNat_natCast, Int.toNat_zero, Int.toNat_one, Int.toNat_natCast_add_one] at hx); conv => whnf)
    | (refine NilB.any (fun hn => ?_) ?_ <;> conv => whnf)
    | (refine CallWP.mono (validC _) ?_; rintro r h ⟨rfl, rfl⟩; conv => whnf)
    | (refine CallWP.mono (appC _ (E (l.take i)) (by assumption) (by omega)) ?_; rintro r h ⟨rfl, rfl⟩; conv => whnf)
    | (refine ⟨_, bytesOfD_nums _, ?_⟩; conv => whnf)
    | exact ⟨rfl, rfl⟩
    | (refine Fin.bool ?_ rfl)
    | (refine Fin.int ?_ rfl)
    | (refine Fin.str ?_ rfl)
    | (refine Fin.sl ?_ rfl)
    | exact trivial)
  · rw [bad hx (by cases h : letter x with | false => rfl | true => rw [letter_iff] at h; omega)]; exact ⟨rfl, rfl⟩
  · rw [bad hx (by cases h : letter x with | false => rfl | true => rw [letter_iff] at h; omega)]; exact ⟨rfl, rfl⟩
  · refine ⟨i + 1, ⟨by omega, before_succ hb hx (by simp [hc])⟩, by dsimp only; omega, ?_⟩
    conv => whnf
    repeat (first | exact True.intro | (refine Need.mk ?_ ?_; (focus ((first | rfl | omega | (simp only [List.length_map, List.length_append, List.length_take, List.length_drop, List.length_cons, List.length_nil, List.length_replicate, List.length_set, List.length_reverse, nds_len, numsD_length]; omega) | simp [E_at hx]); done)); conv => whnf) | ((conv => whnf); exact True.intro))
  · rw [bad hx hc]; exact ⟨rfl, rfl⟩
  · have ha := all_of hb (by omega)
    rw [List.take_of_length_le (by omega)] at hc
    have e : textF l = ([], 1) := by unfold textF; rw [if_pos ha, if_pos (by omega)]
    rw [e]; exact ⟨rfl, rfl⟩
  · have ha := all_of hb (by omega)
    rw [List.take_of_length_le (by omega)] at hc ⊢
    have e : textF l = (E l, 0) := by unfold textF; rw [if_pos ha, if_neg (by omega)]
    rw [e]; exact ⟨rfl, rfl⟩
theorem textR (l : List Int) (hl : l.length < 2 ^ 32) : CallWP Try.prog 19 [.d (.sl (l.map iI))] [] (fun r h => r = .tup [(.d (.str ((textF l).1))), (.d (.int .i64 ((textF l).2)))] ∧ h = []) := by
  (refine CallWP.go tabOK Try.func19 0 29 rfl rfl rfl rfl ?_; conv => whnf)
  refine WP.loop (α := (Nat × Str)) tabOK (fun ⟨i, o⟩ => i ≤ l.length ∧ o.length ≤ 604 ∧ ((o.length ≤ 600 ∧ o = E (l.take i)) ∨ (o.length > 600 ∧ (E (l.take i)).length > 600)) ∧ ∀ (j : Nat) (y : Int), j < i → l[j]? = some y → (!letter y) = false) (fun ⟨i, o⟩ => ⟨[(4, (.d (.str (o)))), (7, (.d (.sl (l.map iI)))), (8, (.d (.int .i64 ((l.map iI).length)))), (9, (.d (.int .i64 (i))))], [], 0, 29⟩) (fun ⟨i, o⟩ => l.length - i) ((0, [])) ?_ ?_ ?_
  · exact ⟨Nat.zero_le _, by simp, .inl ⟨by simp, by simp [E]⟩, by simp⟩
  · conv => whnf
    repeat (first | exact True.intro | (refine Need.mk ?_ ?_; (focus ((first | rfl | omega | (simp only [List.length_map, List.length_append, List.length_take, List.length_drop, List.length_cons, List.length_nil, List.length_replicate, List.length_set, List.length_reverse, nds_len, numsD_length]; omega) | simp); done)); conv => whnf) | ((conv => whnf); exact True.intro))
  rintro ⟨i, o⟩ ⟨hi, ho, hc0, hb⟩
  have hE := E_len (l.take i)
  rw [List.length_take] at hE
  have h4 := enc_len
  conv => whnf
  repeat' (first
    | (refine Br.tt ?_; conv => whnf)
    | (refine Br.ff ?_; conv => whnf)
    | (refine Both.mk ?_ ?_ <;> conv => whnf)
    | (refine Br.not ?_)
    | (refine Need.mk ?_ ?_; (focus ((first | omega | exact ⟨by omega, by omega⟩ | rfl | exact trivial | assumption | (simp only [List.length_map, List.length_append, List.length_take, List.length_drop, List.length_cons, List.length_nil, List.length_replicate, List.length_set, List.length_reverse, nds_len, numsD_length]; omega) | (simp only [List.length_map, List.length_append, List.length_take, List.length_drop, List.length_cons, List.length_nil, List.length_replicate, List.length_set, List.length_reverse, nds_len, numsD_length]; exact ⟨by omega, by omega⟩) | exact nds_each | (refine map_each ?_; intro x; rfl) | (refine first_map ?_; intro x; rfl) | exact first_nds | simp | (simp; omega)); done)); conv => whnf)
    | (refine Br.t (by assumption) ?_; conv => whnf)
    | (refine Br.f (by assumption) ?_; conv => whnf)
    | (refine Br.self ?_; conv => whnf)
    | (refine Br.decT (by assumption) ?_; conv => whnf)
    | (refine Br.decF (by assumption) ?_; conv => whnf)
    | (refine Br.eqT (by assumption) ?_; conv => whnf)
    | (refine Br.eqF (by assumption) ?_; conv => whnf)
    | (refine Br.dec (fun hc => ?_) (fun hc => ?_) <;> (try simp only [List.length_map, List.length_append, List.length_take, List.length_drop, List.length_cons, List.length_nil, List.length_replicate, List.length_set, List.length_reverse, nds_len, numsD_length] at hc) <;> first | (exfalso; omega) | exact absurd trivial hc | exact absurd rfl hc | conv => whnf)
    | (refine Br.eq (fun hc => ?_) (fun hc => ?_) <;> first | (exfalso; omega) | exact absurd trivial hc | exact absurd rfl hc | conv => whnf)
    | (refine Br.ne (fun hc => ?_) (fun hc => ?_) <;> first | (exfalso; omega) | exact absurd trivial hc | exact absurd rfl hc | conv => whnf)
    | (with_reducible refine Br.and ?_)
    | (with_reducible refine Br.or ?_)
    | (refine Br.any (fun hc => ?_) (fun hc => ?_) <;> conv => whnf)
    | (refine Fit.inl ?_ ?_; (focus ((first | omega | exact ⟨by omega, by omega⟩ | rfl | exact trivial | assumption | (simp only [List.length_map, List.length_append, List.length_take, List.length_drop, List.length_cons, List.length_nil, List.length_replicate, List.length_set, List.length_reverse, nds_len, numsD_length]; omega) | (simp only [List.length_map, List.length_append, List.length_take, List.length_drop, List.length_cons, List.length_nil, List.length_replicate, List.length_set, List.length_reverse, nds_len, numsD_length]; exact ⟨by omega, by omega⟩) | exact nds_each | (refine map_each ?_; intro x; rfl) | (refine first_map ?_; intro x; rfl) | exact first_nds | simp | (simp; omega)); done)); conv => whnf)
    | (refine Each.mapAt (by assumption) ?_; conv => whnf)
    | (refine Each.ndsAt (by assumption) ?_; conv => whnf)
    | (refine Each.at (by assumption) ?_; conv => whnf)
    | (refine Each.map (fun x hx => ?_); (try simp only [Int.toNat_natCast, Int.toNat_zero, Int.toNat_one, Int.toNat_natCast_add_one] at hx); conv => whnf)
    | (refine Each.nds (fun a b c ps hx => ?_); (try simp only [Int.toNat_natCast, Int.toNat_zero, Int.toNat_one, Int.toNat_natCast_add_one] at hx); conv => whnf)
    | (refine Each.rep ?_; conv => whnf)
    | (refine Each.drop ?_)
    | (refine Each.take (fun hi => ?_))
    | (refine Each.any (fun x hx => ?_); (try simp only [Int.toNat_natCast, Int.toNat_zero, Int.toNat_one, Int.toNat_natCast_add_one] at hx); conv => whnf)
    | (refine NilB.any (fun hn => ?_) ?_ <;> conv => whnf)
    | (refine CallWP.mono (letterR _) ?_; rintro r h ⟨rfl, rfl⟩; conv => whnf)
    | (refine CallWP.mono (bytesR _ (by assumption)) ?_; rintro r h ⟨rfl, rfl⟩; conv => whnf)
    | (refine Need.mk (by have := enc_len x; omega) ?_; conv => whnf)
    | (refine ⟨_, bytesOfD_nums _, ?_⟩; conv => whnf)
    | exact ⟨rfl, rfl⟩
    | (refine Fin.bool ?_ rfl)
    | (refine Fin.int ?_ rfl)
    | (refine Fin.str ?_ rfl)
    | (refine Fin.sl ?_ rfl)
    | exact trivial)
  · have hx4 := enc_len x
    have e := E_at hx
    refine ⟨(i + 1, o ++ Lib.encodeRune x), ⟨by omega, by rw [List.length_append]; omega, by rcases hc0 with ⟨h1, rfl⟩ | ⟨h1, h2⟩; exact (by rw [e]; rcases Nat.lt_or_ge 600 (E (l.take i) ++ Lib.encodeRune x).length with h | h; exact .inr ⟨h, h⟩; exact .inl ⟨h, rfl⟩); omega, before_succ hb hx (by simp; assumption)⟩, by dsimp only; omega, ?_⟩
    conv => whnf
    repeat (first | exact True.intro | (refine Need.mk ?_ ?_; (focus ((first | rfl | omega | (simp only [List.length_map, List.length_append, List.length_take, List.length_drop, List.length_cons, List.length_nil, List.length_replicate, List.length_set, List.length_reverse, nds_len, numsD_length]; omega) | simp); done)); conv => whnf) | ((conv => whnf); exact True.intro))
  · have e := E_at hx
    refine ⟨(i + 1, o), ⟨by omega, ho, by rcases hc0 with ⟨h1, _⟩ | ⟨h1, h2⟩; omega; exact .inr ⟨h1, by rw [e, List.length_append]; omega⟩, before_succ hb hx (by simp; assumption)⟩, by dsimp only; omega, ?_⟩
    conv => whnf
    repeat (first | exact True.intro | (refine Need.mk ?_ ?_; (focus ((first | rfl | omega | (simp only [List.length_map, List.length_append, List.length_take, List.length_drop, List.length_cons, List.length_nil, List.length_replicate, List.length_set, List.length_reverse, nds_len, numsD_length]; omega) | simp); done)); conv => whnf) | ((conv => whnf); exact True.intro))
  · rw [bad hx hc]; exact ⟨rfl, rfl⟩
  · have ha := all_of hb (by omega)
    rw [List.take_of_length_le (by omega)] at hc0
    have e : textF l = ([], 1) := by unfold textF; rw [if_pos ha, if_pos (by rcases hc0 with ⟨h1, h2⟩ | ⟨h1, h2⟩ <;> omega)]
    rw [e]; exact ⟨rfl, rfl⟩
  · have ha := all_of hb (by omega)
    rw [List.take_of_length_le (by omega)] at hc0
    rcases hc0 with ⟨h1, rfl⟩ | ⟨h1, h2⟩
    · have e : textF l = (E l, 0) := by unfold textF; rw [if_pos ha, if_neg (by omega)]
      rw [e]; exact ⟨rfl, rfl⟩
    · omega
end Go.VL.UtfText
