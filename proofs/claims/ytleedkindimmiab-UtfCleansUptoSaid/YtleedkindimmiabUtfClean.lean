/- utf.Clean and its reference answer alike. -/
import Derived.Test.YtleedkindimmiabUtfRunes
import Derived.Test.YtleedkindimmiabUtfText
set_option linter.unusedVariables false
set_option linter.unusedSimpArgs false
namespace Go.VL.UtfClean
open Go Go.Proofs Go.VL Go.VL.UtfBytes Go.VL.UtfFirst Go.VL.UtfRunes
set_option maxRecDepth 100000
attribute [local irreducible] CallWP WP Need Br Each NilB fit Both
theorem appC (x : Int) (s : Str) (hx : letP x) (hl : s.length < 2 ^ 39) : CallWP Try.prog 22 [.full 0, .d (.int .i32 x)] [(0, .row 5 (numsD s))] (fun r h => r = .full 1 ∧ h = [(1, .row 5 (numsD (s ++ Lib.encodeRune x)))]) :=
  Go.VL.UtfText.appC x s (letter_iff.mpr hx) hl
theorem cleanC (s : Str) (hs : s.length < 2 ^ 32) : CallWP Try.prog 9 [(.d (.str (s)))] [] (fun r h => r = .d (.str (E (cl (runes s)))) ∧ h = []) := by
  (refine CallWP.go tabOK Try.func9 0 40 rfl rfl rfl rfl ?_; conv => whnf)
  refine WP.loop (α := (Nat × Str)) tabOK (fun ⟨p, o⟩ => p ≤ s.length ∧ o.length ≤ 4 * p ∧ o ++ E (cl (runes (s.drop p))) = E (cl (runes s))) (fun ⟨p, o⟩ => ⟨[(0, (.d (.str (s)))), (3, .full 0), (7, .itr 1)], [(0, .row 5 (numsD o)), (1, .iter s p)], 2, 40⟩) (fun ⟨p, o⟩ => s.length - p) ((0, [])) ?_ ?_ ?_
  · exact ⟨Nat.zero_le _, by simp, by simp⟩
  · conv => whnf
    repeat (first | exact True.intro | (refine Need.mk ?_ ?_; (focus ((first | rfl | omega | (simp only [List.length_map, List.length_append, List.length_take, List.length_drop, List.length_cons, List.length_nil, List.length_replicate, List.length_set, List.length_reverse, nds_len, numsD_length]; omega) | simp [numsD]); done)); conv => whnf) | ((conv => whnf); exact True.intro))
  rintro ⟨p, o⟩ ⟨hp, hl, ho⟩
  have hlet : letP ((Utf8.decode ⟨s.toArray⟩ p).1 : Nat) := by rw [decode_drop]; exact decodeL_letter _
  have hr : (Utf8.decode ⟨s.toArray⟩ p).1 ≤ 1114111 := by rw [decode_drop]; exact Lib.decodeL_rune _
  have h4 := enc_len
  conv => whnf
  repeat' (first
    | (refine Br.tt ?_; conv => whnf)
    | (refine Br.ff ?_; conv => whnf)
    | (refine Both.mk ?_ ?_ <;> conv => whnf)
    | (refine Br.not ?_)
    | (refine Need.mk ?_ ?_; (focus ((first | omega | exact ⟨by omega, by omega⟩ | rfl | exact trivial | assumption | (simp only [List.length_map, List.length_append, List.length_take, List.length_drop, List.length_cons, List.length_nil, List.length_replicate, List.length_set, List.length_reverse, nds_len, numsD_length]; omega) | (simp only [List.length_map, List.length_append, List.length_take, List.length_drop, List.length_cons, List.length_nil, List.length_replicate, List.length_set, List.length_reverse, nds_len, numsD_length]; exact ⟨by omega, by omega⟩) | exact nds_each | (refine map_each ?_; intro x; rfl) | (refine first_map ?_; intro x; rfl) | exact first_nds | simp | (simp; omega)); done)); conv => whnf)
    | (refine Br.t (by assumption) ?_; conv => whnf)
    | (refine Br.f (by assumption) ?_; conv => whnf)
    | (refine Br.self ?_; conv => whnf)
    | (refine Br.decT (by assumption) ?_; conv => whnf)
    | (refine Br.decF (by assumption) ?_; conv => whnf)
    | (refine Br.eqT (by assumption) ?_; conv => whnf)
    | (refine Br.eqF (by assumption) ?_; conv => whnf)
    | (refine Br.dec (fun hc => ?_) (fun hc => ?_) <;> (try simp only [List.length_map, List.length_append, List.length_take, List.length_drop, List.length_cons, List.length_nil, List.length_replicate, List.length_set, List.length_reverse, nds_len, numsD_length] at hc) <;> first | (exfalso; omega) | exact absurd trivial hc | exact absurd rfl hc | conv => whnf)
    | (refine Br.eq (fun hc => ?_) (fun hc => ?_) <;> first | (exfalso; omega) | exact absurd trivial hc | exact absurd rfl hc | conv => whnf)
    | (refine Br.ne (fun hc => ?_) (fun hc => ?_) <;> first | (exfalso; omega) | exact absurd trivial hc | exact absurd rfl hc | conv => whnf)
    | (with_reducible refine Br.and ?_)
    | (with_reducible refine Br.or ?_)
    | (refine Br.any (fun hc => ?_) (fun hc => ?_) <;> conv => whnf)
    | (refine Fit.inl ?_ ?_; (focus ((first | omega | exact ⟨by omega, by omega⟩ | rfl | exact trivial | assumption | (simp only [List.length_map, List.length_append, List.length_take, List.length_drop, List.length_cons, List.length_nil, List.length_replicate, List.length_set, List.length_reverse, nds_len, numsD_length]; omega) | (simp only [List.length_map, List.length_append, List.length_take, List.length_drop, List.length_cons, List.length_nil, List.length_replicate, List.length_set, List.length_reverse, nds_len, numsD_length]; exact ⟨by omega, by omega⟩) | exact nds_each | (refine map_each ?_; intro x; rfl) | (refine first_map ?_; intro x; rfl) | exact first_nds | simp | (simp; omega)); done)); conv => whnf)
    | (refine Each.mapAt (by assumption) ?_; conv => whnf)
    | (refine Each.ndsAt (by assumption) ?_; conv => whnf)
    | (refine Each.at (by assumption) ?_; conv => whnf)
    | (refine Each.map (fun x hx => ?_); (try simp only [Int.toNat_natCast, Int.toNat_zero, Int.toNat_one, Int.toNat_natCast_add_one] at hx); conv => whnf)
    | (refine Each.nds (fun a b c ps hx => ?_); (try simp only [Int.toNat_natCast, Int.toNat_zero, Int.toNat_one, Int.toNat_natCast_add_one] at hx); conv => whnf)
    | (refine Each.rep ?_; conv => whnf)
    | (refine Each.drop ?_)
    | (refine Each.take (fun hi => ?_))
    | (refine Each.any (fun x hx => ?_); (try simp only [Int.toNat_natCast, Int.toNat_zero, Int.toNat_one, Int.toNat_natCast_add_one] at hx); conv => whnf)
    | (refine NilB.any (fun hn => ?_) ?_ <;> conv => whnf)
    | (refine CallWP.mono (appC _ o hlet (by omega)) ?_; rintro r h ⟨rfl, rfl⟩; conv => whnf)
    | (refine CallWP.mono (appC 65533 o (by unfold letP; omega) (by omega)) ?_; rintro r h ⟨rfl, rfl⟩; conv => whnf)
    | (refine CallWP.mono (appC 10 o (by unfold letP; omega) (by omega)) ?_; rintro r h ⟨rfl, rfl⟩; conv => whnf)
    | (refine ⟨_, bytesOfD_nums _, ?_⟩; conv => whnf)
    | exact ⟨rfl, rfl⟩
    | (refine Fin.bool ?_ rfl)
    | (refine Fin.int ?_ rfl)
    | (refine Fin.str ?_ rfl)
    | (refine Fin.sl ?_ rfl)
    | exact trivial)
  · have hw := width_at (s := s) (pos := p) (by omega)
    have hra := runes_at (s := s) (pos := p) (by omega)
    rw [← decode_drop] at hw hra
    have e : E (cl (runes (s.drop p))) = Lib.encodeRune 65533 ++ E (cl (runes (s.drop (p + (Utf8.decode ⟨s.toArray⟩ p).2)))) := by rw [hra]; simp only [cl]; rw [if_neg (by omega), if_pos hc]; rfl
    refine ⟨(p + (Utf8.decode ⟨s.toArray⟩ p).2, o ++ Lib.encodeRune 65533), ⟨by omega, by rw [List.length_append]; have := enc_len 65533; omega, by rw [← ho, e]; simp⟩, by dsimp only; omega, ?_⟩
    conv => whnf
    repeat (first | exact True.intro | (refine Need.mk ?_ ?_; (focus ((first | rfl | omega | (simp only [List.length_map, List.length_append, List.length_take, List.length_drop, List.length_cons, List.length_nil, List.length_replicate, List.length_set, List.length_reverse, nds_len, numsD_length]; omega) | simp [numsD]); done)); conv => whnf) | ((conv => whnf); exact True.intro))
  · have hw := width_at (s := s) (pos := p) (by omega)
    have hra := runes_at (s := s) (pos := p) (by omega)
    rw [← decode_drop] at hw hra
    have hw1 : (Utf8.decode ⟨s.toArray⟩ p).2 = 1 := by rw [decode_drop]; apply low_width; rw [← decode_drop]; omega
    have hn : (runes (s.drop (p + (Utf8.decode ⟨s.toArray⟩ p).2))).head? = some 10 := by
      rw [head_runes, hw1]
      exact ⟨x, by rw [List.getElem?_drop, Nat.add_zero]; exact hx, hc⟩
    have e : E (cl (runes (s.drop p))) = E (cl (runes (s.drop (p + (Utf8.decode ⟨s.toArray⟩ p).2)))) := by rw [hra]; simp only [cl]; rw [if_pos (by assumption), if_pos hn]
    refine ⟨(p + (Utf8.decode ⟨s.toArray⟩ p).2, o), ⟨by omega, by omega, by rw [← ho, e]⟩, by dsimp only; omega, ?_⟩
    conv => whnf
    repeat (first | exact True.intro | (refine Need.mk ?_ ?_; (focus ((first | rfl | omega | (simp only [List.length_map, List.length_append, List.length_take, List.length_drop, List.length_cons, List.length_nil, List.length_replicate, List.length_set, List.length_reverse, nds_len, numsD_length]; omega) | simp [numsD]); done)); conv => whnf) | ((conv => whnf); exact True.intro))
  · have hw := width_at (s := s) (pos := p) (by omega)
    have hra := runes_at (s := s) (pos := p) (by omega)
    rw [← decode_drop] at hw hra
    have hw1 : (Utf8.decode ⟨s.toArray⟩ p).2 = 1 := by rw [decode_drop]; apply low_width; rw [← decode_drop]; omega
    have hn : ¬ (runes (s.drop (p + (Utf8.decode ⟨s.toArray⟩ p).2))).head? = some 10 := by
      rw [head_runes, hw1]
      rintro ⟨y, h1, h2⟩
      rw [List.getElem?_drop, Nat.add_zero] at h1
      rw [hx] at h1; cases h1; exact hc h2
    have e : E (cl (runes (s.drop p))) = Lib.encodeRune 10 ++ E (cl (runes (s.drop (p + (Utf8.decode ⟨s.toArray⟩ p).2)))) := by rw [hra]; simp only [cl]; rw [if_pos (by assumption), if_neg hn]; rfl
    refine ⟨(p + (Utf8.decode ⟨s.toArray⟩ p).2, o ++ Lib.encodeRune 10), ⟨by omega, by rw [List.length_append]; have := enc_len 10; omega, by rw [← ho, e]; simp⟩, by dsimp only; omega, ?_⟩
    conv => whnf
    repeat (first | exact True.intro | (refine Need.mk ?_ ?_; (focus ((first | rfl | omega | (simp only [List.length_map, List.length_append, List.length_take, List.length_drop, List.length_cons, List.length_nil, List.length_replicate, List.length_set, List.length_reverse, nds_len, numsD_length]; omega) | simp [numsD]); done)); conv => whnf) | ((conv => whnf); exact True.intro))
  · have hw := width_at (s := s) (pos := p) (by omega)
    have hra := runes_at (s := s) (pos := p) (by omega)
    rw [← decode_drop] at hw hra
    have hw1 : (Utf8.decode ⟨s.toArray⟩ p).2 = 1 := by rw [decode_drop]; apply low_width; rw [← decode_drop]; omega
    have hn : ¬ (runes (s.drop (p + (Utf8.decode ⟨s.toArray⟩ p).2))).head? = some 10 := by
      rw [head_runes, hw1]
      rintro ⟨y, h1, h2⟩
      rw [List.getElem?_drop, Nat.add_zero] at h1
      have := (List.getElem?_eq_some_iff.mp h1).1; omega
    have e : E (cl (runes (s.drop p))) = Lib.encodeRune 10 ++ E (cl (runes (s.drop (p + (Utf8.decode ⟨s.toArray⟩ p).2)))) := by rw [hra]; simp only [cl]; rw [if_pos (by assumption), if_neg hn]; rfl
    refine ⟨(p + (Utf8.decode ⟨s.toArray⟩ p).2, o ++ Lib.encodeRune 10), ⟨by omega, by rw [List.length_append]; have := enc_len 10; omega, by rw [← ho, e]; simp⟩, by dsimp only; omega, ?_⟩
    conv => whnf
    repeat (first | exact True.intro | (refine Need.mk ?_ ?_; (focus ((first | rfl | omega | (simp only [List.length_map, List.length_append, List.length_take, List.length_drop, List.length_cons, List.length_nil, List.length_replicate, List.length_set, List.length_reverse, nds_len, numsD_length]; omega) | simp [numsD]); done)); conv => whnf) | ((conv => whnf); exact True.intro))
  · have hw := width_at (s := s) (pos := p) (by omega)
    have hra := runes_at (s := s) (pos := p) (by omega)
    rw [← decode_drop] at hw hra
    have e : E (cl (runes (s.drop p))) = Lib.encodeRune (((Utf8.decode ⟨s.toArray⟩ p).1 : Nat) : Int) ++ E (cl (runes (s.drop (p + (Utf8.decode ⟨s.toArray⟩ p).2)))) := by rw [hra]; simp only [cl]; rw [if_neg (by assumption), if_neg (by assumption)]; rfl
    refine ⟨(p + (Utf8.decode ⟨s.toArray⟩ p).2, o ++ Lib.encodeRune (((Utf8.decode ⟨s.toArray⟩ p).1 : Nat) : Int)), ⟨by omega, by rw [List.length_append]; have := enc_len (((Utf8.decode ⟨s.toArray⟩ p).1 : Nat) : Int); omega, by rw [← ho, e]; simp⟩, by dsimp only; omega, ?_⟩
    conv => whnf
    repeat (first | exact True.intro | (refine Need.mk ?_ ?_; (focus ((first | rfl | omega | (simp only [List.length_map, List.length_append, List.length_take, List.length_drop, List.length_cons, List.length_nil, List.length_replicate, List.length_set, List.length_reverse, nds_len, numsD_length]; omega) | simp [numsD]); done)); conv => whnf) | ((conv => whnf); exact True.intro))
  · rw [← ho, List.drop_eq_nil_of_le (by omega), runes_nil]; simp [cl, E]
theorem cleanR (s : Str) (hs : s.length < 2 ^ 32) : CallWP Try.prog 10 [(.d (.str (s)))] [] (fun r h => r = .d (.str (E (cl (runes s)))) ∧ h = []) := by
  have hlen := runes_len s
  generalize hl0 : runes s = l at *
  (refine CallWP.go tabOK Try.func10 0 40 rfl rfl rfl rfl ?_; conv => whnf)
  repeat' (first
    | (refine Br.tt ?_; conv => whnf)
    | (refine Br.ff ?_; conv => whnf)
    | (refine Both.mk ?_ ?_ <;> conv => whnf)
    | (refine Br.not ?_)
    | (refine Need.mk ?_ ?_; (focus ((first | omega | exact ⟨by omega, by omega⟩ | rfl | exact trivial | assumption | (simp only [List.length_map, List.length_append, List.length_take, List.length_drop, List.length_cons, List.length_nil, List.length_replicate, List.length_set, List.length_reverse, nds_len, numsD_length]; omega) | (simp only [List.length_map, List.length_append, List.length_take, List.length_drop, List.length_cons, List.length_nil, List.length_replicate, List.length_set, List.length_reverse, nds_len, numsD_length]; exact ⟨by omega, by omega⟩) | exact nds_each | (refine map_each ?_; intro x; rfl) | (refine first_map ?_; intro x; rfl) | exact first_nds | simp | (simp; omega)); done)); conv => whnf)
    | (refine Br.t (by assumption) ?_; conv => whnf)
    | (refine Br.f (by assumption) ?_; conv => whnf)
    | (refine Br.self ?_; conv => whnf)
    | (refine Br.decT (by assumption) ?_; conv => whnf)
    | (refine Br.decF (by assumption) ?_; conv => whnf)
    | (refine Br.eqT (by assumption) ?_; conv => whnf)
    | (refine Br.eqF (by assumption) ?_; conv => whnf)
    | (refine Br.dec (fun hc => ?_) (fun hc => ?_) <;> (try simp only [List.length_map, List.length_append, List.length_take, List.length_drop, List.length_cons, List.length_nil, List.length_replicate, List.length_set, List.length_reverse, nds_len, numsD_length] at hc) <;> first | (exfalso; omega) | exact absurd trivial hc | exact absurd rfl hc | conv => whnf)
    | (refine Br.eq (fun hc => ?_) (fun hc => ?_) <;> first | (exfalso; omega) | exact absurd trivial hc | exact absurd rfl hc | conv => whnf)
    | (refine Br.ne (fun hc => ?_) (fun hc => ?_) <;> first | (exfalso; omega) | exact absurd trivial hc | exact absurd rfl hc | conv => whnf)
    | (with_reducible refine Br.and ?_)
    | (with_reducible refine Br.or ?_)
    | (refine Br.any (fun hc => ?_) (fun hc => ?_) <;> conv => whnf)
    | (refine Fit.inl ?_ ?_; (focus ((first | omega | exact ⟨by omega, by omega⟩ | rfl | exact trivial | assumption | (simp only [List.length_map, List.length_append, List.length_take, List.length_drop, List.length_cons, List.length_nil, List.length_replicate, List.length_set, List.length_reverse, nds_len, numsD_length]; omega) | (simp only [List.length_map, List.length_append, List.length_take, List.length_drop, List.length_cons, List.length_nil, List.length_replicate, List.length_set, List.length_reverse, nds_len, numsD_length]; exact ⟨by omega, by omega⟩) | exact nds_each | (refine map_each ?_; intro x; rfl) | (refine first_map ?_; intro x; rfl) | exact first_nds | simp | (simp; omega)); done)); conv => whnf)
    | (refine Each.mapAt (by assumption) ?_; conv => whnf)
    | (refine Each.ndsAt (by assumption) ?_; conv => whnf)
    | (refine Each.at (by assumption) ?_; conv => whnf)
    | (refine Each.map (fun x hx => ?_); (try simp only [Int.toNat_natCast, Int.toNat_zero, Int.toNat_one, Int.toNat_natCast_add_one] at hx); conv => whnf)
    | (refine Each.nds (fun a b c ps hx => ?_); (try simp only [Int.toNat_natCast, Int.toNat_zero, Int.toNat_one, Int.toNat_natCast_add_one] at hx); conv => whnf)
    | (refine Each.rep ?_; conv => whnf)
    | (refine Each.drop ?_)
    | (refine Each.take (fun hi => ?_))
    | (refine Each.any (fun x hx => ?_); (try simp only [Int.toNat_natCast, Int.toNat_zero, Int.toNat_one, Int.toNat_natCast_add_one] at hx); conv => whnf)
    | (refine NilB.any (fun hn => ?_) ?_ <;> conv => whnf)
    | (refine CallWP.mono (hl0 ▸ runesR s (by omega)) ?_; rintro r h ⟨rfl, rfl⟩; conv => whnf)
    | (refine ⟨_, bytesOfD_nums _, ?_⟩; conv => whnf)
    | exact ⟨rfl, rfl⟩
    | (refine Fin.bool ?_ rfl)
    | (refine Fin.int ?_ rfl)
    | (refine Fin.str ?_ rfl)
    | (refine Fin.sl ?_ rfl)
    | exact trivial)
  refine WP.loop (α := (Nat × Str)) tabOK (fun ⟨i, o⟩ => i ≤ l.length ∧ o.length ≤ 4 * i ∧ o ++ E (cl (l.drop i)) = E (cl l)) (fun ⟨i, o⟩ => ⟨[(3, (.d (.str (o)))), (4, (.d (.sl (l.map iI)))), (9, (.d (.sl (l.map iI)))), (10, (.d (.int .i64 ((l.map iI).length)))), (11, (.d (.int .i64 (i))))], [], 0, 40⟩) (fun ⟨i, o⟩ => l.length - i) ((0, [])) ?_ ?_ ?_
  · exact ⟨Nat.zero_le _, by simp, by simp⟩
  · conv => whnf
    repeat (first | exact True.intro | (refine Need.mk ?_ ?_; (focus ((first | rfl | omega | (simp only [List.length_map, List.length_append, List.length_take, List.length_drop, List.length_cons, List.length_nil, List.length_replicate, List.length_set, List.length_reverse, nds_len, numsD_length]; omega) | simp); done)); conv => whnf) | ((conv => whnf); exact True.intro))
  rintro ⟨i, o⟩ ⟨hi, hl, ho⟩
  by_cases hlt : i < l.length
  case neg =>
    conv => whnf
    repeat' (first
    | (refine Br.tt ?_; conv => whnf)
    | (refine Br.ff ?_; conv => whnf)
    | (refine Both.mk ?_ ?_ <;> conv => whnf)
    | (refine Br.not ?_)
    | (refine Need.mk ?_ ?_; (focus ((first | omega | exact ⟨by omega, by omega⟩ | rfl | exact trivial | assumption | (simp only [List.length_map, List.length_append, List.length_take, List.length_drop, List.length_cons, List.length_nil, List.length_replicate, List.length_set, List.length_reverse, nds_len, numsD_length]; omega) | (simp only [List.length_map, List.length_append, List.length_take, List.length_drop, List.length_cons, List.length_nil, List.length_replicate, List.length_set, List.length_reverse, nds_len, numsD_length]; exact ⟨by omega, by omega⟩) | exact nds_each | (refine map_each ?_; intro x; rfl) | (refine first_map ?_; intro x; rfl) | exact first_nds | simp | (simp; omega)); done)); conv => whnf)
    | (refine Br.t (by assumption) ?_; conv => whnf)
    | (refine Br.f (by assumption) ?_; conv => whnf)
    | (refine Br.self ?_; conv => whnf)
    | (refine Br.decT (by assumption) ?_; conv => whnf)
    | (refine Br.decF (by assumption) ?_; conv => whnf)
    | (refine Br.eqT (by assumption) ?_; conv => whnf)
    | (refine Br.eqF (by assumption) ?_; conv => whnf)
    | (refine Br.dec (fun hc => ?_) (fun hc => ?_) <;> (try simp only [List.length_map, List.length_append, List.length_take, List.length_drop, List.length_cons, List.length_nil, List.length_replicate, List.length_set, List.length_reverse, nds_len, numsD_length] at hc) <;> first | (exfalso; omega) | exact absurd trivial hc | exact absurd rfl hc | conv => whnf)
    | (refine Br.eq (fun hc => ?_) (fun hc => ?_) <;> first | (exfalso; omega) | exact absurd trivial hc | exact absurd rfl hc | conv => whnf)
    | (refine Br.ne (fun hc => ?_) (fun hc => ?_) <;> first | (exfalso; omega) | exact absurd trivial hc | exact absurd rfl hc | conv => whnf)
    | (with_reducible refine Br.and ?_)
    | (with_reducible refine Br.or ?_)
    | (refine Br.any (fun hc => ?_) (fun hc => ?_) <;> conv => whnf)
    | (refine Fit.inl ?_ ?_; (focus ((first | omega | exact ⟨by omega, by omega⟩ | rfl | exact trivial | assumption | (simp only [List.length_map, List.length_append, List.length_take, List.length_drop, List.length_cons, List.length_nil, List.length_replicate, List.length_set, List.length_reverse, nds_len, numsD_length]; omega) | (simp only [List.length_map, List.length_append, List.length_take, List.length_drop, List.length_cons, List.length_nil, List.length_replicate, List.length_set, List.length_reverse, nds_len, numsD_length]; exact ⟨by omega, by omega⟩) | exact nds_each | (refine map_each ?_; intro x; rfl) | (refine first_map ?_; intro x; rfl) | exact first_nds | simp | (simp; omega)); done)); conv => whnf)
    | (refine Each.mapAt (by assumption) ?_; conv => whnf)
    | (refine Each.ndsAt (by assumption) ?_; conv => whnf)
    | (refine Each.at (by assumption) ?_; conv => whnf)
    | (refine Each.map (fun x hx => ?_); (try simp only [Int.toNat_natCast, Int.toNat_zero, Int.toNat_one, Int.toNat_natCast_add_one] at hx); conv => whnf)
    | (refine Each.nds (fun a b c ps hx => ?_); (try simp only [Int.toNat_natCast, Int.toNat_zero, Int.toNat_one, Int.toNat_natCast_add_one] at hx); conv => whnf)
    | (refine Each.rep ?_; conv => whnf)
    | (refine Each.drop ?_)
    | (refine Each.take (fun hi => ?_))
    | (refine Each.any (fun x hx => ?_); (try simp only [Int.toNat_natCast, Int.toNat_zero, Int.toNat_one, Int.toNat_natCast_add_one] at hx); conv => whnf)
    | (refine NilB.any (fun hn => ?_) ?_ <;> conv => whnf)
    | (refine ⟨_, bytesOfD_nums _, ?_⟩; conv => whnf)
    | exact ⟨rfl, rfl⟩
    | (refine Fin.bool ?_ rfl)
    | (refine Fin.int ?_ rfl)
    | (refine Fin.str ?_ rfl)
    | (refine Fin.sl ?_ rfl)
    | exact trivial)
    rw [← ho, List.drop_eq_nil_of_le (by omega)]; simp [cl, E]
  obtain ⟨n, hn⟩ : ∃ x, l[i]? = some x := ⟨l[i], by simp [hlt]⟩
  have hd := drop_cons hn
  have hxl : letter n = true := letter_iff.mpr (by have := runes_letter (s := s) (x := n) (by rw [hl0]; exact List.mem_of_getElem? hn); exact this)
  have h10 : letter 10 = true := by decide
  have h65 : letter 65533 = true := by decide
  have hh : ∀ y, l[i + 1]? = some y → (l.drop (i + 1)).head? = some y := fun y hy => by rw [List.head?_drop]; exact hy
  have hh2 : l.length ≤ i + 1 → (l.drop (i + 1)).head? = none := fun hy => by rw [List.head?_drop]; exact List.getElem?_eq_none hy
  have h4 := enc_len
  conv => whnf
  repeat' (first
    | (refine Br.tt ?_; conv => whnf)
    | (refine Br.ff ?_; conv => whnf)
    | (refine Both.mk ?_ ?_ <;> conv => whnf)
    | (refine Br.not ?_)
    | (refine Need.mk ?_ ?_; (focus ((first | omega | exact ⟨by omega, by omega⟩ | rfl | exact trivial | assumption | (simp only [List.length_map, List.length_append, List.length_take, List.length_drop, List.length_cons, List.length_nil, List.length_replicate, List.length_set, List.length_reverse, nds_len, numsD_length]; omega) | (simp only [List.length_map, List.length_append, List.length_take, List.length_drop, List.length_cons, List.length_nil, List.length_replicate, List.length_set, List.length_reverse, nds_len, numsD_length]; exact ⟨by omega, by omega⟩) | exact nds_each | (refine map_each ?_; intro x; rfl) | (refine first_map ?_; intro x; rfl) | exact first_nds | simp | (simp; omega)); done)); conv => whnf)
    | (refine Br.t (by assumption) ?_; conv => whnf)
    | (refine Br.f (by assumption) ?_; conv => whnf)
    | (refine Br.self ?_; conv => whnf)
    | (refine Br.decT (by assumption) ?_; conv => whnf)
    | (refine Br.decF (by assumption) ?_; conv => whnf)
    | (refine Br.eqT (by assumption) ?_; conv => whnf)
    | (refine Br.eqF (by assumption) ?_; conv => whnf)
    | (refine Br.dec (fun hc => ?_) (fun hc => ?_) <;> (try simp only [List.length_map, List.length_append, List.length_take, List.length_drop, List.length_cons, List.length_nil, List.length_replicate, List.length_set, List.length_reverse, nds_len, numsD_length] at hc) <;> first | (exfalso; omega) | exact absurd trivial hc | exact absurd rfl hc | conv => whnf)
    | (refine Br.eq (fun hc => ?_) (fun hc => ?_) <;> first | (exfalso; omega) | exact absurd trivial hc | exact absurd rfl hc | conv => whnf)
    | (refine Br.ne (fun hc => ?_) (fun hc => ?_) <;> first | (exfalso; omega) | exact absurd trivial hc | exact absurd rfl hc | conv => whnf)
    | (with_reducible refine Br.and ?_)
    | (with_reducible refine Br.or ?_)
    | (refine Br.any (fun hc => ?_) (fun hc => ?_) <;> conv => whnf)
    | (refine Fit.inl ?_ ?_; (focus ((first | omega | exact ⟨by omega, by omega⟩ | rfl | exact trivial | assumption | (simp only [List.length_map, List.length_append, List.length_take, List.length_drop, List.length_cons, List.length_nil, List.length_replicate, List.length_set, List.length_reverse, nds_len, numsD_length]; omega) | (simp only [List.length_map, List.length_append, List.length_take, List.length_drop, List.length_cons, List.length_nil, List.length_replicate, List.length_set, List.length_reverse, nds_len, numsD_length]; exact ⟨by omega, by omega⟩) | exact nds_each | (refine map_each ?_; intro x; rfl) | (refine first_map ?_; intro x; rfl) | exact first_nds | simp | (simp; omega)); done)); conv => whnf)
    | (refine Each.mapAt (by assumption) ?_; conv => whnf)
    | (refine Each.ndsAt (by assumption) ?_; conv => whnf)
    | (refine Each.at (by assumption) ?_; conv => whnf)
    | (refine Each.map (fun x hx => ?_); (try simp only [Int.toNat_natCast, Int.toNat_zero, Int.toNat_one, Int.toNat_natCast_add_one] at hx); conv => whnf)
    | (refine Each.nds (fun a b c ps hx => ?_); (try simp only [Int.toNat_natCast, Int.toNat_zero, Int.toNat_one, Int.toNat_natCast_add_one] at hx); conv => whnf)
    | (refine Each.rep ?_; conv => whnf)
    | (refine Each.drop ?_)
    | (refine Each.take (fun hi => ?_))
    | (refine Each.any (fun x hx => ?_); (try simp only [Int.toNat_natCast, Int.toNat_zero, Int.toNat_one, Int.toNat_natCast_add_one] at hx); conv => whnf)
    | (refine NilB.any (fun hn => ?_) ?_ <;> conv => whnf)
    | (refine CallWP.mono (bytesR n hxl) ?_; rintro r h ⟨rfl, rfl⟩; conv => whnf)
    | (refine CallWP.mono (bytesR 10 h10) ?_; rintro r h ⟨rfl, rfl⟩; conv => whnf)
    | (refine CallWP.mono (bytesR 65533 h65) ?_; rintro r h ⟨rfl, rfl⟩; conv => whnf)
    | (refine Need.mk (by have := enc_len n; have := enc_len 10; have := enc_len 65533; omega) ?_; conv => whnf)
    | (refine ⟨_, bytesOfD_nums _, ?_⟩; conv => whnf)
    | exact ⟨rfl, rfl⟩
    | (refine Fin.bool ?_ rfl)
    | (refine Fin.int ?_ rfl)
    | (refine Fin.str ?_ rfl)
    | (refine Fin.sl ?_ rfl)
    | exact trivial)
  · have h1 : (l.drop (i + 1)).head? = some 10 := by rw [hh x hx, hc]
    have e : E (cl (l.drop i)) = E (cl (l.drop (i + 1))) := by rw [hd]; simp only [cl]; rw [if_pos (by assumption), if_pos h1]
    refine ⟨(i + 1, o), ⟨by omega, by omega, by rw [← ho, e]⟩, by dsimp only; omega, ?_⟩
    conv => whnf
    repeat (first | exact True.intro | (refine Need.mk ?_ ?_; (focus ((first | rfl | omega | (simp only [List.length_map, List.length_append, List.length_take, List.length_drop, List.length_cons, List.length_nil, List.length_replicate, List.length_set, List.length_reverse, nds_len, numsD_length]; omega) | simp); done)); conv => whnf) | ((conv => whnf); exact True.intro))
  · have h1 : ¬ (l.drop (i + 1)).head? = some 10 := by rw [hh x hx]; simpa using hc
    have e : E (cl (l.drop i)) = Lib.encodeRune 10 ++ E (cl (l.drop (i + 1))) := by rw [hd]; simp only [cl]; rw [if_pos (by assumption), if_neg h1]; rfl
    refine ⟨(i + 1, o ++ Lib.encodeRune 10), ⟨by omega, by rw [List.length_append]; have := enc_len 10; omega, by rw [← ho, e]; simp⟩, by dsimp only; omega, ?_⟩
    conv => whnf
    repeat (first | exact True.intro | (refine Need.mk ?_ ?_; (focus ((first | rfl | omega | (simp only [List.length_map, List.length_append, List.length_take, List.length_drop, List.length_cons, List.length_nil, List.length_replicate, List.length_set, List.length_reverse, nds_len, numsD_length]; omega) | simp); done)); conv => whnf) | ((conv => whnf); exact True.intro))
  · have h1 : ¬ (l.drop (i + 1)).head? = some 10 := by rw [hh2 (by omega)]; simp
    have e : E (cl (l.drop i)) = Lib.encodeRune 10 ++ E (cl (l.drop (i + 1))) := by rw [hd]; simp only [cl]; rw [if_pos (by assumption), if_neg h1]; rfl
    refine ⟨(i + 1, o ++ Lib.encodeRune 10), ⟨by omega, by rw [List.length_append]; have := enc_len 10; omega, by rw [← ho, e]; simp⟩, by dsimp only; omega, ?_⟩
    conv => whnf
    repeat (first | exact True.intro | (refine Need.mk ?_ ?_; (focus ((first | rfl | omega | (simp only [List.length_map, List.length_append, List.length_take, List.length_drop, List.length_cons, List.length_nil, List.length_replicate, List.length_set, List.length_reverse, nds_len, numsD_length]; omega) | simp); done)); conv => whnf) | ((conv => whnf); exact True.intro))
  · have e : E (cl (l.drop i)) = Lib.encodeRune 65533 ++ E (cl (l.drop (i + 1))) := by rw [hd]; simp only [cl]; rw [if_neg (by omega), if_pos hc]; rfl
    refine ⟨(i + 1, o ++ Lib.encodeRune 65533), ⟨by omega, by rw [List.length_append]; have := enc_len 65533; omega, by rw [← ho, e]; simp⟩, by dsimp only; omega, ?_⟩
    conv => whnf
    repeat (first | exact True.intro | (refine Need.mk ?_ ?_; (focus ((first | rfl | omega | (simp only [List.length_map, List.length_append, List.length_take, List.length_drop, List.length_cons, List.length_nil, List.length_replicate, List.length_set, List.length_reverse, nds_len, numsD_length]; omega) | simp); done)); conv => whnf) | ((conv => whnf); exact True.intro))
  · have e : E (cl (l.drop i)) = Lib.encodeRune n ++ E (cl (l.drop (i + 1))) := by rw [hd]; simp only [cl]; rw [if_neg (by assumption), if_neg (by assumption)]; rfl
    refine ⟨(i + 1, o ++ Lib.encodeRune n), ⟨by omega, by rw [List.length_append]; have := enc_len n; omega, by rw [← ho, e]; simp⟩, by dsimp only; omega, ?_⟩
    conv => whnf
    repeat (first | exact True.intro | (refine Need.mk ?_ ?_; (focus ((first | rfl | omega | (simp only [List.length_map, List.length_append, List.length_take, List.length_drop, List.length_cons, List.length_nil, List.length_replicate, List.length_set, List.length_reverse, nds_len, numsD_length]; omega) | simp); done)); conv => whnf) | ((conv => whnf); exact True.intro))
end Go.VL.UtfClean
