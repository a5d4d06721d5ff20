/- walk.Paths and its reference answer alike. -/
import Derived.Test.YtleedkindimmiaaVTab
import Derived.Test.YtleedkindimmiaaVMv
set_option linter.unusedVariables false
set_option linter.unusedSimpArgs false
namespace Go.VL.Paths
open Go Go.Proofs Go.VL
set_option maxRecDepth 100000
--LEN pths_len
attribute [local irreducible] CallWP WP Need Br Each NilB fit Both
mutual
def Nd.pp : Nd → List (List Int)
  | .mk _ _ _ ps => pths 0 ps
def pths : Int → List Nd → List (List Int)
  | _, [] => []
  | i, n :: r => ([i] :: (Nd.pp n).map (i :: ·)) ++ pths (i + 1) r
end
theorem pths_take : ∀ {l : List Nd} {i : Nat} {n : Nd} {k : Int}, l[i]? = some n → pths k (l.take (i + 1)) = pths k (l.take i) ++ ([k + i] :: (Nd.pp n).map ((k + i) :: ·))
  | [], _, _, _, h => by simp at h
  | m :: r, 0, n, k, h => by simp at h; subst h; simp [pths]
  | m :: r, i + 1, n, k, h => by
    have := pths_take (l := r) (i := i) (n := n) (k := k + 1) (by simpa using h)
    simp only [List.take_succ_cons, pths, this, List.append_assoc]
    have e : k + 1 + (i : Int) = k + ((i + 1 : Nat) : Int) := by omega
    rw [e]
mutual
theorem pp_len : ∀ n : Nd, (Nd.pp n).length + 1 = n.sz
  | .mk _ _ _ ps => by have := pths_len ps 0; simp [Nd.pp, Nd.sz]; omega
theorem pths_len : ∀ (l : List Nd) (k : Int), (pths k l).length = szs l
  | [], _ => by simp [pths, szs]
  | n :: r, k => by have := pths_len r (k + 1); have := pp_len n; simp [pths, szs]; omega
end
mutual
theorem pp_mem : ∀ (n : Nd) (p : List Int), p ∈ Nd.pp n → p.length + 1 ≤ n.sz
  | .mk _ _ _ ps, p, h => by have := pths_mem ps 0 p (by simpa [Nd.pp] using h); simp [Nd.sz]; omega
theorem pths_mem : ∀ (l : List Nd) (k : Int) (p : List Int), p ∈ pths k l → p.length ≤ szs l
  | [], _, p, h => by simp [pths] at h
  | n :: r, k, p, h => by
    simp only [pths, List.mem_append, List.mem_cons, List.mem_map] at h
    have hn := n.sz_eq
    rcases h with (rfl | ⟨q, hq, rfl⟩) | h
    · simp [szs]; omega
    · have := pp_mem n q hq; simp [szs]; omega
    · have := pths_mem r (k + 1) p h; simp [szs]; omega
end

theorem pathsC (m : Nat) : ∀ ns : List Nd, szs ns < m → szs ns ≤ 1048576 → CallWP Try.prog 14 [.d (.sl (nds ns))] [] (fun r h => r = .d (.sl ((pths 0 ns).map iL)) ∧ h = []) := by
  induction m with
  | zero => intro ns h; omega
  | succ m ih =>
  intro ns hm hb
  refine CallWP.val (Q := fun r h => r = .full 0 ∧ h = [(0, .row 24 ((pths 0 ns).map iL))]) ?_ (by rintro r h ⟨rfl, rfl⟩; exact ⟨rfl, rfl⟩)
  have hlen := len_szs ns
  refine CallWP.go tabOK Try.func14 0 38 rfl rfl rfl rfl ?_
  conv => whnf
  refine WP.loop (α := Nat) tabOK (fun i => i ≤ ns.length) (fun i => ⟨[(3, .full 0), (8, (.d (.sl (nds ns)))), (9, (.d (.int .i64 ((nds ns).length)))), (10, (.d (.int .i64 (i))))], [(0, .row 24 ((pths 0 (ns.take i)).map iL))], 1, 38⟩) (fun i => ns.length - i) (0) ?_ ?_ ?_
  · exact Nat.zero_le _
  · conv => whnf
    repeat (first | exact True.intro | (refine Need.mk ?_ ?_; (focus ((first | rfl | omega | (simp only [List.length_map, List.length_append, List.length_take, List.length_drop, List.length_cons, List.length_nil, List.length_replicate, List.length_set, List.length_reverse, nds_len, numsD_length, pths_len]; omega) | simp); done)); conv => whnf) | ((conv => whnf); exact True.intro))
  intro i hi
  have hp := pths_len (ns.take i) 0
  conv => whnf
  repeat' (first
    | (refine Br.tt ?_; conv => whnf)
    | (refine Br.ff ?_; conv => whnf)
    | (refine Both.mk ?_ ?_ <;> conv => whnf)
    | (refine Br.not ?_)
    | (refine Need.mk ?_ ?_; (focus ((first | omega | exact ⟨by omega, by omega⟩ | rfl | exact trivial | assumption | (simp only [List.length_map, List.length_append, List.length_take, List.length_drop, List.length_cons, List.length_nil, List.length_replicate, List.length_set, List.length_reverse, nds_len, numsD_length, pths_len]; omega) | exact nds_each | (refine map_each ?_; intro x; rfl) | simp); done)); conv => whnf)
    | (refine Br.t (by assumption) ?_; conv => whnf)
    | (refine Br.f (by assumption) ?_; conv => whnf)
    | (refine Br.dec (fun hc => ?_) (fun hc => ?_) <;> (try simp only [List.length_map, List.length_append, List.length_take, List.length_drop, List.length_cons, List.length_nil, List.length_replicate, List.length_set, List.length_reverse, nds_len, numsD_length, pths_len] at hc) <;> first | (exfalso; omega) | conv => whnf)
    | (refine Br.eq (fun hc => ?_) (fun hc => ?_) <;> first | (exfalso; omega) | conv => whnf)
    | (refine Br.ne (fun hc => ?_) (fun hc => ?_) <;> first | (exfalso; omega) | conv => whnf)
    | (refine Br.any (fun hc => ?_) (fun hc => ?_) <;> conv => whnf)
    | (refine Fit.inl ?_ ?_; (focus ((first | omega | exact ⟨by omega, by omega⟩ | rfl | exact trivial | assumption | (simp only [List.length_map, List.length_append, List.length_take, List.length_drop, List.length_cons, List.length_nil, List.length_replicate, List.length_set, List.length_reverse, nds_len, numsD_length, pths_len]; omega) | exact nds_each | (refine map_each ?_; intro x; rfl) | simp); done)); conv => whnf)
    | (refine Each.map (fun x hx => ?_); (try simp only [Int.toNat_natCast, Int.toNat_zero, Int.toNat_one, Int.toNat_natCast_add_one] at hx); conv => whnf)
    | (refine Each.nds (fun a b c ps hx => ?_); (try simp only [Int.toNat_natCast, Int.toNat_zero, Int.toNat_one, Int.toNat_natCast_add_one] at hx); conv => whnf)
    | (refine Each.rep ?_; conv => whnf)
    | (refine Each.drop ?_)
    | (refine Each.take (fun hi => ?_))
    | (refine Each.any (fun x hx => ?_); (try simp only [Int.toNat_natCast, Int.toNat_zero, Int.toNat_one, Int.toNat_natCast_add_one] at hx); conv => whnf)
    | (refine NilB.any (fun hn => ?_) ?_ <;> conv => whnf)
    | exact ⟨rfl, rfl⟩
    | (refine Fin.bool ?_ rfl)
    | (refine Fin.int ?_ rfl)
    | (refine Fin.str ?_ rfl)
    | (refine Fin.sl ?_ rfl)
    | exact trivial)
  · have h1 := szs_mem hx
    have h2 : (Nd.mk a b c ps).sz = szs ps + 1 := by simp [Nd.sz]
    have h3 := pths_len ps 0
    repeat' (first
    | (refine Br.tt ?_; conv => whnf)
    | (refine Br.ff ?_; conv => whnf)
    | (refine Both.mk ?_ ?_ <;> conv => whnf)
    | (refine Br.not ?_)
    | (refine Need.mk ?_ ?_; (focus ((first | omega | exact ⟨by omega, by omega⟩ | rfl | exact trivial | assumption | (simp only [List.length_map, List.length_append, List.length_take, List.length_drop, List.length_cons, List.length_nil, List.length_replicate, List.length_set, List.length_reverse, nds_len, numsD_length, pths_len]; omega) | exact nds_each | (refine map_each ?_; intro x; rfl) | simp); done)); conv => whnf)
    | (refine Br.t (by assumption) ?_; conv => whnf)
    | (refine Br.f (by assumption) ?_; conv => whnf)
    | (refine Br.dec (fun hc => ?_) (fun hc => ?_) <;> (try simp only [List.length_map, List.length_append, List.length_take, List.length_drop, List.length_cons, List.length_nil, List.length_replicate, List.length_set, List.length_reverse, nds_len, numsD_length, pths_len] at hc) <;> first | (exfalso; omega) | conv => whnf)
    | (refine Br.eq (fun hc => ?_) (fun hc => ?_) <;> first | (exfalso; omega) | conv => whnf)
    | (refine Br.ne (fun hc => ?_) (fun hc => ?_) <;> first | (exfalso; omega) | conv => whnf)
    | (refine Br.any (fun hc => ?_) (fun hc => ?_) <;> conv => whnf)
    | (refine Fit.inl ?_ ?_; (focus ((first | omega | exact ⟨by omega, by omega⟩ | rfl | exact trivial | assumption | (simp only [List.length_map, List.length_append, List.length_take, List.length_drop, List.length_cons, List.length_nil, List.length_replicate, List.length_set, List.length_reverse, nds_len, numsD_length, pths_len]; omega) | exact nds_each | (refine map_each ?_; intro x; rfl) | simp); done)); conv => whnf)
    | (refine Each.map (fun x hx => ?_); (try simp only [Int.toNat_natCast, Int.toNat_zero, Int.toNat_one, Int.toNat_natCast_add_one] at hx); conv => whnf)
    | (refine Each.nds (fun a b c ps hx => ?_); (try simp only [Int.toNat_natCast, Int.toNat_zero, Int.toNat_one, Int.toNat_natCast_add_one] at hx); conv => whnf)
    | (refine Each.rep ?_; conv => whnf)
    | (refine Each.drop ?_)
    | (refine Each.take (fun hi => ?_))
    | (refine Each.any (fun x hx => ?_); (try simp only [Int.toNat_natCast, Int.toNat_zero, Int.toNat_one, Int.toNat_natCast_add_one] at hx); conv => whnf)
    | (refine NilB.any (fun hn => ?_) ?_ <;> conv => whnf)
    | (refine CallWP.mono (ih ps (by omega) (by omega)) ?_; rintro r h ⟨rfl, rfl⟩; conv => whnf)
    | exact ⟨rfl, rfl⟩
    | (refine Fin.bool ?_ rfl)
    | (refine Fin.int ?_ rfl)
    | (refine Fin.str ?_ rfl)
    | (refine Fin.sl ?_ rfl)
    | exact trivial)
    have hpp : Nd.pp (Nd.mk a b c ps) = pths 0 ps := by simp [Nd.pp]
    refine WP.loop (α := Nat) tabOK (fun k => k ≤ (pths 0 ps).length) (fun k => ⟨[(3, .full 0), (4, (.d (.int .i64 (i)))), (8, (.d (.sl (nds ns)))), (9, (.d (.int .i64 ((nds ns).length)))), (10, (.d (.int .i64 (i)))), (22, (.d (.sl ((pths 0 ps).map iL)))), (23, (.d (.int .i64 (((pths 0 ps).map iL).length)))), (24, (.d (.int .i64 (k))))], [(0, .row 24 ((pths 0 (ns.take i) ++ ([(i : Int)] :: ((pths 0 ps).take k).map ((i : Int) :: ·))).map iL))], 1, 38⟩) (fun k => (pths 0 ps).length - k) (0) ?_ ?_ ?_
    · exact Nat.zero_le _
    · conv => whnf
      repeat (first | exact True.intro | (refine Need.mk ?_ ?_; (focus ((first | rfl | omega | (simp only [List.length_map, List.length_append, List.length_take, List.length_drop, List.length_cons, List.length_nil, List.length_replicate, List.length_set, List.length_reverse, nds_len, numsD_length, pths_len]; omega) | simp [iL, iI]); done)); conv => whnf) | ((conv => whnf); exact True.intro))
    intro k hk
    conv => whnf
    repeat' (first
    | (refine Br.tt ?_; conv => whnf)
    | (refine Br.ff ?_; conv => whnf)
    | (refine Both.mk ?_ ?_ <;> conv => whnf)
    | (refine Br.not ?_)
    | (refine Need.mk ?_ ?_; (focus ((first | omega | exact ⟨by omega, by omega⟩ | rfl | exact trivial | assumption | (simp only [List.length_map, List.length_append, List.length_take, List.length_drop, List.length_cons, List.length_nil, List.length_replicate, List.length_set, List.length_reverse, nds_len, numsD_length, pths_len]; omega) | exact nds_each | (refine map_each ?_; intro x; rfl) | simp); done)); conv => whnf)
    | (refine Br.t (by assumption) ?_; conv => whnf)
    | (refine Br.f (by assumption) ?_; conv => whnf)
    | (refine Br.dec (fun hc => ?_) (fun hc => ?_) <;> (try simp only [List.length_map, List.length_append, List.length_take, List.length_drop, List.length_cons, List.length_nil, List.length_replicate, List.length_set, List.length_reverse, nds_len, numsD_length, pths_len] at hc) <;> first | (exfalso; omega) | conv => whnf)
    | (refine Br.eq (fun hc => ?_) (fun hc => ?_) <;> first | (exfalso; omega) | conv => whnf)
    | (refine Br.ne (fun hc => ?_) (fun hc => ?_) <;> first | (exfalso; omega) | conv => whnf)
    | (refine Br.any (fun hc => ?_) (fun hc => ?_) <;> conv => whnf)
    | (refine Fit.inl ?_ ?_; (focus ((first | omega | exact ⟨by omega, by omega⟩ | rfl | exact trivial | assumption | (simp only [List.length_map, List.length_append, List.length_take, List.length_drop, List.length_cons, List.length_nil, List.length_replicate, List.length_set, List.length_reverse, nds_len, numsD_length, pths_len]; omega) | exact nds_each | (refine map_each ?_; intro x; rfl) | simp); done)); conv => whnf)
    | (refine Each.map (fun x hx => ?_); (try simp only [Int.toNat_natCast, Int.toNat_zero, Int.toNat_one, Int.toNat_natCast_add_one] at hx); conv => whnf)
    | (refine Each.nds (fun a b c ps hx => ?_); (try simp only [Int.toNat_natCast, Int.toNat_zero, Int.toNat_one, Int.toNat_natCast_add_one] at hx); conv => whnf)
    | (refine Each.rep ?_; conv => whnf)
    | (refine Each.drop ?_)
    | (refine Each.take (fun hi => ?_))
    | (refine Each.any (fun x hx => ?_); (try simp only [Int.toNat_natCast, Int.toNat_zero, Int.toNat_one, Int.toNat_natCast_add_one] at hx); conv => whnf)
    | (refine NilB.any (fun hn => ?_) ?_ <;> conv => whnf)
    | exact ⟨rfl, rfl⟩
    | (refine Fin.bool ?_ rfl)
    | (refine Fin.int ?_ rfl)
    | (refine Fin.str ?_ rfl)
    | (refine Fin.sl ?_ rfl)
    | exact trivial)
    · have h4 : x.length ≤ szs ps := pths_mem ps 0 x (List.mem_of_getElem? hx)
      repeat' (first
    | (refine Br.tt ?_; conv => whnf)
    | (refine Br.ff ?_; conv => whnf)
    | (refine Both.mk ?_ ?_ <;> conv => whnf)
    | (refine Br.not ?_)
    | (refine Need.mk ?_ ?_; (focus ((first | omega | exact ⟨by omega, by omega⟩ | rfl | exact trivial | assumption | (simp only [List.length_map, List.length_append, List.length_take, List.length_drop, List.length_cons, List.length_nil, List.length_replicate, List.length_set, List.length_reverse, nds_len, numsD_length, pths_len]; omega) | exact nds_each | (refine map_each ?_; intro x; rfl) | simp); done)); conv => whnf)
    | (refine Br.t (by assumption) ?_; conv => whnf)
    | (refine Br.f (by assumption) ?_; conv => whnf)
    | (refine Br.dec (fun hc => ?_) (fun hc => ?_) <;> (try simp only [List.length_map, List.length_append, List.length_take, List.length_drop, List.length_cons, List.length_nil, List.length_replicate, List.length_set, List.length_reverse, nds_len, numsD_length, pths_len] at hc) <;> first | (exfalso; omega) | conv => whnf)
    | (refine Br.eq (fun hc => ?_) (fun hc => ?_) <;> first | (exfalso; omega) | conv => whnf)
    | (refine Br.ne (fun hc => ?_) (fun hc => ?_) <;> first | (exfalso; omega) | conv => whnf)
    | (refine Br.any (fun hc => ?_) (fun hc => ?_) <;> conv => whnf)
    | (refine Fit.inl ?_ ?_; (focus ((first | omega | exact ⟨by omega, by omega⟩ | rfl | exact trivial | assumption | (simp only [List.length_map, List.length_append, List.length_take, List.length_drop, List.length_cons, List.length_nil, List.length_replicate, List.length_set, List.length_reverse, nds_len, numsD_length, pths_len]; omega) | exact nds_each | (refine map_each ?_; intro x; rfl) | simp); done)); conv => whnf)
    | (refine Each.map (fun x hx => ?_); (try simp only [Int.toNat_natCast, Int.toNat_zero, Int.toNat_one, Int.toNat_natCast_add_one] at hx); conv => whnf)
    | (refine Each.nds (fun a b c ps hx => ?_); (try simp only [Int.toNat_natCast, Int.toNat_zero, Int.toNat_one, Int.toNat_natCast_add_one] at hx); conv => whnf)
    | (refine Each.rep ?_; conv => whnf)
    | (refine Each.drop ?_)
    | (refine Each.take (fun hi => ?_))
    | (refine Each.any (fun x hx => ?_); (try simp only [Int.toNat_natCast, Int.toNat_zero, Int.toNat_one, Int.toNat_natCast_add_one] at hx); conv => whnf)
    | (refine NilB.any (fun hn => ?_) ?_ <;> conv => whnf)
    | exact ⟨rfl, rfl⟩
    | (refine Fin.bool ?_ rfl)
    | (refine Fin.int ?_ rfl)
    | (refine Fin.str ?_ rfl)
    | (refine Fin.sl ?_ rfl)
    | exact trivial)
      refine ⟨k + 1, by omega, by dsimp only; omega, ?_⟩
      have e : ((pths 0 ps).take (k + 1)) = (pths 0 ps).take k ++ [x] := by rw [List.take_add_one, hx]; rfl
      conv => whnf
      repeat (first | exact True.intro | (refine Need.mk ?_ ?_; (focus ((first | rfl | omega | (simp only [List.length_map, List.length_append, List.length_take, List.length_drop, List.length_cons, List.length_nil, List.length_replicate, List.length_set, List.length_reverse, nds_len, numsD_length, pths_len]; omega) | simp [iL, iI, e]); done)); conv => whnf) | ((conv => whnf); exact True.intro))
    · refine ⟨i + 1, by omega, by dsimp only; omega, ?_⟩
      have e : (pths 0 ps).take k = pths 0 ps := List.take_of_length_le (by omega)
      conv => whnf
      repeat (first | exact True.intro | (refine Need.mk ?_ ?_; (focus ((first | rfl | omega | (simp only [List.length_map, List.length_append, List.length_take, List.length_drop, List.length_cons, List.length_nil, List.length_replicate, List.length_set, List.length_reverse, nds_len, numsD_length, pths_len]; omega) | simp [e, pths_take hx, hpp]); done)); conv => whnf) | ((conv => whnf); exact True.intro))
  · have : ns.take i = ns := List.take_of_length_le (by omega)
    rw [this]
    exact ⟨rfl, rfl⟩

def H (k : Nat) (rows : List (List Int)) : Hp := [(0, .var 33 [.full k]), (1, .var 47 [.fn 22 [.ref 0 0 0, .ref 1 0 0]]), (k, .row 24 (rows.map iL))]
theorem clo (m : Nat) : ∀ (ns : List Nd) (path : List Int) (rows : List (List Int)), szs ns < m → szs ns + path.length ≤ 1048576 → szs ns + rows.length ≤ 1048576 →
    CallWP Try.prog 22 [.d (.sl (path.map iI)), .d (.sl (nds ns)), .ref 0 0 0, .ref 1 0 0] (H 2 rows) (fun r h => r = .tup [] ∧ h = H 3 (rows ++ (pths 0 ns).map (path ++ ·))) := by
  induction m with
  | zero => intro ns path rows h; omega
  | succ m ih =>
  intro ns path rows hm hb1 hb2
  have hlen := len_szs ns
  refine CallWP.goM tabOK [2] Try.func22 3 31 rfl rfl rfl rfl ?_
  conv => whnf
  refine WP.loop (α := Nat) tabOK (fun i => i ≤ ns.length) (fun i => ⟨[(0, (.d (.sl (path.map iI)))), (1, (.d (.sl (nds ns)))), (2, .ref 0 0 0), (3, .ref 1 0 0), (9, (.d (.int .i64 ((nds ns).length)))), (10, (.d (.int .i64 (i))))], [(0, .var 33 [.full 3]), (1, .var 47 [.fn 22 [.ref 0 0 0, .ref 1 0 0]]), (3, .row 24 ((rows ++ (pths 0 (ns.take i)).map (path ++ ·)).map iL))], 4, 31⟩) (fun i => ns.length - i) (0) ?_ ?_ ?_
  · exact Nat.zero_le _
  · conv => whnf
    repeat (first | exact True.intro | (refine Need.mk ?_ ?_; (focus ((first | rfl | omega | (simp only [List.length_map, List.length_append, List.length_take, List.length_drop, List.length_cons, List.length_nil, List.length_replicate, List.length_set, List.length_reverse, nds_len, numsD_length, pths_len]; omega) | simp [pths]); done)); conv => whnf) | ((conv => whnf); exact True.intro))
  intro i hi
  have hp := pths_len (ns.take i) 0
  have hs := szs_take_le ns i
  have hcall : ∀ ps, szs (ns.take i) + (szs ps + 1) ≤ szs ns → CallWP Try.prog 22 [.d (.sl ([] ++ path.map iI ++ [[D.int .i64 i]])), .d (.sl (nds ps)), .ref 0 0 0, .ref 1 0 0]
      [(0, .var 33 [.full 2]), (1, .var 47 [.fn 22 [.ref 0 0 0, .ref 1 0 0]]), (2, .row 24 ((rows ++ (pths 0 (ns.take i)).map (path ++ ·)).map iL ++ [[D.sl ([] ++ path.map iI ++ [[D.int .i64 i]])]]))]
      (fun r h => r = .tup [] ∧ h = H 3 (rows ++ (pths 0 (ns.take i)).map (path ++ ·) ++ [path ++ [(i : Int)]] ++ (pths 0 ps).map ((path ++ [(i : Int)]) ++ ·))) := fun ps hps => by
    have e1 : ([] ++ path.map iI ++ [[D.int .i64 i]]) = (path ++ [(i : Int)]).map iI := by simp [iI]
    have e2 : (rows ++ (pths 0 (ns.take i)).map (path ++ ·)).map iL ++ [[D.sl ((path ++ [(i : Int)]).map iI)]] = (rows ++ (pths 0 (ns.take i)).map (path ++ ·) ++ [path ++ [(i : Int)]]).map iL := by simp [iL]
    rw [e1, e2]
    exact ih ps (path ++ [(i : Int)]) _ (by omega) (by simp; omega) (by simp [pths_len]; omega)
  conv => whnf
  repeat' (first
    | (refine Br.tt ?_; conv => whnf)
    | (refine Br.ff ?_; conv => whnf)
    | (refine Both.mk ?_ ?_ <;> conv => whnf)
    | (refine Br.not ?_)
    | (refine Need.mk ?_ ?_; (focus ((first | omega | exact ⟨by omega, by omega⟩ | rfl | exact trivial | assumption | (simp only [List.length_map, List.length_append, List.length_take, List.length_drop, List.length_cons, List.length_nil, List.length_replicate, List.length_set, List.length_reverse, nds_len, numsD_length, pths_len]; omega) | exact nds_each | (refine map_each ?_; intro x; rfl) | simp); done)); conv => whnf)
    | (refine Br.t (by assumption) ?_; conv => whnf)
    | (refine Br.f (by assumption) ?_; conv => whnf)
    | (refine Br.dec (fun hc => ?_) (fun hc => ?_) <;> (try simp only [List.length_map, List.length_append, List.length_take, List.length_drop, List.length_cons, List.length_nil, List.length_replicate, List.length_set, List.length_reverse, nds_len, numsD_length, pths_len] at hc) <;> first | (exfalso; omega) | conv => whnf)
    | (refine Br.eq (fun hc => ?_) (fun hc => ?_) <;> first | (exfalso; omega) | conv => whnf)
    | (refine Br.ne (fun hc => ?_) (fun hc => ?_) <;> first | (exfalso; omega) | conv => whnf)
    | (refine Br.any (fun hc => ?_) (fun hc => ?_) <;> conv => whnf)
    | (refine Fit.inl ?_ ?_; (focus ((first | omega | exact ⟨by omega, by omega⟩ | rfl | exact trivial | assumption | (simp only [List.length_map, List.length_append, List.length_take, List.length_drop, List.length_cons, List.length_nil, List.length_replicate, List.length_set, List.length_reverse, nds_len, numsD_length, pths_len]; omega) | exact nds_each | (refine map_each ?_; intro x; rfl) | simp); done)); conv => whnf)
    | (refine Each.map (fun x hx => ?_); (try simp only [Int.toNat_natCast, Int.toNat_zero, Int.toNat_one, Int.toNat_natCast_add_one] at hx); conv => whnf)
    | (refine Each.nds (fun a b c ps hx => ?_); (try simp only [Int.toNat_natCast, Int.toNat_zero, Int.toNat_one, Int.toNat_natCast_add_one] at hx); conv => whnf)
    | (refine Each.rep ?_; conv => whnf)
    | (refine Each.drop ?_)
    | (refine Each.take (fun hi => ?_))
    | (refine Each.any (fun x hx => ?_); (try simp only [Int.toNat_natCast, Int.toNat_zero, Int.toNat_one, Int.toNat_natCast_add_one] at hx); conv => whnf)
    | (refine NilB.any (fun hn => ?_) ?_ <;> conv => whnf)
    | (refine CallWP.mono (hcall ps (by have := szs_mem hx; simp only [Nd.sz] at this; omega)) ?_; rintro r h ⟨rfl, rfl⟩; conv => whnf)
    | (refine WP.sch (id := 5) tabOK hmix (.mob 1 (.mob 2 (.mob 3 (.mob 4 (.mob 5 (.alt [(0, .alt [(6, .alt [(7, .done)])]), (6, .alt [(0, .alt [(7, .done)])])])))))) (by kernel_rfl) ?_; conv => whnf)
    | exact ⟨rfl, rfl⟩
    | (refine Fin.bool ?_ rfl)
    | (refine Fin.int ?_ rfl)
    | (refine Fin.str ?_ rfl)
    | (refine Fin.sl ?_ rfl)
    | exact trivial)
  · have hpp : Nd.pp (Nd.mk a b c ps) = pths 0 ps := by simp [Nd.pp]
    refine ⟨i + 1, by omega, by dsimp only; omega, ?_⟩
    conv => whnf
    repeat (first | exact True.intro | (refine Need.mk ?_ ?_; (focus ((first | rfl | omega | (simp only [List.length_map, List.length_append, List.length_take, List.length_drop, List.length_cons, List.length_nil, List.length_replicate, List.length_set, List.length_reverse, nds_len, numsD_length, pths_len]; omega) | simp [iL, iI, pths_take hx, hpp]); done)); conv => whnf) | ((conv => whnf); exact True.intro))
  · have hpp : Nd.pp (Nd.mk a b c ps) = pths 0 ps := by simp [Nd.pp]
    refine ⟨i + 1, by omega, by dsimp only; omega, ?_⟩
    conv => whnf
    repeat (first | exact True.intro | (refine Need.mk ?_ ?_; (focus ((first | rfl | omega | (simp only [List.length_map, List.length_append, List.length_take, List.length_drop, List.length_cons, List.length_nil, List.length_replicate, List.length_set, List.length_reverse, nds_len, numsD_length, pths_len]; omega) | simp [iL, iI, pths_take hx, hpp]); done)); conv => whnf) | ((conv => whnf); exact True.intro))
  · have : ns.take i = ns := List.take_of_length_le (by omega)
    rw [this]
    exact ⟨rfl, rfl⟩

theorem pathsR (ns : List Nd) (hb : szs ns ≤ 1048576) : CallWP Try.prog 15 [.d (.sl (nds ns))] [] (fun r h => r = .d (.sl ((pths 0 ns).map iL)) ∧ h = []) := by
  refine CallWP.val (Q := fun r h => r = .full 0 ∧ h = [(0, .row 24 ((pths 0 ns).map iL))]) ?_ (by rintro r h ⟨rfl, rfl⟩; exact ⟨rfl, rfl⟩)
  refine CallWP.go tabOK Try.func15 0 10 rfl rfl rfl rfl ?_
  conv => whnf
  repeat' (first
    | (refine Br.tt ?_; conv => whnf)
    | (refine Br.ff ?_; conv => whnf)
    | (refine Both.mk ?_ ?_ <;> conv => whnf)
    | (refine Br.not ?_)
    | (refine Need.mk ?_ ?_; (focus ((first | omega | exact ⟨by omega, by omega⟩ | rfl | exact trivial | assumption | (simp only [List.length_map, List.length_append, List.length_take, List.length_drop, List.length_cons, List.length_nil, List.length_replicate, List.length_set, List.length_reverse, nds_len, numsD_length, pths_len]; omega) | exact nds_each | (refine map_each ?_; intro x; rfl) | simp); done)); conv => whnf)
    | (refine Br.t (by assumption) ?_; conv => whnf)
    | (refine Br.f (by assumption) ?_; conv => whnf)
    | (refine Br.dec (fun hc => ?_) (fun hc => ?_) <;> (try simp only [List.length_map, List.length_append, List.length_take, List.length_drop, List.length_cons, List.length_nil, List.length_replicate, List.length_set, List.length_reverse, nds_len, numsD_length, pths_len] at hc) <;> first | (exfalso; omega) | conv => whnf)
    | (refine Br.eq (fun hc => ?_) (fun hc => ?_) <;> first | (exfalso; omega) | conv => whnf)
    | (refine Br.ne (fun hc => ?_) (fun hc => ?_) <;> first | (exfalso; omega) | conv => whnf)
    | (refine Br.any (fun hc => ?_) (fun hc => ?_) <;> conv => whnf)
    | (refine Fit.inl ?_ ?_; (focus ((first | omega | exact ⟨by omega, by omega⟩ | rfl | exact trivial | assumption | (simp only [List.length_map, List.length_append, List.length_take, List.length_drop, List.length_cons, List.length_nil, List.length_replicate, List.length_set, List.length_reverse, nds_len, numsD_length, pths_len]; omega) | exact nds_each | (refine map_each ?_; intro x; rfl) | simp); done)); conv => whnf)
    | (refine Each.map (fun x hx => ?_); (try simp only [Int.toNat_natCast, Int.toNat_zero, Int.toNat_one, Int.toNat_natCast_add_one] at hx); conv => whnf)
    | (refine Each.nds (fun a b c ps hx => ?_); (try simp only [Int.toNat_natCast, Int.toNat_zero, Int.toNat_one, Int.toNat_natCast_add_one] at hx); conv => whnf)
    | (refine Each.rep ?_; conv => whnf)
    | (refine Each.drop ?_)
    | (refine Each.take (fun hi => ?_))
    | (refine Each.any (fun x hx => ?_); (try simp only [Int.toNat_natCast, Int.toNat_zero, Int.toNat_one, Int.toNat_natCast_add_one] at hx); conv => whnf)
    | (refine NilB.any (fun hn => ?_) ?_ <;> conv => whnf)
    | (refine CallWP.mono (CallWP.nilCell 24 0 0 rfl rfl (clo _ ns [] [] (Nat.lt_succ_self _) (by simp; omega) (by simp; omega)) rfl) ?_; rintro r h ⟨rfl, rfl⟩; conv => whnf)
    | exact ⟨rfl, rfl⟩
    | (refine Fin.bool ?_ rfl)
    | (refine Fin.int ?_ rfl)
    | (refine Fin.str ?_ rfl)
    | (refine Fin.sl ?_ rfl)
    | exact trivial)
  simp
  rfl
end Go.VL.Paths
