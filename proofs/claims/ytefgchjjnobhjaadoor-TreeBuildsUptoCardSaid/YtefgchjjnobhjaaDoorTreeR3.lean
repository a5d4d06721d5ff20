/- bobbinetref.TreeBuilt. -/
import Derived.Test.YtefgchjjnobhjaaDoorTreeR2
import Derived.Test.YtefgchjjnobhjaaDoorVCrf
import Derived.Test.YtefgchjjnobhjaaDoorStrs
set_option linter.unusedVariables false
set_option linter.unusedSimpArgs false
namespace Go.VL.TreeR3
open Go Go.Proofs Go.VL Go.VL.TreeR1 Go.VL.TreeR2 Go.VL.Strs
--LEN shutF_len
--CREF 5 30 10
--OWN 5 46
--CREF 5 46 10
set_option maxRecDepth 100000
attribute [local irreducible] CallWP WP Need Br Each NilB fit Both
theorem shutF_len (l : List Fl) (i : Int) : (shutF l i).length = l.length := by unfold shutF; split; rfl; simp; omega
def rbuild (ts : List TokT) : List Nd × Int := if ts.length > 300 then ([], 1) else match rrun [] [] ts with
  | (l, 0) => (nodesK (esF l) (l.length + 1) (-1), 0)
  | (_, c) => ([], c)
theorem any_mem (l : List Str) (nm : Str) : l.any (nm == ·) = decide (nm ∈ l) := by
  by_cases h : nm ∈ l
  · rw [decide_eq_true h, List.any_eq_true]; exact ⟨nm, h, by simp⟩
  · rw [decide_eq_false h, List.any_eq_false]
    intro x hx hh
    have : nm = x := by simpa using hh
    exact h (this ▸ hx)
theorem rrun_step {l : List Fl} {mute : Str} {t : TokT} {ts : List TokT} {l' : List Fl} {m' : Str} (h : rstep l mute t = some (l', m')) : rrun l mute (t :: ts) = if l'.length > 150 then ([], 1) else rrun l' m' ts := by
  rw [rrun, h]
/-- What the list is like. -/
structure WfF (B : Nat) (es : List Ent) : Prop where
  par : ∀ (j : Nat) (e : Ent), es[j]? = some e → e.par < j
  text : ∀ e ∈ es, e.text.length ≤ B
theorem WfF.up {B B' : Nat} {es : List Ent} (h : WfF B es) (hB : B ≤ B') : WfF B' es := ⟨h.par, fun e he => by have := h.text e he; omega⟩
theorem WfF.snoc {B : Nat} {es : List Ent} {e : Ent} (h : WfF B es) (h1 : e.par < es.length) (h2 : e.text.length ≤ B) : WfF B (es ++ [e]) := by
  refine ⟨fun j f hf => ?_, fun f hf => ?_⟩
  · by_cases hlt : j < es.length
    · rw [List.getElem?_append_left hlt] at hf; exact h.par j f hf
    · rw [List.getElem?_append_right (by omega)] at hf
      have := (List.getElem?_eq_some_iff.1 hf).1
      simp at this
      rw [show j - es.length = 0 by omega] at hf
      simp at hf
      subst hf; omega
  · rcases List.mem_append.1 hf with hf | hf
    · exact h.text f hf
    · simp at hf; subst hf; exact h2
theorem WfF.set {B : Nat} {es : List Ent} {e f : Ent} {i : Nat} (h : WfF B es) (hi : es[i]? = some e) (h1 : f.par = e.par) (h2 : f.text.length ≤ B) : WfF B (es.set i f) := by
  refine ⟨fun j g hg => ?_, fun g hg => ?_⟩
  · rw [List.getElem?_set] at hg
    by_cases e2 : i = j
    · subst e2
      rw [if_pos rfl, if_pos (List.getElem?_eq_some_iff.1 hi).1] at hg
      cases hg
      rw [h1]; exact h.par _ _ hi
    · rw [if_neg e2] at hg; exact h.par j g hg
  · rcases List.mem_or_eq_of_mem_set hg with hg | rfl
    · exact h.text g hg
    · exact h2
theorem esF_len (l : List Fl) : (esF l).length = l.length := by simp [esF]
theorem es2 (l : List Fl) (nm : Str) : esF (rs2 (rs1 l nm) nm) = esF l := by
  rw [(s2_eq (rs1 l nm) nm).1, (s1_eq l nm).1]
theorem take_count {l : List Fl} {j : Nat} {f : Fl} (h : l[j]? = some f) : (l.take (j + 1)).countP openF = (l.take j).countP openF + (if f.2 = true then 1 else 0) := by
  rw [List.take_add_one, h, List.countP_append]
  unfold openF
  cases hf : f.2 <;> simp [hf]
theorem bnd2 (i n : Nat) (h : n < 2 ^ 40) : n ≤ (i + 1) * 2199023255552 := by omega
theorem bnd3 (i a b : Nat) (ha : a ≤ i * 2199023255552) (hb : b < 2 ^ 40) : a + b ≤ (i + 1) * 2199023255552 := by omega
theorem bnd4 (i a b : Nat) (hi : i ≤ 300) (ha : a ≤ i * 2199023255552) (hb : b < 2 ^ 40) : a + b ≤ 140737488355327000 ∧ a + b ≤ 140737488355327000 := by omega
theorem map_set_t {l : List Fl} {k : Nat} {e : Ent} {b : Bool} {x : Str} : (l.map flD).set k [.int .i64 e.par, .str e.name, .sl (e.attrs.map Attr.d), .str x, .sl [], .bool b, .bool e.tx] = (l.set k ({ e with text := x }, b)).map flD := by rw [List.map_set]; rfl
theorem bnd (i : Nat) : i * 2199023255552 ≤ (i + 1) * 2199023255552 := by omega
set_option maxHeartbeats 8000000 in
theorem treeR (ts : List TokT) (hsz : ∀ t ∈ ts, t.attrs.length < 2 ^ 40 ∧ t.text.length < 2 ^ 40) : CallWP Tryd.prog 5 [.d (.sl (ts.map Token.d))] [] (fun r h => r = .tup [.d (.sl (nds (rbuild ts).1)), (.d (.int .i64 ((rbuild ts).2)))] ∧ h = []) := by
  refine CallWP.val (Q := fun r h => (r = .tup [.nils, (.d (.int .i64 ((rbuild ts).2)))] ∧ (rbuild ts).1 = [] ∧ h = []) ∨ (r = .tup [.d (.sl (nds (rbuild ts).1)), (.d (.int .i64 ((rbuild ts).2)))] ∧ h = [])) ?_ (by
    rintro r h (⟨rfl, e, rfl⟩ | ⟨rfl, rfl⟩)
    · rw [e]; exact ⟨rfl, rfl⟩
    · exact ⟨rfl, rfl⟩)
  by_cases hbig : ts.length > 300
  · have e : rbuild ts = ([], 1) := by unfold rbuild; rw [if_pos hbig]
    rw [e]
    (refine CallWP.go tabOK Tryd.func5 0 200 rfl rfl rfl rfl ?_; conv => whnf)
    repeat' (first
    | (refine Br.tt ?_; conv => whnf)
    | (refine Br.ff ?_; conv => whnf)
    | (refine Both.mk ?_ ?_ <;> conv => whnf)
    | (refine Br.not ?_)
    | (refine Need.mk ?_ ?_; (focus ((first | omega | exact ⟨by omega, by omega⟩ | rfl | exact trivial | assumption | (simp only [List.length_map, List.length_append, List.length_take, List.length_drop, List.length_cons, List.length_nil, List.length_replicate, List.length_set, List.length_reverse, nds_len, numsD_length, shutF_len]; omega) | (simp only [List.length_map, List.length_append, List.length_take, List.length_drop, List.length_cons, List.length_nil, List.length_replicate, List.length_set, List.length_reverse, nds_len, numsD_length, shutF_len]; exact ⟨by omega, by omega⟩) | exact nds_each | (refine map_each ?_; intro x; rfl) | (refine first_map ?_; intro x; rfl) | exact first_nds | simp | (simp; omega)); done)); conv => whnf)
    | (refine Br.t (by assumption) ?_; conv => whnf)
    | (refine Br.f (by assumption) ?_; conv => whnf)
    | (refine Br.self ?_; conv => whnf)
    | (refine Br.decT (by assumption) ?_; conv => whnf)
    | (refine Br.decF (by assumption) ?_; conv => whnf)
    | (refine Br.eqT (by assumption) ?_; conv => whnf)
    | (refine Br.eqF (by assumption) ?_; conv => whnf)
    | (refine Br.dec (fun hc => ?_) (fun hc => ?_) <;> (try simp only [List.length_map, List.length_append, List.length_take, List.length_drop, List.length_cons, List.length_nil, List.length_replicate, List.length_set, List.length_reverse, nds_len, numsD_length, shutF_len] at hc) <;> first | (exfalso; omega) | exact absurd trivial hc | exact absurd rfl hc | conv => whnf)
    | (refine Br.eq (fun hc => ?_) (fun hc => ?_) <;> first | (exfalso; omega) | exact absurd trivial hc | exact absurd rfl hc | conv => whnf)
    | (refine Br.ne (fun hc => ?_) (fun hc => ?_) <;> first | (exfalso; omega) | exact absurd trivial hc | exact absurd rfl hc | conv => whnf)
    | (with_reducible refine Br.and ?_)
    | (with_reducible refine Br.or ?_)
    | (refine Br.any (fun hc => ?_) (fun hc => ?_) <;> conv => whnf)
    | (refine Fit.inl ?_ ?_; (focus ((first | omega | exact ⟨by omega, by omega⟩ | rfl | exact trivial | assumption | (simp only [List.length_map, List.length_append, List.length_take, List.length_drop, List.length_cons, List.length_nil, List.length_replicate, List.length_set, List.length_reverse, nds_len, numsD_length, shutF_len]; omega) | (simp only [List.length_map, List.length_append, List.length_take, List.length_drop, List.length_cons, List.length_nil, List.length_replicate, List.length_set, List.length_reverse, nds_len, numsD_length, shutF_len]; exact ⟨by omega, by omega⟩) | exact nds_each | (refine map_each ?_; intro x; rfl) | (refine first_map ?_; intro x; rfl) | exact first_nds | simp | (simp; omega)); done)); conv => whnf)
    | (refine Each.mapAt (by assumption) ?_; conv => whnf)
    | (refine Each.ndsAt (by assumption) ?_; conv => whnf)
    | (refine Each.at (by assumption) ?_; conv => whnf)
    | (refine Each.map (fun x hx => ?_); (try simp only [Int.toNat_natCast, Int.toNat_zero, Int.toNat_one, Int.toNat_natCast_add_one] at hx); conv => whnf)
    | (refine Each.nds (fun a b c ps hx => ?_); (try simp only [Int.toNat_natCast, Int.toNat_zero, Int.toNat_one, Int.toNat_natCast_add_one] at hx); conv => whnf)
    | (refine Each.rep ?_; conv => whnf)
    | (refine Each.drop ?_)
    | (refine Each.take (fun hi => ?_))
    | (refine Each.any (fun x hx => ?_); (try simp only [Int.toNat_natCast, Int.toNat_zero, Int.toNat_one, Int.toNat_natCast_add_one] at hx); conv => whnf)
    | (refine NilB.any (fun hn => ?_) ?_ <;> conv => whnf)
    | (refine ⟨_, bytesOfD_nums _, ?_⟩; conv => whnf)
    | (refine WP.sch (id := 30) tabOK hmix (.mob 1 (.mob 2 (.mob 3 (.mob 4 (.mob 5 (.mob 8 (.mob 9 (.mob 10 (.alt [(0, .alt [(6, .mob 11 (.mob 12 (.mob 13 (.alt [(7, .alt [(14, .alt [(15, .mob 16 (.mob 17 (.alt [(18, .alt [(19, .alt [(20, .alt [(21, .done)])])])])))])]), (14, .alt [(7, .alt [(15, .mob 16 (.mob 17 (.alt [(18, .alt [(19, .alt [(20, .alt [(21, .done)])])])])))]), (15, .mob 16 (.mob 17 (.alt [(7, .alt [(18, .alt [(19, .alt [(20, .alt [(21, .done)])])])])])))])]))))]), (6, .mob 11 (.mob 12 (.mob 13 (.alt [(0, .alt [(7, .alt [(14, .alt [(15, .mob 16 (.mob 17 (.alt [(18, .alt [(19, .alt [(20, .alt [(21, .done)])])])])))])]), (14, .alt [(7, .alt [(15, .mob 16 (.mob 17 (.alt [(18, .alt [(19, .alt [(20, .alt [(21, .done)])])])])))]), (15, .mob 16 (.mob 17 (.alt [(7, .alt [(18, .alt [(19, .alt [(20, .alt [(21, .done)])])])])])))])]), (7, .alt [(0, .alt [(14, .alt [(15, .mob 16 (.mob 17 (.alt [(18, .alt [(19, .alt [(20, .alt [(21, .done)])])])])))])]), (14, .alt [(0, .alt [(15, .mob 16 (.mob 17 (.alt [(18, .alt [(19, .alt [(20, .alt [(21, .done)])])])])))]), (15, .mob 16 (.mob 17 (.alt [(0, .alt [(18, .alt [(19, .alt [(20, .alt [(21, .done)])])])]), (18, .alt [(0, .alt [(19, .alt [(20, .alt [(21, .done)])])]), (19, .alt [(0, .alt [(20, .alt [(21, .done)])])])])])))])]), (14, .alt [(0, .alt [(7, .alt [(15, .mob 16 (.mob 17 (.alt [(18, .alt [(19, .alt [(20, .alt [(21, .done)])])])])))]), (15, .mob 16 (.mob 17 (.alt [(7, .alt [(18, .alt [(19, .alt [(20, .alt [(21, .done)])])])])])))]), (7, .alt [(0, .alt [(15, .mob 16 (.mob 17 (.alt [(18, .alt [(19, .alt [(20, .alt [(21, .done)])])])])))]), (15, .mob 16 (.mob 17 (.alt [(0, .alt [(18, .alt [(19, .alt [(20, .alt [(21, .done)])])])]), (18, .alt [(0, .alt [(19, .alt [(20, .alt [(21, .done)])])]), (19, .alt [(0, .alt [(20, .alt [(21, .done)])])])])])))]), (15, .mob 16 (.mob 17 (.alt [(0, .alt [(7, .alt [(18, .alt [(19, .alt [(20, .alt [(21, .done)])])])])]), (7, .alt [(0, .alt [(18, .alt [(19, .alt [(20, .alt [(21, .done)])])])]), (18, .alt [(0, .alt [(19, .alt [(20, .alt [(21, .done)])])]), (19, .alt [(0, .alt [(20, .alt [(21, .done)])])])])])])))])]))))]))))))))) (by kernel_rfl) ?_; conv => whnf)
    | (refine WP.sch (id := 46) tabOK hmix (.mob 1 (.mob 6 (.mob 7 (.alt [(0, .mob 2 (.mob 3 (.mob 4 (.alt [(5, .mob 8 (.mob 9 (.mob 10 (.mob 11 (.alt [(12, .done)])))))]))))])))) (by kernel_rfl) ?_; conv => whnf)
    | exact ⟨rfl, rfl⟩
    | (refine Fin.bool ?_ rfl)
    | (refine Fin.int ?_ rfl)
    | (refine Fin.str ?_ rfl)
    | (refine Fin.sl ?_ rfl)
    | exact trivial)
    exact .inl ⟨rfl, rfl, rfl⟩
  (refine CallWP.go tabOK Tryd.func5 0 200 rfl rfl rfl rfl ?_; conv => whnf)
  repeat' (first
    | (refine Br.tt ?_; conv => whnf)
    | (refine Br.ff ?_; conv => whnf)
    | (refine Both.mk ?_ ?_ <;> conv => whnf)
    | (refine Br.not ?_)
    | (refine Need.mk ?_ ?_; (focus ((first | omega | exact ⟨by omega, by omega⟩ | rfl | exact trivial | assumption | (simp only [List.length_map, List.length_append, List.length_take, List.length_drop, List.length_cons, List.length_nil, List.length_replicate, List.length_set, List.length_reverse, nds_len, numsD_length, shutF_len]; omega) | (simp only [List.length_map, List.length_append, List.length_take, List.length_drop, List.length_cons, List.length_nil, List.length_replicate, List.length_set, List.length_reverse, nds_len, numsD_length, shutF_len]; exact ⟨by omega, by omega⟩) | exact nds_each | (refine map_each ?_; intro x; rfl) | (refine first_map ?_; intro x; rfl) | exact first_nds | simp | (simp; omega)); done)); conv => whnf)
    | (refine Br.t (by assumption) ?_; conv => whnf)
    | (refine Br.f (by assumption) ?_; conv => whnf)
    | (refine Br.self ?_; conv => whnf)
    | (refine Br.decT (by assumption) ?_; conv => whnf)
    | (refine Br.decF (by assumption) ?_; conv => whnf)
    | (refine Br.eqT (by assumption) ?_; conv => whnf)
    | (refine Br.eqF (by assumption) ?_; conv => whnf)
    | (refine Br.dec (fun hc => ?_) (fun hc => ?_) <;> (try simp only [List.length_map, List.length_append, List.length_take, List.length_drop, List.length_cons, List.length_nil, List.length_replicate, List.length_set, List.length_reverse, nds_len, numsD_length, shutF_len] at hc) <;> first | (exfalso; omega) | exact absurd trivial hc | exact absurd rfl hc | conv => whnf)
    | (refine Br.eq (fun hc => ?_) (fun hc => ?_) <;> first | (exfalso; omega) | exact absurd trivial hc | exact absurd rfl hc | conv => whnf)
    | (refine Br.ne (fun hc => ?_) (fun hc => ?_) <;> first | (exfalso; omega) | exact absurd trivial hc | exact absurd rfl hc | conv => whnf)
    | (with_reducible refine Br.and ?_)
    | (with_reducible refine Br.or ?_)
    | (refine Br.any (fun hc => ?_) (fun hc => ?_) <;> conv => whnf)
    | (refine Fit.inl ?_ ?_; (focus ((first | omega | exact ⟨by omega, by omega⟩ | rfl | exact trivial | assumption | (simp only [List.length_map, List.length_append, List.length_take, List.length_drop, List.length_cons, List.length_nil, List.length_replicate, List.length_set, List.length_reverse, nds_len, numsD_length, shutF_len]; omega) | (simp only [List.length_map, List.length_append, List.length_take, List.length_drop, List.length_cons, List.length_nil, List.length_replicate, List.length_set, List.length_reverse, nds_len, numsD_length, shutF_len]; exact ⟨by omega, by omega⟩) | exact nds_each | (refine map_each ?_; intro x; rfl) | (refine first_map ?_; intro x; rfl) | exact first_nds | simp | (simp; omega)); done)); conv => whnf)
    | (refine Each.mapAt (by assumption) ?_; conv => whnf)
    | (refine Each.ndsAt (by assumption) ?_; conv => whnf)
    | (refine Each.at (by assumption) ?_; conv => whnf)
    | (refine Each.map (fun x hx => ?_); (try simp only [Int.toNat_natCast, Int.toNat_zero, Int.toNat_one, Int.toNat_natCast_add_one] at hx); conv => whnf)
    | (refine Each.nds (fun a b c ps hx => ?_); (try simp only [Int.toNat_natCast, Int.toNat_zero, Int.toNat_one, Int.toNat_natCast_add_one] at hx); conv => whnf)
    | (refine Each.rep ?_; conv => whnf)
    | (refine Each.drop ?_)
    | (refine Each.take (fun hi => ?_))
    | (refine Each.any (fun x hx => ?_); (try simp only [Int.toNat_natCast, Int.toNat_zero, Int.toNat_one, Int.toNat_natCast_add_one] at hx); conv => whnf)
    | (refine NilB.any (fun hn => ?_) ?_ <;> conv => whnf)
    | (refine ⟨_, bytesOfD_nums _, ?_⟩; conv => whnf)
    | (refine WP.sch (id := 30) tabOK hmix (.mob 1 (.mob 2 (.mob 3 (.mob 4 (.mob 5 (.mob 8 (.mob 9 (.mob 10 (.alt [(0, .alt [(6, .mob 11 (.mob 12 (.mob 13 (.alt [(7, .alt [(14, .alt [(15, .mob 16 (.mob 17 (.alt [(18, .alt [(19, .alt [(20, .alt [(21, .done)])])])])))])]), (14, .alt [(7, .alt [(15, .mob 16 (.mob 17 (.alt [(18, .alt [(19, .alt [(20, .alt [(21, .done)])])])])))]), (15, .mob 16 (.mob 17 (.alt [(7, .alt [(18, .alt [(19, .alt [(20, .alt [(21, .done)])])])])])))])]))))]), (6, .mob 11 (.mob 12 (.mob 13 (.alt [(0, .alt [(7, .alt [(14, .alt [(15, .mob 16 (.mob 17 (.alt [(18, .alt [(19, .alt [(20, .alt [(21, .done)])])])])))])]), (14, .alt [(7, .alt [(15, .mob 16 (.mob 17 (.alt [(18, .alt [(19, .alt [(20, .alt [(21, .done)])])])])))]), (15, .mob 16 (.mob 17 (.alt [(7, .alt [(18, .alt [(19, .alt [(20, .alt [(21, .done)])])])])])))])]), (7, .alt [(0, .alt [(14, .alt [(15, .mob 16 (.mob 17 (.alt [(18, .alt [(19, .alt [(20, .alt [(21, .done)])])])])))])]), (14, .alt [(0, .alt [(15, .mob 16 (.mob 17 (.alt [(18, .alt [(19, .alt [(20, .alt [(21, .done)])])])])))]), (15, .mob 16 (.mob 17 (.alt [(0, .alt [(18, .alt [(19, .alt [(20, .alt [(21, .done)])])])]), (18, .alt [(0, .alt [(19, .alt [(20, .alt [(21, .done)])])]), (19, .alt [(0, .alt [(20, .alt [(21, .done)])])])])])))])]), (14, .alt [(0, .alt [(7, .alt [(15, .mob 16 (.mob 17 (.alt [(18, .alt [(19, .alt [(20, .alt [(21, .done)])])])])))]), (15, .mob 16 (.mob 17 (.alt [(7, .alt [(18, .alt [(19, .alt [(20, .alt [(21, .done)])])])])])))]), (7, .alt [(0, .alt [(15, .mob 16 (.mob 17 (.alt [(18, .alt [(19, .alt [(20, .alt [(21, .done)])])])])))]), (15, .mob 16 (.mob 17 (.alt [(0, .alt [(18, .alt [(19, .alt [(20, .alt [(21, .done)])])])]), (18, .alt [(0, .alt [(19, .alt [(20, .alt [(21, .done)])])]), (19, .alt [(0, .alt [(20, .alt [(21, .done)])])])])])))]), (15, .mob 16 (.mob 17 (.alt [(0, .alt [(7, .alt [(18, .alt [(19, .alt [(20, .alt [(21, .done)])])])])]), (7, .alt [(0, .alt [(18, .alt [(19, .alt [(20, .alt [(21, .done)])])])]), (18, .alt [(0, .alt [(19, .alt [(20, .alt [(21, .done)])])]), (19, .alt [(0, .alt [(20, .alt [(21, .done)])])])])])])))])]))))]))))))))) (by kernel_rfl) ?_; conv => whnf)
    | (refine WP.sch (id := 46) tabOK hmix (.mob 1 (.mob 6 (.mob 7 (.alt [(0, .mob 2 (.mob 3 (.mob 4 (.alt [(5, .mob 8 (.mob 9 (.mob 10 (.mob 11 (.alt [(12, .done)])))))]))))])))) (by kernel_rfl) ?_; conv => whnf)
    | exact ⟨rfl, rfl⟩
    | (refine Fin.bool ?_ rfl)
    | (refine Fin.int ?_ rfl)
    | (refine Fin.str ?_ rfl)
    | (refine Fin.sl ?_ rfl)
    | exact trivial)
  refine WP.nilCell 49 0 0 rfl rfl ?_
  refine WP.loop (α := (Nat × List Fl × Str)) tabOK (fun ⟨i, l, mute⟩ => i ≤ ts.length ∧ l.length ≤ 150 ∧ rrun l mute (ts.drop i) = rrun [] [] ts ∧ WfF (i * 2199023255552) (esF l)) (fun ⟨i, l, mute⟩ => ⟨[(4, .ref 0 0 0), (5, (.d (.str (mute)))), (6, .fn 12 [.ref 0 0 0]), (7, .fn 13 [.ref 0 0 0]), (8, .fn 14 [.ref 0 0 0]), (26, (.d (.sl (ts.map Token.d)))), (27, (.d (.int .i64 ((ts.map Token.d).length)))), (28, (.d (.int .i64 (i))))], [(0, .var 45 [.full 1]), (1, .row 49 (l.map flD))], 2, 200⟩) (fun ⟨i, l, mute⟩ => ts.length - i) ((0, [], [])) ?_ ?_ ?_
  · exact ⟨Nat.zero_le _, by simp, rfl, ⟨fun j e h => by simp [esF] at h, fun e h => by simp [esF] at h⟩⟩
  · conv => whnf
    repeat (first | exact True.intro | (refine Need.mk ?_ ?_; (focus ((first | rfl | assumption | omega | (simp only [List.length_map, List.length_append, List.length_take, List.length_drop, List.length_cons, List.length_nil, List.length_replicate, List.length_set, List.length_reverse, nds_len, numsD_length, shutF_len]; omega) | simp); done)); conv => whnf) | ((conv => whnf); exact True.intro))
  rintro ⟨i, l, mute⟩ ⟨hi, hl, hrun, hwf⟩
  dsimp only at hi hl hrun hwf ⊢
  by_cases hlt : i < ts.length
  · obtain ⟨t, ht⟩ : ∃ y, ts[i]? = some y := ⟨_, List.getElem?_eq_getElem hlt⟩
    obtain ⟨hz1, hz2⟩ := hsz t (List.mem_of_getElem? ht)
    have hdrop : ts.drop i = t :: ts.drop (i + 1) := by
      obtain ⟨_, rfl⟩ := List.getElem?_eq_some_iff.1 ht
      exact List.drop_eq_getElem_cons hlt
    rw [hdrop] at hrun
    by_cases k4 : t.kind = 4
    · have hps : rstep l mute t = some (l, mute) := by unfold rstep; rw [if_neg (by omega), if_neg (by omega), if_neg (by omega), if_pos k4]
      rw [rrun_step hps, if_neg (by omega)] at hrun
      have hwf' := hwf.up (bnd i)
      conv => whnf
      repeat' (first
    | (refine Br.tt ?_; conv => whnf)
    | (refine Br.ff ?_; conv => whnf)
    | (refine Both.mk ?_ ?_ <;> conv => whnf)
    | (refine Br.not ?_)
    | (refine Need.mk ?_ ?_; (focus ((first | omega | exact ⟨by omega, by omega⟩ | rfl | exact trivial | assumption | (simp only [List.length_map, List.length_append, List.length_take, List.length_drop, List.length_cons, List.length_nil, List.length_replicate, List.length_set, List.length_reverse, nds_len, numsD_length, shutF_len]; omega) | (simp only [List.length_map, List.length_append, List.length_take, List.length_drop, List.length_cons, List.length_nil, List.length_replicate, List.length_set, List.length_reverse, nds_len, numsD_length, shutF_len]; exact ⟨by omega, by omega⟩) | exact nds_each | (refine map_each ?_; intro x; rfl) | (refine first_map ?_; intro x; rfl) | exact first_nds | simp | (simp; omega)); done)); conv => whnf)
    | (refine Br.t (by assumption) ?_; conv => whnf)
    | (refine Br.f (by assumption) ?_; conv => whnf)
    | (refine Br.self ?_; conv => whnf)
    | (refine Br.decT (by assumption) ?_; conv => whnf)
    | (refine Br.decF (by assumption) ?_; conv => whnf)
    | (refine Br.eqT (by assumption) ?_; conv => whnf)
    | (refine Br.eqF (by assumption) ?_; conv => whnf)
    | (refine Br.dec (fun hc => ?_) (fun hc => ?_) <;> (try simp only [List.length_map, List.length_append, List.length_take, List.length_drop, List.length_cons, List.length_nil, List.length_replicate, List.length_set, List.length_reverse, nds_len, numsD_length, shutF_len] at hc) <;> first | (exfalso; omega) | exact absurd trivial hc | exact absurd rfl hc | conv => whnf)
    | (refine Br.eq (fun hc => ?_) (fun hc => ?_) <;> first | (exfalso; omega) | exact absurd trivial hc | exact absurd rfl hc | conv => whnf)
    | (refine Br.ne (fun hc => ?_) (fun hc => ?_) <;> first | (exfalso; omega) | exact absurd trivial hc | exact absurd rfl hc | conv => whnf)
    | (with_reducible refine Br.and ?_)
    | (with_reducible refine Br.or ?_)
    | (refine Br.any (fun hc => ?_) (fun hc => ?_) <;> conv => whnf)
    | (refine Fit.inl ?_ ?_; (focus ((first | omega | exact ⟨by omega, by omega⟩ | rfl | exact trivial | assumption | (simp only [List.length_map, List.length_append, List.length_take, List.length_drop, List.length_cons, List.length_nil, List.length_replicate, List.length_set, List.length_reverse, nds_len, numsD_length, shutF_len]; omega) | (simp only [List.length_map, List.length_append, List.length_take, List.length_drop, List.length_cons, List.length_nil, List.length_replicate, List.length_set, List.length_reverse, nds_len, numsD_length, shutF_len]; exact ⟨by omega, by omega⟩) | exact nds_each | (refine map_each ?_; intro x; rfl) | (refine first_map ?_; intro x; rfl) | exact first_nds | simp | (simp; omega)); done)); conv => whnf)
    | (refine Each.mapAt (by assumption) ?_; conv => whnf)
    | (refine Each.ndsAt (by assumption) ?_; conv => whnf)
    | (refine Each.at (by assumption) ?_; conv => whnf)
    | (refine Each.map (fun x hx => ?_); (try simp only [Int.toNat_natCast, Int.toNat_zero, Int.toNat_one, Int.toNat_natCast_add_one] at hx); conv => whnf)
    | (refine Each.nds (fun a b c ps hx => ?_); (try simp only [Int.toNat_natCast, Int.toNat_zero, Int.toNat_one, Int.toNat_natCast_add_one] at hx); conv => whnf)
    | (refine Each.rep ?_; conv => whnf)
    | (refine Each.drop ?_)
    | (refine Each.take (fun hi => ?_))
    | (refine Each.any (fun x hx => ?_); (try simp only [Int.toNat_natCast, Int.toNat_zero, Int.toNat_one, Int.toNat_natCast_add_one] at hx); conv => whnf)
    | (refine NilB.any (fun hn => ?_) ?_ <;> conv => whnf)
    | (refine ⟨_, bytesOfD_nums _, ?_⟩; conv => whnf)
    | (refine WP.sch (id := 30) tabOK hmix (.mob 1 (.mob 2 (.mob 3 (.mob 4 (.mob 5 (.mob 8 (.mob 9 (.mob 10 (.alt [(0, .alt [(6, .mob 11 (.mob 12 (.mob 13 (.alt [(7, .alt [(14, .alt [(15, .mob 16 (.mob 17 (.alt [(18, .alt [(19, .alt [(20, .alt [(21, .done)])])])])))])]), (14, .alt [(7, .alt [(15, .mob 16 (.mob 17 (.alt [(18, .alt [(19, .alt [(20, .alt [(21, .done)])])])])))]), (15, .mob 16 (.mob 17 (.alt [(7, .alt [(18, .alt [(19, .alt [(20, .alt [(21, .done)])])])])])))])]))))]), (6, .mob 11 (.mob 12 (.mob 13 (.alt [(0, .alt [(7, .alt [(14, .alt [(15, .mob 16 (.mob 17 (.alt [(18, .alt [(19, .alt [(20, .alt [(21, .done)])])])])))])]), (14, .alt [(7, .alt [(15, .mob 16 (.mob 17 (.alt [(18, .alt [(19, .alt [(20, .alt [(21, .done)])])])])))]), (15, .mob 16 (.mob 17 (.alt [(7, .alt [(18, .alt [(19, .alt [(20, .alt [(21, .done)])])])])])))])]), (7, .alt [(0, .alt [(14, .alt [(15, .mob 16 (.mob 17 (.alt [(18, .alt [(19, .alt [(20, .alt [(21, .done)])])])])))])]), (14, .alt [(0, .alt [(15, .mob 16 (.mob 17 (.alt [(18, .alt [(19, .alt [(20, .alt [(21, .done)])])])])))]), (15, .mob 16 (.mob 17 (.alt [(0, .alt [(18, .alt [(19, .alt [(20, .alt [(21, .done)])])])]), (18, .alt [(0, .alt [(19, .alt [(20, .alt [(21, .done)])])]), (19, .alt [(0, .alt [(20, .alt [(21, .done)])])])])])))])]), (14, .alt [(0, .alt [(7, .alt [(15, .mob 16 (.mob 17 (.alt [(18, .alt [(19, .alt [(20, .alt [(21, .done)])])])])))]), (15, .mob 16 (.mob 17 (.alt [(7, .alt [(18, .alt [(19, .alt [(20, .alt [(21, .done)])])])])])))]), (7, .alt [(0, .alt [(15, .mob 16 (.mob 17 (.alt [(18, .alt [(19, .alt [(20, .alt [(21, .done)])])])])))]), (15, .mob 16 (.mob 17 (.alt [(0, .alt [(18, .alt [(19, .alt [(20, .alt [(21, .done)])])])]), (18, .alt [(0, .alt [(19, .alt [(20, .alt [(21, .done)])])]), (19, .alt [(0, .alt [(20, .alt [(21, .done)])])])])])))]), (15, .mob 16 (.mob 17 (.alt [(0, .alt [(7, .alt [(18, .alt [(19, .alt [(20, .alt [(21, .done)])])])])]), (7, .alt [(0, .alt [(18, .alt [(19, .alt [(20, .alt [(21, .done)])])])]), (18, .alt [(0, .alt [(19, .alt [(20, .alt [(21, .done)])])]), (19, .alt [(0, .alt [(20, .alt [(21, .done)])])])])])])))])]))))]))))))))) (by kernel_rfl) ?_; conv => whnf)
    | (refine WP.sch (id := 46) tabOK hmix (.mob 1 (.mob 6 (.mob 7 (.alt [(0, .mob 2 (.mob 3 (.mob 4 (.alt [(5, .mob 8 (.mob 9 (.mob 10 (.mob 11 (.alt [(12, .done)])))))]))))])))) (by kernel_rfl) ?_; conv => whnf)
    | exact ⟨rfl, rfl⟩
    | (refine Fin.bool ?_ rfl)
    | (refine Fin.int ?_ rfl)
    | (refine Fin.str ?_ rfl)
    | (refine Fin.sl ?_ rfl)
    | exact trivial)
      refine ⟨(i + 1, l, mute), ⟨by omega, hl, hrun, hwf'⟩, by dsimp only; omega, ?_⟩
      conv => whnf
      repeat (first | exact True.intro | (refine Need.mk ?_ ?_; (focus ((first | rfl | assumption | omega | (simp only [List.length_map, List.length_append, List.length_take, List.length_drop, List.length_cons, List.length_nil, List.length_replicate, List.length_set, List.length_reverse, nds_len, numsD_length, shutF_len]; omega) | simp); done)); conv => whnf) | ((conv => whnf); exact True.intro))
    by_cases k1 : t.kind = 1
    · have hps : rstep l mute t = some (rstart l t) := by unfold rstep; rw [if_pos k1]
      have hl40 : l.length < 2 ^ 40 := by omega
      have hany := any_mem blocksN t.name
      apply WP.later (P := Tryd.prog) (B := 0) (fun l2 : List Fl => ⟨[(4, .ref 0 0 0), (5, (.d (.str ([])))), (6, .fn 12 [.ref 0 0 0]), (7, .fn 13 [.ref 0 0 0]), (8, .fn 14 [.ref 0 0 0]), (10, .ref 1 0 0), (11, (.d (.int .i64 (0)))), (26, (.d (.sl (ts.map Token.d)))), (27, (.d (.int .i64 ((ts.map Token.d).length)))), (28, (.d (.int .i64 (i)))), (65, .full 2), (66, (.d (.int .i64 ((l2.map flD).length)))), (67, (.d (.int .i64 (0))))], [(0, .var 45 [.full 2]), (1, .var 39 [(.d (.int .i64 (t.kind))), (.d (.str (t.name))), (.d (.sl (t.attrs.map Attr.d))), (.d (.bool (t.self))), (.d (.str (t.text)))]), (2, .row 49 (l2.map flD))], 3, 200⟩) (fun l2 => rs2 (rs1 l t.name) t.name = l2)
      · intro H
        by_cases hm : t.name ∈ blocksN
        · rw [decide_eq_true hm] at hany
          have h1 : rs1 l t.name = shutF l (lastIx (openN sP) l) := by unfold rs1; rw [if_pos hm]
          obtain ⟨l1, hl1⟩ : ∃ l1, shutF l (lastIx (openN [112]) l) = l1 := ⟨_, rfl⟩
          have h1 : rs1 l t.name = l1 := by rw [h1]; exact hl1
          have len1 : l1.length = l.length := by rw [← hl1]; exact shutF_len _ _
          have g1 := lastOf_ l [112] hl40
          have g2 := shut_ l (lastIx (openN [112]) l) (lastIx_bound _ _) hl40
          rw [hl1] at g2
          have g3 := lastOf_ l1 [108, 105] (by omega)
          have g4 := lastOf_ l1 [117, 108] (by omega)
          have g5 := lastOf_ l1 [111, 108] (by omega)
          have g6 := shut_ l1 (lastIx (openN [108, 105]) l1) (lastIx_bound _ _) (by omega)
          by_cases hli : t.name = [108, 105]
          · by_cases c1 : lastIx (openN [108, 105]) l1 > lastIx (openN [117, 108]) l1
            · by_cases c2 : lastIx (openN [108, 105]) l1 > lastIx (openN [111, 108]) l1
              · have h2 : rs2 (rs1 l t.name) t.name = shutF l1 (lastIx (openN [108, 105]) l1) := by rw [h1]; unfold rs2; rw [if_pos ⟨hli, c1, c2⟩]; rfl
                conv => whnf
                repeat' (first
    | (refine Br.tt ?_; conv => whnf)
    | (refine Br.ff ?_; conv => whnf)
    | (refine Both.mk ?_ ?_ <;> conv => whnf)
    | (refine Br.not ?_)
    | (refine Need.mk ?_ ?_; (focus ((first | omega | exact ⟨by omega, by omega⟩ | rfl | exact trivial | assumption | (simp only [List.length_map, List.length_append, List.length_take, List.length_drop, List.length_cons, List.length_nil, List.length_replicate, List.length_set, List.length_reverse, nds_len, numsD_length, shutF_len]; omega) | (simp only [List.length_map, List.length_append, List.length_take, List.length_drop, List.length_cons, List.length_nil, List.length_replicate, List.length_set, List.length_reverse, nds_len, numsD_length, shutF_len]; exact ⟨by omega, by omega⟩) | exact nds_each | (refine map_each ?_; intro x; rfl) | (refine first_map ?_; intro x; rfl) | exact first_nds | simp | (simp; omega)); done)); conv => whnf)
    | (refine Br.t (by assumption) ?_; conv => whnf)
    | (refine Br.f (by assumption) ?_; conv => whnf)
    | (refine Br.self ?_; conv => whnf)
    | (refine Br.decT (by assumption) ?_; conv => whnf)
    | (refine Br.decF (by assumption) ?_; conv => whnf)
    | (refine Br.eqT (by assumption) ?_; conv => whnf)
    | (refine Br.eqF (by assumption) ?_; conv => whnf)
    | (refine Br.dec (fun hc => ?_) (fun hc => ?_) <;> (try simp only [List.length_map, List.length_append, List.length_take, List.length_drop, List.length_cons, List.length_nil, List.length_replicate, List.length_set, List.length_reverse, nds_len, numsD_length, shutF_len] at hc) <;> first | (exfalso; omega) | exact absurd trivial hc | exact absurd rfl hc | conv => whnf)
    | (refine Br.eq (fun hc => ?_) (fun hc => ?_) <;> first | (exfalso; omega) | exact absurd trivial hc | exact absurd rfl hc | conv => whnf)
    | (refine Br.ne (fun hc => ?_) (fun hc => ?_) <;> first | (exfalso; omega) | exact absurd trivial hc | exact absurd rfl hc | conv => whnf)
    | (with_reducible refine Br.and ?_)
    | (with_reducible refine Br.or ?_)
    | (refine Br.any (fun hc => ?_) (fun hc => ?_) <;> conv => whnf)
    | (refine Fit.inl ?_ ?_; (focus ((first | omega | exact ⟨by omega, by omega⟩ | rfl | exact trivial | assumption | (simp only [List.length_map, List.length_append, List.length_take, List.length_drop, List.length_cons, List.length_nil, List.length_replicate, List.length_set, List.length_reverse, nds_len, numsD_length, shutF_len]; omega) | (simp only [List.length_map, List.length_append, List.length_take, List.length_drop, List.length_cons, List.length_nil, List.length_replicate, List.length_set, List.length_reverse, nds_len, numsD_length, shutF_len]; exact ⟨by omega, by omega⟩) | exact nds_each | (refine map_each ?_; intro x; rfl) | (refine first_map ?_; intro x; rfl) | exact first_nds | simp | (simp; omega)); done)); conv => whnf)
    | (refine Each.mapAt (by assumption) ?_; conv => whnf)
    | (refine Each.ndsAt (by assumption) ?_; conv => whnf)
    | (refine Each.at (by assumption) ?_; conv => whnf)
    | (refine Each.map (fun x hx => ?_); (try simp only [Int.toNat_natCast, Int.toNat_zero, Int.toNat_one, Int.toNat_natCast_add_one] at hx); conv => whnf)
    | (refine Each.nds (fun a b c ps hx => ?_); (try simp only [Int.toNat_natCast, Int.toNat_zero, Int.toNat_one, Int.toNat_natCast_add_one] at hx); conv => whnf)
    | (refine Each.rep ?_; conv => whnf)
    | (refine Each.drop ?_)
    | (refine Each.take (fun hi => ?_))
    | (refine Each.any (fun x hx => ?_); (try simp only [Int.toNat_natCast, Int.toNat_zero, Int.toNat_one, Int.toNat_natCast_add_one] at hx); conv => whnf)
    | (refine NilB.any (fun hn => ?_) ?_ <;> conv => whnf)
    | (refine CallWP.mono (oneOf_ blocksN t.name (by decide)) ?_; rintro r h ⟨rfl, rfl⟩; conv => whnf)
    | (refine CallWP.mono (g1) ?_; rintro r h ⟨rfl, rfl⟩; conv => whnf)
    | (refine CallWP.mono (g2) ?_; rintro r h ⟨rfl, rfl⟩; conv => whnf)
    | (refine CallWP.mono (g3) ?_; rintro r h ⟨rfl, rfl⟩; conv => whnf)
    | (refine CallWP.mono (g4) ?_; rintro r h ⟨rfl, rfl⟩; conv => whnf)
    | (refine CallWP.mono (g5) ?_; rintro r h ⟨rfl, rfl⟩; conv => whnf)
    | (refine CallWP.mono (g6) ?_; rintro r h ⟨rfl, rfl⟩; conv => whnf)
    | (refine ⟨_, bytesOfD_nums _, ?_⟩; conv => whnf)
    | (refine WP.sch (id := 30) tabOK hmix (.mob 1 (.mob 2 (.mob 3 (.mob 4 (.mob 5 (.mob 8 (.mob 9 (.mob 10 (.alt [(0, .alt [(6, .mob 11 (.mob 12 (.mob 13 (.alt [(7, .alt [(14, .alt [(15, .mob 16 (.mob 17 (.alt [(18, .alt [(19, .alt [(20, .alt [(21, .done)])])])])))])]), (14, .alt [(7, .alt [(15, .mob 16 (.mob 17 (.alt [(18, .alt [(19, .alt [(20, .alt [(21, .done)])])])])))]), (15, .mob 16 (.mob 17 (.alt [(7, .alt [(18, .alt [(19, .alt [(20, .alt [(21, .done)])])])])])))])]))))]), (6, .mob 11 (.mob 12 (.mob 13 (.alt [(0, .alt [(7, .alt [(14, .alt [(15, .mob 16 (.mob 17 (.alt [(18, .alt [(19, .alt [(20, .alt [(21, .done)])])])])))])]), (14, .alt [(7, .alt [(15, .mob 16 (.mob 17 (.alt [(18, .alt [(19, .alt [(20, .alt [(21, .done)])])])])))]), (15, .mob 16 (.mob 17 (.alt [(7, .alt [(18, .alt [(19, .alt [(20, .alt [(21, .done)])])])])])))])]), (7, .alt [(0, .alt [(14, .alt [(15, .mob 16 (.mob 17 (.alt [(18, .alt [(19, .alt [(20, .alt [(21, .done)])])])])))])]), (14, .alt [(0, .alt [(15, .mob 16 (.mob 17 (.alt [(18, .alt [(19, .alt [(20, .alt [(21, .done)])])])])))]), (15, .mob 16 (.mob 17 (.alt [(0, .alt [(18, .alt [(19, .alt [(20, .alt [(21, .done)])])])]), (18, .alt [(0, .alt [(19, .alt [(20, .alt [(21, .done)])])]), (19, .alt [(0, .alt [(20, .alt [(21, .done)])])])])])))])]), (14, .alt [(0, .alt [(7, .alt [(15, .mob 16 (.mob 17 (.alt [(18, .alt [(19, .alt [(20, .alt [(21, .done)])])])])))]), (15, .mob 16 (.mob 17 (.alt [(7, .alt [(18, .alt [(19, .alt [(20, .alt [(21, .done)])])])])])))]), (7, .alt [(0, .alt [(15, .mob 16 (.mob 17 (.alt [(18, .alt [(19, .alt [(20, .alt [(21, .done)])])])])))]), (15, .mob 16 (.mob 17 (.alt [(0, .alt [(18, .alt [(19, .alt [(20, .alt [(21, .done)])])])]), (18, .alt [(0, .alt [(19, .alt [(20, .alt [(21, .done)])])]), (19, .alt [(0, .alt [(20, .alt [(21, .done)])])])])])))]), (15, .mob 16 (.mob 17 (.alt [(0, .alt [(7, .alt [(18, .alt [(19, .alt [(20, .alt [(21, .done)])])])])]), (7, .alt [(0, .alt [(18, .alt [(19, .alt [(20, .alt [(21, .done)])])])]), (18, .alt [(0, .alt [(19, .alt [(20, .alt [(21, .done)])])]), (19, .alt [(0, .alt [(20, .alt [(21, .done)])])])])])])))])]))))]))))))))) (by kernel_rfl) ?_; conv => whnf)
    | (refine WP.sch (id := 46) tabOK hmix (.mob 1 (.mob 6 (.mob 7 (.alt [(0, .mob 2 (.mob 3 (.mob 4 (.alt [(5, .mob 8 (.mob 9 (.mob 10 (.mob 11 (.alt [(12, .done)])))))]))))])))) (by kernel_rfl) ?_; conv => whnf)
    | exact ⟨rfl, rfl⟩
    | (refine Fin.bool ?_ rfl)
    | (refine Fin.int ?_ rfl)
    | (refine Fin.str ?_ rfl)
    | (refine Fin.sl ?_ rfl)
    | exact trivial)
                all_goals (refine WP.conv _ ?_ (H _ h2))
                all_goals repeat (first | exact True.intro | (refine Need.mk ?_ ?_; (focus ((first | rfl | assumption | omega | (simp only [List.length_map, List.length_append, List.length_take, List.length_drop, List.length_cons, List.length_nil, List.length_replicate, List.length_set, List.length_reverse, nds_len, numsD_length, shutF_len]; omega) | simp); done)); conv => whnf) | ((conv => whnf); exact True.intro))
              · have h2 : rs2 (rs1 l t.name) t.name = l1 := by rw [h1]; unfold rs2; rw [if_neg (fun h => c2 h.2.2)]
                conv => whnf
                repeat' (first
    | (refine Br.tt ?_; conv => whnf)
    | (refine Br.ff ?_; conv => whnf)
    | (refine Both.mk ?_ ?_ <;> conv => whnf)
    | (refine Br.not ?_)
    | (refine Need.mk ?_ ?_; (focus ((first | omega | exact ⟨by omega, by omega⟩ | rfl | exact trivial | assumption | (simp only [List.length_map, List.length_append, List.length_take, List.length_drop, List.length_cons, List.length_nil, List.length_replicate, List.length_set, List.length_reverse, nds_len, numsD_length, shutF_len]; omega) | (simp only [List.length_map, List.length_append, List.length_take, List.length_drop, List.length_cons, List.length_nil, List.length_replicate, List.length_set, List.length_reverse, nds_len, numsD_length, shutF_len]; exact ⟨by omega, by omega⟩) | exact nds_each | (refine map_each ?_; intro x; rfl) | (refine first_map ?_; intro x; rfl) | exact first_nds | simp | (simp; omega)); done)); conv => whnf)
    | (refine Br.t (by assumption) ?_; conv => whnf)
    | (refine Br.f (by assumption) ?_; conv => whnf)
    | (refine Br.self ?_; conv => whnf)
    | (refine Br.decT (by assumption) ?_; conv => whnf)
    | (refine Br.decF (by assumption) ?_; conv => whnf)
    | (refine Br.eqT (by assumption) ?_; conv => whnf)
    | (refine Br.eqF (by assumption) ?_; conv => whnf)
    | (refine Br.dec (fun hc => ?_) (fun hc => ?_) <;> (try simp only [List.length_map, List.length_append, List.length_take, List.length_drop, List.length_cons, List.length_nil, List.length_replicate, List.length_set, List.length_reverse, nds_len, numsD_length, shutF_len] at hc) <;> first | (exfalso; omega) | exact absurd trivial hc | exact absurd rfl hc | conv => whnf)
    | (refine Br.eq (fun hc => ?_) (fun hc => ?_) <;> first | (exfalso; omega) | exact absurd trivial hc | exact absurd rfl hc | conv => whnf)
    | (refine Br.ne (fun hc => ?_) (fun hc => ?_) <;> first | (exfalso; omega) | exact absurd trivial hc | exact absurd rfl hc | conv => whnf)
    | (with_reducible refine Br.and ?_)
    | (with_reducible refine Br.or ?_)
    | (refine Br.any (fun hc => ?_) (fun hc => ?_) <;> conv => whnf)
    | (refine Fit.inl ?_ ?_; (focus ((first | omega | exact ⟨by omega, by omega⟩ | rfl | exact trivial | assumption | (simp only [List.length_map, List.length_append, List.length_take, List.length_drop, List.length_cons, List.length_nil, List.length_replicate, List.length_set, List.length_reverse, nds_len, numsD_length, shutF_len]; omega) | (simp only [List.length_map, List.length_append, List.length_take, List.length_drop, List.length_cons, List.length_nil, List.length_replicate, List.length_set, List.length_reverse, nds_len, numsD_length, shutF_len]; exact ⟨by omega, by omega⟩) | exact nds_each | (refine map_each ?_; intro x; rfl) | (refine first_map ?_; intro x; rfl) | exact first_nds | simp | (simp; omega)); done)); conv => whnf)
    | (refine Each.mapAt (by assumption) ?_; conv => whnf)
    | (refine Each.ndsAt (by assumption) ?_; conv => whnf)
    | (refine Each.at (by assumption) ?_; conv => whnf)
    | (refine Each.map (fun x hx => ?_); (try simp only [Int.toNat_natCast, Int.toNat_zero, Int.toNat_one, Int.toNat_natCast_add_one] at hx); conv => whnf)
    | (refine Each.nds (fun a b c ps hx => ?_); (try simp only [Int.toNat_natCast, Int.toNat_zero, Int.toNat_one, Int.toNat_natCast_add_one] at hx); conv => whnf)
    | (refine Each.rep ?_; conv => whnf)
    | (refine Each.drop ?_)
    | (refine Each.take (fun hi => ?_))
    | (refine Each.any (fun x hx => ?_); (try simp only [Int.toNat_natCast, Int.toNat_zero, Int.toNat_one, Int.toNat_natCast_add_one] at hx); conv => whnf)
    | (refine NilB.any (fun hn => ?_) ?_ <;> conv => whnf)
    | (refine CallWP.mono (oneOf_ blocksN t.name (by decide)) ?_; rintro r h ⟨rfl, rfl⟩; conv => whnf)
    | (refine CallWP.mono (g1) ?_; rintro r h ⟨rfl, rfl⟩; conv => whnf)
    | (refine CallWP.mono (g2) ?_; rintro r h ⟨rfl, rfl⟩; conv => whnf)
    | (refine CallWP.mono (g3) ?_; rintro r h ⟨rfl, rfl⟩; conv => whnf)
    | (refine CallWP.mono (g4) ?_; rintro r h ⟨rfl, rfl⟩; conv => whnf)
    | (refine CallWP.mono (g5) ?_; rintro r h ⟨rfl, rfl⟩; conv => whnf)
    | (refine CallWP.mono (g6) ?_; rintro r h ⟨rfl, rfl⟩; conv => whnf)
    | (refine ⟨_, bytesOfD_nums _, ?_⟩; conv => whnf)
    | (refine WP.sch (id := 30) tabOK hmix (.mob 1 (.mob 2 (.mob 3 (.mob 4 (.mob 5 (.mob 8 (.mob 9 (.mob 10 (.alt [(0, .alt [(6, .mob 11 (.mob 12 (.mob 13 (.alt [(7, .alt [(14, .alt [(15, .mob 16 (.mob 17 (.alt [(18, .alt [(19, .alt [(20, .alt [(21, .done)])])])])))])]), (14, .alt [(7, .alt [(15, .mob 16 (.mob 17 (.alt [(18, .alt [(19, .alt [(20, .alt [(21, .done)])])])])))]), (15, .mob 16 (.mob 17 (.alt [(7, .alt [(18, .alt [(19, .alt [(20, .alt [(21, .done)])])])])])))])]))))]), (6, .mob 11 (.mob 12 (.mob 13 (.alt [(0, .alt [(7, .alt [(14, .alt [(15, .mob 16 (.mob 17 (.alt [(18, .alt [(19, .alt [(20, .alt [(21, .done)])])])])))])]), (14, .alt [(7, .alt [(15, .mob 16 (.mob 17 (.alt [(18, .alt [(19, .alt [(20, .alt [(21, .done)])])])])))]), (15, .mob 16 (.mob 17 (.alt [(7, .alt [(18, .alt [(19, .alt [(20, .alt [(21, .done)])])])])])))])]), (7, .alt [(0, .alt [(14, .alt [(15, .mob 16 (.mob 17 (.alt [(18, .alt [(19, .alt [(20, .alt [(21, .done)])])])])))])]), (14, .alt [(0, .alt [(15, .mob 16 (.mob 17 (.alt [(18, .alt [(19, .alt [(20, .alt [(21, .done)])])])])))]), (15, .mob 16 (.mob 17 (.alt [(0, .alt [(18, .alt [(19, .alt [(20, .alt [(21, .done)])])])]), (18, .alt [(0, .alt [(19, .alt [(20, .alt [(21, .done)])])]), (19, .alt [(0, .alt [(20, .alt [(21, .done)])])])])])))])]), (14, .alt [(0, .alt [(7, .alt [(15, .mob 16 (.mob 17 (.alt [(18, .alt [(19, .alt [(20, .alt [(21, .done)])])])])))]), (15, .mob 16 (.mob 17 (.alt [(7, .alt [(18, .alt [(19, .alt [(20, .alt [(21, .done)])])])])])))]), (7, .alt [(0, .alt [(15, .mob 16 (.mob 17 (.alt [(18, .alt [(19, .alt [(20, .alt [(21, .done)])])])])))]), (15, .mob 16 (.mob 17 (.alt [(0, .alt [(18, .alt [(19, .alt [(20, .alt [(21, .done)])])])]), (18, .alt [(0, .alt [(19, .alt [(20, .alt [(21, .done)])])]), (19, .alt [(0, .alt [(20, .alt [(21, .done)])])])])])))]), (15, .mob 16 (.mob 17 (.alt [(0, .alt [(7, .alt [(18, .alt [(19, .alt [(20, .alt [(21, .done)])])])])]), (7, .alt [(0, .alt [(18, .alt [(19, .alt [(20, .alt [(21, .done)])])])]), (18, .alt [(0, .alt [(19, .alt [(20, .alt [(21, .done)])])]), (19, .alt [(0, .alt [(20, .alt [(21, .done)])])])])])])))])]))))]))))))))) (by kernel_rfl) ?_; conv => whnf)
    | (refine WP.sch (id := 46) tabOK hmix (.mob 1 (.mob 6 (.mob 7 (.alt [(0, .mob 2 (.mob 3 (.mob 4 (.alt [(5, .mob 8 (.mob 9 (.mob 10 (.mob 11 (.alt [(12, .done)])))))]))))])))) (by kernel_rfl) ?_; conv => whnf)
    | exact ⟨rfl, rfl⟩
    | (refine Fin.bool ?_ rfl)
    | (refine Fin.int ?_ rfl)
    | (refine Fin.str ?_ rfl)
    | (refine Fin.sl ?_ rfl)
    | exact trivial)
                all_goals (refine WP.conv _ ?_ (H _ h2))
                all_goals repeat (first | exact True.intro | (refine Need.mk ?_ ?_; (focus ((first | rfl | assumption | omega | (simp only [List.length_map, List.length_append, List.length_take, List.length_drop, List.length_cons, List.length_nil, List.length_replicate, List.length_set, List.length_reverse, nds_len, numsD_length, shutF_len]; omega) | simp); done)); conv => whnf) | ((conv => whnf); exact True.intro))
            · have h2 : rs2 (rs1 l t.name) t.name = l1 := by rw [h1]; unfold rs2; rw [if_neg (fun h => c1 h.2.1)]
              conv => whnf
              repeat' (first
    | (refine Br.tt ?_; conv => whnf)
    | (refine Br.ff ?_; conv => whnf)
    | (refine Both.mk ?_ ?_ <;> conv => whnf)
    | (refine Br.not ?_)
    | (refine Need.mk ?_ ?_; (focus ((first | omega | exact ⟨by omega, by omega⟩ | rfl | exact trivial | assumption | (simp only [List.length_map, List.length_append, List.length_take, List.length_drop, List.length_cons, List.length_nil, List.length_replicate, List.length_set, List.length_reverse, nds_len, numsD_length, shutF_len]; omega) | (simp only [List.length_map, List.length_append, List.length_take, List.length_drop, List.length_cons, List.length_nil, List.length_replicate, List.length_set, List.length_reverse, nds_len, numsD_length, shutF_len]; exact ⟨by omega, by omega⟩) | exact nds_each | (refine map_each ?_; intro x; rfl) | (refine first_map ?_; intro x; rfl) | exact first_nds | simp | (simp; omega)); done)); conv => whnf)
    | (refine Br.t (by assumption) ?_; conv => whnf)
    | (refine Br.f (by assumption) ?_; conv => whnf)
    | (refine Br.self ?_; conv => whnf)
    | (refine Br.decT (by assumption) ?_; conv => whnf)
    | (refine Br.decF (by assumption) ?_; conv => whnf)
    | (refine Br.eqT (by assumption) ?_; conv => whnf)
    | (refine Br.eqF (by assumption) ?_; conv => whnf)
    | (refine Br.dec (fun hc => ?_) (fun hc => ?_) <;> (try simp only [List.length_map, List.length_append, List.length_take, List.length_drop, List.length_cons, List.length_nil, List.length_replicate, List.length_set, List.length_reverse, nds_len, numsD_length, shutF_len] at hc) <;> first | (exfalso; omega) | exact absurd trivial hc | exact absurd rfl hc | conv => whnf)
    | (refine Br.eq (fun hc => ?_) (fun hc => ?_) <;> first | (exfalso; omega) | exact absurd trivial hc | exact absurd rfl hc | conv => whnf)
    | (refine Br.ne (fun hc => ?_) (fun hc => ?_) <;> first | (exfalso; omega) | exact absurd trivial hc | exact absurd rfl hc | conv => whnf)
    | (with_reducible refine Br.and ?_)
    | (with_reducible refine Br.or ?_)
    | (refine Br.any (fun hc => ?_) (fun hc => ?_) <;> conv => whnf)
    | (refine Fit.inl ?_ ?_; (focus ((first | omega | exact ⟨by omega, by omega⟩ | rfl | exact trivial | assumption | (simp only [List.length_map, List.length_append, List.length_take, List.length_drop, List.length_cons, List.length_nil, List.length_replicate, List.length_set, List.length_reverse, nds_len, numsD_length, shutF_len]; omega) | (simp only [List.length_map, List.length_append, List.length_take, List.length_drop, List.length_cons, List.length_nil, List.length_replicate, List.length_set, List.length_reverse, nds_len, numsD_length, shutF_len]; exact ⟨by omega, by omega⟩) | exact nds_each | (refine map_each ?_; intro x; rfl) | (refine first_map ?_; intro x; rfl) | exact first_nds | simp | (simp; omega)); done)); conv => whnf)
    | (refine Each.mapAt (by assumption) ?_; conv => whnf)
    | (refine Each.ndsAt (by assumption) ?_; conv => whnf)
    | (refine Each.at (by assumption) ?_; conv => whnf)
    | (refine Each.map (fun x hx => ?_); (try simp only [Int.toNat_natCast, Int.toNat_zero, Int.toNat_one, Int.toNat_natCast_add_one] at hx); conv => whnf)
    | (refine Each.nds (fun a b c ps hx => ?_); (try simp only [Int.toNat_natCast, Int.toNat_zero, Int.toNat_one, Int.toNat_natCast_add_one] at hx); conv => whnf)
    | (refine Each.rep ?_; conv => whnf)
    | (refine Each.drop ?_)
    | (refine Each.take (fun hi => ?_))
    | (refine Each.any (fun x hx => ?_); (try simp only [Int.toNat_natCast, Int.toNat_zero, Int.toNat_one, Int.toNat_natCast_add_one] at hx); conv => whnf)
    | (refine NilB.any (fun hn => ?_) ?_ <;> conv => whnf)
    | (refine CallWP.mono (oneOf_ blocksN t.name (by decide)) ?_; rintro r h ⟨rfl, rfl⟩; conv => whnf)
    | (refine CallWP.mono (g1) ?_; rintro r h ⟨rfl, rfl⟩; conv => whnf)
    | (refine CallWP.mono (g2) ?_; rintro r h ⟨rfl, rfl⟩; conv => whnf)
    | (refine CallWP.mono (g3) ?_; rintro r h ⟨rfl, rfl⟩; conv => whnf)
    | (refine CallWP.mono (g4) ?_; rintro r h ⟨rfl, rfl⟩; conv => whnf)
    | (refine CallWP.mono (g5) ?_; rintro r h ⟨rfl, rfl⟩; conv => whnf)
    | (refine CallWP.mono (g6) ?_; rintro r h ⟨rfl, rfl⟩; conv => whnf)
    | (refine ⟨_, bytesOfD_nums _, ?_⟩; conv => whnf)
    | (refine WP.sch (id := 30) tabOK hmix (.mob 1 (.mob 2 (.mob 3 (.mob 4 (.mob 5 (.mob 8 (.mob 9 (.mob 10 (.alt [(0, .alt [(6, .mob 11 (.mob 12 (.mob 13 (.alt [(7, .alt [(14, .alt [(15, .mob 16 (.mob 17 (.alt [(18, .alt [(19, .alt [(20, .alt [(21, .done)])])])])))])]), (14, .alt [(7, .alt [(15, .mob 16 (.mob 17 (.alt [(18, .alt [(19, .alt [(20, .alt [(21, .done)])])])])))]), (15, .mob 16 (.mob 17 (.alt [(7, .alt [(18, .alt [(19, .alt [(20, .alt [(21, .done)])])])])])))])]))))]), (6, .mob 11 (.mob 12 (.mob 13 (.alt [(0, .alt [(7, .alt [(14, .alt [(15, .mob 16 (.mob 17 (.alt [(18, .alt [(19, .alt [(20, .alt [(21, .done)])])])])))])]), (14, .alt [(7, .alt [(15, .mob 16 (.mob 17 (.alt [(18, .alt [(19, .alt [(20, .alt [(21, .done)])])])])))]), (15, .mob 16 (.mob 17 (.alt [(7, .alt [(18, .alt [(19, .alt [(20, .alt [(21, .done)])])])])])))])]), (7, .alt [(0, .alt [(14, .alt [(15, .mob 16 (.mob 17 (.alt [(18, .alt [(19, .alt [(20, .alt [(21, .done)])])])])))])]), (14, .alt [(0, .alt [(15, .mob 16 (.mob 17 (.alt [(18, .alt [(19, .alt [(20, .alt [(21, .done)])])])])))]), (15, .mob 16 (.mob 17 (.alt [(0, .alt [(18, .alt [(19, .alt [(20, .alt [(21, .done)])])])]), (18, .alt [(0, .alt [(19, .alt [(20, .alt [(21, .done)])])]), (19, .alt [(0, .alt [(20, .alt [(21, .done)])])])])])))])]), (14, .alt [(0, .alt [(7, .alt [(15, .mob 16 (.mob 17 (.alt [(18, .alt [(19, .alt [(20, .alt [(21, .done)])])])])))]), (15, .mob 16 (.mob 17 (.alt [(7, .alt [(18, .alt [(19, .alt [(20, .alt [(21, .done)])])])])])))]), (7, .alt [(0, .alt [(15, .mob 16 (.mob 17 (.alt [(18, .alt [(19, .alt [(20, .alt [(21, .done)])])])])))]), (15, .mob 16 (.mob 17 (.alt [(0, .alt [(18, .alt [(19, .alt [(20, .alt [(21, .done)])])])]), (18, .alt [(0, .alt [(19, .alt [(20, .alt [(21, .done)])])]), (19, .alt [(0, .alt [(20, .alt [(21, .done)])])])])])))]), (15, .mob 16 (.mob 17 (.alt [(0, .alt [(7, .alt [(18, .alt [(19, .alt [(20, .alt [(21, .done)])])])])]), (7, .alt [(0, .alt [(18, .alt [(19, .alt [(20, .alt [(21, .done)])])])]), (18, .alt [(0, .alt [(19, .alt [(20, .alt [(21, .done)])])]), (19, .alt [(0, .alt [(20, .alt [(21, .done)])])])])])])))])]))))]))))))))) (by kernel_rfl) ?_; conv => whnf)
    | (refine WP.sch (id := 46) tabOK hmix (.mob 1 (.mob 6 (.mob 7 (.alt [(0, .mob 2 (.mob 3 (.mob 4 (.alt [(5, .mob 8 (.mob 9 (.mob 10 (.mob 11 (.alt [(12, .done)])))))]))))])))) (by kernel_rfl) ?_; conv => whnf)
    | exact ⟨rfl, rfl⟩
    | (refine Fin.bool ?_ rfl)
    | (refine Fin.int ?_ rfl)
    | (refine Fin.str ?_ rfl)
    | (refine Fin.sl ?_ rfl)
    | exact trivial)
              all_goals (refine WP.conv _ ?_ (H _ h2))
              all_goals repeat (first | exact True.intro | (refine Need.mk ?_ ?_; (focus ((first | rfl | assumption | omega | (simp only [List.length_map, List.length_append, List.length_take, List.length_drop, List.length_cons, List.length_nil, List.length_replicate, List.length_set, List.length_reverse, nds_len, numsD_length, shutF_len]; omega) | simp); done)); conv => whnf) | ((conv => whnf); exact True.intro))
          · have h2 : rs2 (rs1 l t.name) t.name = l1 := by rw [h1]; unfold rs2; rw [if_neg (fun h => hli h.1)]
            conv => whnf
            repeat' (first
    | (refine Br.tt ?_; conv => whnf)
    | (refine Br.ff ?_; conv => whnf)
    | (refine Both.mk ?_ ?_ <;> conv => whnf)
    | (refine Br.not ?_)
    | (refine Need.mk ?_ ?_; (focus ((first | omega | exact ⟨by omega, by omega⟩ | rfl | exact trivial | assumption | (simp only [List.length_map, List.length_append, List.length_take, List.length_drop, List.length_cons, List.length_nil, List.length_replicate, List.length_set, List.length_reverse, nds_len, numsD_length, shutF_len]; omega) | (simp only [List.length_map, List.length_append, List.length_take, List.length_drop, List.length_cons, List.length_nil, List.length_replicate, List.length_set, List.length_reverse, nds_len, numsD_length, shutF_len]; exact ⟨by omega, by omega⟩) | exact nds_each | (refine map_each ?_; intro x; rfl) | (refine first_map ?_; intro x; rfl) | exact first_nds | simp | (simp; omega)); done)); conv => whnf)
    | (refine Br.t (by assumption) ?_; conv => whnf)
    | (refine Br.f (by assumption) ?_; conv => whnf)
    | (refine Br.self ?_; conv => whnf)
    | (refine Br.decT (by assumption) ?_; conv => whnf)
    | (refine Br.decF (by assumption) ?_; conv => whnf)
    | (refine Br.eqT (by assumption) ?_; conv => whnf)
    | (refine Br.eqF (by assumption) ?_; conv => whnf)
    | (refine Br.dec (fun hc => ?_) (fun hc => ?_) <;> (try simp only [List.length_map, List.length_append, List.length_take, List.length_drop, List.length_cons, List.length_nil, List.length_replicate, List.length_set, List.length_reverse, nds_len, numsD_length, shutF_len] at hc) <;> first | (exfalso; omega) | exact absurd trivial hc | exact absurd rfl hc | conv => whnf)
    | (refine Br.eq (fun hc => ?_) (fun hc => ?_) <;> first | (exfalso; omega) | exact absurd trivial hc | exact absurd rfl hc | conv => whnf)
    | (refine Br.ne (fun hc => ?_) (fun hc => ?_) <;> first | (exfalso; omega) | exact absurd trivial hc | exact absurd rfl hc | conv => whnf)
    | (with_reducible refine Br.and ?_)
    | (with_reducible refine Br.or ?_)
    | (refine Br.any (fun hc => ?_) (fun hc => ?_) <;> conv => whnf)
    | (refine Fit.inl ?_ ?_; (focus ((first | omega | exact ⟨by omega, by omega⟩ | rfl | exact trivial | assumption | (simp only [List.length_map, List.length_append, List.length_take, List.length_drop, List.length_cons, List.length_nil, List.length_replicate, List.length_set, List.length_reverse, nds_len, numsD_length, shutF_len]; omega) | (simp only [List.length_map, List.length_append, List.length_take, List.length_drop, List.length_cons, List.length_nil, List.length_replicate, List.length_set, List.length_reverse, nds_len, numsD_length, shutF_len]; exact ⟨by omega, by omega⟩) | exact nds_each | (refine map_each ?_; intro x; rfl) | (refine first_map ?_; intro x; rfl) | exact first_nds | simp | (simp; omega)); done)); conv => whnf)
    | (refine Each.mapAt (by assumption) ?_; conv => whnf)
    | (refine Each.ndsAt (by assumption) ?_; conv => whnf)
    | (refine Each.at (by assumption) ?_; conv => whnf)
    | (refine Each.map (fun x hx => ?_); (try simp only [Int.toNat_natCast, Int.toNat_zero, Int.toNat_one, Int.toNat_natCast_add_one] at hx); conv => whnf)
    | (refine Each.nds (fun a b c ps hx => ?_); (try simp only [Int.toNat_natCast, Int.toNat_zero, Int.toNat_one, Int.toNat_natCast_add_one] at hx); conv => whnf)
    | (refine Each.rep ?_; conv => whnf)
    | (refine Each.drop ?_)
    | (refine Each.take (fun hi => ?_))
    | (refine Each.any (fun x hx => ?_); (try simp only [Int.toNat_natCast, Int.toNat_zero, Int.toNat_one, Int.toNat_natCast_add_one] at hx); conv => whnf)
    | (refine NilB.any (fun hn => ?_) ?_ <;> conv => whnf)
    | (refine CallWP.mono (oneOf_ blocksN t.name (by decide)) ?_; rintro r h ⟨rfl, rfl⟩; conv => whnf)
    | (refine CallWP.mono (g1) ?_; rintro r h ⟨rfl, rfl⟩; conv => whnf)
    | (refine CallWP.mono (g2) ?_; rintro r h ⟨rfl, rfl⟩; conv => whnf)
    | (refine CallWP.mono (g3) ?_; rintro r h ⟨rfl, rfl⟩; conv => whnf)
    | (refine CallWP.mono (g4) ?_; rintro r h ⟨rfl, rfl⟩; conv => whnf)
    | (refine CallWP.mono (g5) ?_; rintro r h ⟨rfl, rfl⟩; conv => whnf)
    | (refine CallWP.mono (g6) ?_; rintro r h ⟨rfl, rfl⟩; conv => whnf)
    | (refine ⟨_, bytesOfD_nums _, ?_⟩; conv => whnf)
    | (refine WP.sch (id := 30) tabOK hmix (.mob 1 (.mob 2 (.mob 3 (.mob 4 (.mob 5 (.mob 8 (.mob 9 (.mob 10 (.alt [(0, .alt [(6, .mob 11 (.mob 12 (.mob 13 (.alt [(7, .alt [(14, .alt [(15, .mob 16 (.mob 17 (.alt [(18, .alt [(19, .alt [(20, .alt [(21, .done)])])])])))])]), (14, .alt [(7, .alt [(15, .mob 16 (.mob 17 (.alt [(18, .alt [(19, .alt [(20, .alt [(21, .done)])])])])))]), (15, .mob 16 (.mob 17 (.alt [(7, .alt [(18, .alt [(19, .alt [(20, .alt [(21, .done)])])])])])))])]))))]), (6, .mob 11 (.mob 12 (.mob 13 (.alt [(0, .alt [(7, .alt [(14, .alt [(15, .mob 16 (.mob 17 (.alt [(18, .alt [(19, .alt [(20, .alt [(21, .done)])])])])))])]), (14, .alt [(7, .alt [(15, .mob 16 (.mob 17 (.alt [(18, .alt [(19, .alt [(20, .alt [(21, .done)])])])])))]), (15, .mob 16 (.mob 17 (.alt [(7, .alt [(18, .alt [(19, .alt [(20, .alt [(21, .done)])])])])])))])]), (7, .alt [(0, .alt [(14, .alt [(15, .mob 16 (.mob 17 (.alt [(18, .alt [(19, .alt [(20, .alt [(21, .done)])])])])))])]), (14, .alt [(0, .alt [(15, .mob 16 (.mob 17 (.alt [(18, .alt [(19, .alt [(20, .alt [(21, .done)])])])])))]), (15, .mob 16 (.mob 17 (.alt [(0, .alt [(18, .alt [(19, .alt [(20, .alt [(21, .done)])])])]), (18, .alt [(0, .alt [(19, .alt [(20, .alt [(21, .done)])])]), (19, .alt [(0, .alt [(20, .alt [(21, .done)])])])])])))])]), (14, .alt [(0, .alt [(7, .alt [(15, .mob 16 (.mob 17 (.alt [(18, .alt [(19, .alt [(20, .alt [(21, .done)])])])])))]), (15, .mob 16 (.mob 17 (.alt [(7, .alt [(18, .alt [(19, .alt [(20, .alt [(21, .done)])])])])])))]), (7, .alt [(0, .alt [(15, .mob 16 (.mob 17 (.alt [(18, .alt [(19, .alt [(20, .alt [(21, .done)])])])])))]), (15, .mob 16 (.mob 17 (.alt [(0, .alt [(18, .alt [(19, .alt [(20, .alt [(21, .done)])])])]), (18, .alt [(0, .alt [(19, .alt [(20, .alt [(21, .done)])])]), (19, .alt [(0, .alt [(20, .alt [(21, .done)])])])])])))]), (15, .mob 16 (.mob 17 (.alt [(0, .alt [(7, .alt [(18, .alt [(19, .alt [(20, .alt [(21, .done)])])])])]), (7, .alt [(0, .alt [(18, .alt [(19, .alt [(20, .alt [(21, .done)])])])]), (18, .alt [(0, .alt [(19, .alt [(20, .alt [(21, .done)])])]), (19, .alt [(0, .alt [(20, .alt [(21, .done)])])])])])])))])]))))]))))))))) (by kernel_rfl) ?_; conv => whnf)
    | (refine WP.sch (id := 46) tabOK hmix (.mob 1 (.mob 6 (.mob 7 (.alt [(0, .mob 2 (.mob 3 (.mob 4 (.alt [(5, .mob 8 (.mob 9 (.mob 10 (.mob 11 (.alt [(12, .done)])))))]))))])))) (by kernel_rfl) ?_; conv => whnf)
    | exact ⟨rfl, rfl⟩
    | (refine Fin.bool ?_ rfl)
    | (refine Fin.int ?_ rfl)
    | (refine Fin.str ?_ rfl)
    | (refine Fin.sl ?_ rfl)
    | exact trivial)
            all_goals (refine WP.conv _ ?_ (H _ h2))
            all_goals repeat (first | exact True.intro | (refine Need.mk ?_ ?_; (focus ((first | rfl | assumption | omega | (simp only [List.length_map, List.length_append, List.length_take, List.length_drop, List.length_cons, List.length_nil, List.length_replicate, List.length_set, List.length_reverse, nds_len, numsD_length, shutF_len]; omega) | simp); done)); conv => whnf) | ((conv => whnf); exact True.intro))
        · rw [decide_eq_false hm] at hany
          have hli : ¬ t.name = [108, 105] := fun h => hm (by rw [h]; decide)
          have h2 : rs2 (rs1 l t.name) t.name = l := by
            unfold rs1
            rw [if_neg hm]
            unfold rs2
            rw [if_neg (fun h => hli h.1)]
          conv => whnf
          repeat' (first
    | (refine Br.tt ?_; conv => whnf)
    | (refine Br.ff ?_; conv => whnf)
    | (refine Both.mk ?_ ?_ <;> conv => whnf)
    | (refine Br.not ?_)
    | (refine Need.mk ?_ ?_; (focus ((first | omega | exact ⟨by omega, by omega⟩ | rfl | exact trivial | assumption | (simp only [List.length_map, List.length_append, List.length_take, List.length_drop, List.length_cons, List.length_nil, List.length_replicate, List.length_set, List.length_reverse, nds_len, numsD_length, shutF_len]; omega) | (simp only [List.length_map, List.length_append, List.length_take, List.length_drop, List.length_cons, List.length_nil, List.length_replicate, List.length_set, List.length_reverse, nds_len, numsD_length, shutF_len]; exact ⟨by omega, by omega⟩) | exact nds_each | (refine map_each ?_; intro x; rfl) | (refine first_map ?_; intro x; rfl) | exact first_nds | simp | (simp; omega)); done)); conv => whnf)
    | (refine Br.t (by assumption) ?_; conv => whnf)
    | (refine Br.f (by assumption) ?_; conv => whnf)
    | (refine Br.self ?_; conv => whnf)
    | (refine Br.decT (by assumption) ?_; conv => whnf)
    | (refine Br.decF (by assumption) ?_; conv => whnf)
    | (refine Br.eqT (by assumption) ?_; conv => whnf)
    | (refine Br.eqF (by assumption) ?_; conv => whnf)
    | (refine Br.dec (fun hc => ?_) (fun hc => ?_) <;> (try simp only [List.length_map, List.length_append, List.length_take, List.length_drop, List.length_cons, List.length_nil, List.length_replicate, List.length_set, List.length_reverse, nds_len, numsD_length, shutF_len] at hc) <;> first | (exfalso; omega) | exact absurd trivial hc | exact absurd rfl hc | conv => whnf)
    | (refine Br.eq (fun hc => ?_) (fun hc => ?_) <;> first | (exfalso; omega) | exact absurd trivial hc | exact absurd rfl hc | conv => whnf)
    | (refine Br.ne (fun hc => ?_) (fun hc => ?_) <;> first | (exfalso; omega) | exact absurd trivial hc | exact absurd rfl hc | conv => whnf)
    | (with_reducible refine Br.and ?_)
    | (with_reducible refine Br.or ?_)
    | (refine Br.any (fun hc => ?_) (fun hc => ?_) <;> conv => whnf)
    | (refine Fit.inl ?_ ?_; (focus ((first | omega | exact ⟨by omega, by omega⟩ | rfl | exact trivial | assumption | (simp only [List.length_map, List.length_append, List.length_take, List.length_drop, List.length_cons, List.length_nil, List.length_replicate, List.length_set, List.length_reverse, nds_len, numsD_length, shutF_len]; omega) | (simp only [List.length_map, List.length_append, List.length_take, List.length_drop, List.length_cons, List.length_nil, List.length_replicate, List.length_set, List.length_reverse, nds_len, numsD_length, shutF_len]; exact ⟨by omega, by omega⟩) | exact nds_each | (refine map_each ?_; intro x; rfl) | (refine first_map ?_; intro x; rfl) | exact first_nds | simp | (simp; omega)); done)); conv => whnf)
    | (refine Each.mapAt (by assumption) ?_; conv => whnf)
    | (refine Each.ndsAt (by assumption) ?_; conv => whnf)
    | (refine Each.at (by assumption) ?_; conv => whnf)
    | (refine Each.map (fun x hx => ?_); (try simp only [Int.toNat_natCast, Int.toNat_zero, Int.toNat_one, Int.toNat_natCast_add_one] at hx); conv => whnf)
    | (refine Each.nds (fun a b c ps hx => ?_); (try simp only [Int.toNat_natCast, Int.toNat_zero, Int.toNat_one, Int.toNat_natCast_add_one] at hx); conv => whnf)
    | (refine Each.rep ?_; conv => whnf)
    | (refine Each.drop ?_)
    | (refine Each.take (fun hi => ?_))
    | (refine Each.any (fun x hx => ?_); (try simp only [Int.toNat_natCast, Int.toNat_zero, Int.toNat_one, Int.toNat_natCast_add_one] at hx); conv => whnf)
    | (refine NilB.any (fun hn => ?_) ?_ <;> conv => whnf)
    | (refine CallWP.mono (oneOf_ blocksN t.name (by decide)) ?_; rintro r h ⟨rfl, rfl⟩; conv => whnf)
    | (refine ⟨_, bytesOfD_nums _, ?_⟩; conv => whnf)
    | (refine WP.sch (id := 30) tabOK hmix (.mob 1 (.mob 2 (.mob 3 (.mob 4 (.mob 5 (.mob 8 (.mob 9 (.mob 10 (.alt [(0, .alt [(6, .mob 11 (.mob 12 (.mob 13 (.alt [(7, .alt [(14, .alt [(15, .mob 16 (.mob 17 (.alt [(18, .alt [(19, .alt [(20, .alt [(21, .done)])])])])))])]), (14, .alt [(7, .alt [(15, .mob 16 (.mob 17 (.alt [(18, .alt [(19, .alt [(20, .alt [(21, .done)])])])])))]), (15, .mob 16 (.mob 17 (.alt [(7, .alt [(18, .alt [(19, .alt [(20, .alt [(21, .done)])])])])])))])]))))]), (6, .mob 11 (.mob 12 (.mob 13 (.alt [(0, .alt [(7, .alt [(14, .alt [(15, .mob 16 (.mob 17 (.alt [(18, .alt [(19, .alt [(20, .alt [(21, .done)])])])])))])]), (14, .alt [(7, .alt [(15, .mob 16 (.mob 17 (.alt [(18, .alt [(19, .alt [(20, .alt [(21, .done)])])])])))]), (15, .mob 16 (.mob 17 (.alt [(7, .alt [(18, .alt [(19, .alt [(20, .alt [(21, .done)])])])])])))])]), (7, .alt [(0, .alt [(14, .alt [(15, .mob 16 (.mob 17 (.alt [(18, .alt [(19, .alt [(20, .alt [(21, .done)])])])])))])]), (14, .alt [(0, .alt [(15, .mob 16 (.mob 17 (.alt [(18, .alt [(19, .alt [(20, .alt [(21, .done)])])])])))]), (15, .mob 16 (.mob 17 (.alt [(0, .alt [(18, .alt [(19, .alt [(20, .alt [(21, .done)])])])]), (18, .alt [(0, .alt [(19, .alt [(20, .alt [(21, .done)])])]), (19, .alt [(0, .alt [(20, .alt [(21, .done)])])])])])))])]), (14, .alt [(0, .alt [(7, .alt [(15, .mob 16 (.mob 17 (.alt [(18, .alt [(19, .alt [(20, .alt [(21, .done)])])])])))]), (15, .mob 16 (.mob 17 (.alt [(7, .alt [(18, .alt [(19, .alt [(20, .alt [(21, .done)])])])])])))]), (7, .alt [(0, .alt [(15, .mob 16 (.mob 17 (.alt [(18, .alt [(19, .alt [(20, .alt [(21, .done)])])])])))]), (15, .mob 16 (.mob 17 (.alt [(0, .alt [(18, .alt [(19, .alt [(20, .alt [(21, .done)])])])]), (18, .alt [(0, .alt [(19, .alt [(20, .alt [(21, .done)])])]), (19, .alt [(0, .alt [(20, .alt [(21, .done)])])])])])))]), (15, .mob 16 (.mob 17 (.alt [(0, .alt [(7, .alt [(18, .alt [(19, .alt [(20, .alt [(21, .done)])])])])]), (7, .alt [(0, .alt [(18, .alt [(19, .alt [(20, .alt [(21, .done)])])])]), (18, .alt [(0, .alt [(19, .alt [(20, .alt [(21, .done)])])]), (19, .alt [(0, .alt [(20, .alt [(21, .done)])])])])])])))])]))))]))))))))) (by kernel_rfl) ?_; conv => whnf)
    | (refine WP.sch (id := 46) tabOK hmix (.mob 1 (.mob 6 (.mob 7 (.alt [(0, .mob 2 (.mob 3 (.mob 4 (.alt [(5, .mob 8 (.mob 9 (.mob 10 (.mob 11 (.alt [(12, .done)])))))]))))])))) (by kernel_rfl) ?_; conv => whnf)
    | exact ⟨rfl, rfl⟩
    | (refine Fin.bool ?_ rfl)
    | (refine Fin.int ?_ rfl)
    | (refine Fin.str ?_ rfl)
    | (refine Fin.sl ?_ rfl)
    | exact trivial)
          all_goals (refine WP.conv _ ?_ (H _ h2))
          all_goals repeat (first | exact True.intro | (refine Need.mk ?_ ?_; (focus ((first | rfl | assumption | omega | (simp only [List.length_map, List.length_append, List.length_take, List.length_drop, List.length_cons, List.length_nil, List.length_replicate, List.length_set, List.length_reverse, nds_len, numsD_length, shutF_len]; omega) | simp); done)); conv => whnf) | ((conv => whnf); exact True.intro))
      intro l2 hl2r
      have len2 : l2.length = l.length := by
        have := congrArg List.length (es2 l t.name)
        rw [esF_len, esF_len, hl2r] at this
        exact this
      have len3 : l2.length ≤ 150 := by omega
      have hi1 : i + 1 ≤ ts.length := hlt
      have hwf2 : WfF (i * 2199023255552) (esF l2) := by rw [← hl2r, es2]; exact hwf
      have hrs : rstart l t = if deepF l2 ≥ 10 then (l2, if t.self = false ∧ (t.name = sScript ∨ t.name = sStyle) then t.name else [])
        else (l2 ++ [(⟨lastIx openF l2, t.name, t.attrs, [], false⟩, decide (t.self = false ∧ t.name ∉ voidsN))], []) := by simp only [rstart, hl2r]
      rw [hrs] at hps
      clear hl2r hrs
      refine WP.loop (α := Nat) tabOK (fun j => j ≤ l2.length) (fun j => ⟨[(4, .ref 0 0 0), (5, (.d (.str ([])))), (6, .fn 12 [.ref 0 0 0]), (7, .fn 13 [.ref 0 0 0]), (8, .fn 14 [.ref 0 0 0]), (10, .ref 1 0 0), (11, (.d (.int .i64 ((((l2.take j).countP openF : Nat) : Int))))), (26, (.d (.sl (ts.map Token.d)))), (27, (.d (.int .i64 ((ts.map Token.d).length)))), (28, (.d (.int .i64 (i)))), (65, .full 2), (66, (.d (.int .i64 ((l2.map flD).length)))), (67, (.d (.int .i64 (j))))], [(0, .var 45 [.full 2]), (1, .var 39 [(.d (.int .i64 (t.kind))), (.d (.str (t.name))), (.d (.sl (t.attrs.map Attr.d))), (.d (.bool (t.self))), (.d (.str (t.text)))]), (2, .row 49 (l2.map flD))], 3, 200⟩) (fun j => l2.length - j) (0) ?_ ?_ ?_
      · exact Nat.zero_le _
      · conv => whnf
        repeat (first | exact True.intro | (refine Need.mk ?_ ?_; (focus ((first | rfl | assumption | omega | (simp only [List.length_map, List.length_append, List.length_take, List.length_drop, List.length_cons, List.length_nil, List.length_replicate, List.length_set, List.length_reverse, nds_len, numsD_length, shutF_len]; omega) | simp); done)); conv => whnf) | ((conv => whnf); exact True.intro))
      intro j hj
      by_cases hj2 : j < l2.length
      · obtain ⟨f, hf⟩ : ∃ y, l2[j]? = some y := ⟨_, List.getElem?_eq_getElem hj2⟩
        have ec := take_count hf
        have hcl : (l2.take j).countP openF ≤ l2.length := Nat.le_trans List.countP_le_length (by simp; omega)
        conv => whnf
        repeat' (first
    | (refine Br.tt ?_; conv => whnf)
    | (refine Br.ff ?_; conv => whnf)
    | (refine Both.mk ?_ ?_ <;> conv => whnf)
    | (refine Br.not ?_)
    | (refine Need.mk ?_ ?_; (focus ((first | omega | exact ⟨by omega, by omega⟩ | rfl | exact trivial | assumption | (simp only [List.length_map, List.length_append, List.length_take, List.length_drop, List.length_cons, List.length_nil, List.length_replicate, List.length_set, List.length_reverse, nds_len, numsD_length, shutF_len]; omega) | (simp only [List.length_map, List.length_append, List.length_take, List.length_drop, List.length_cons, List.length_nil, List.length_replicate, List.length_set, List.length_reverse, nds_len, numsD_length, shutF_len]; exact ⟨by omega, by omega⟩) | exact nds_each | (refine map_each ?_; intro x; rfl) | (refine first_map ?_; intro x; rfl) | exact first_nds | simp | (simp; omega)); done)); conv => whnf)
    | (refine Br.t (by assumption) ?_; conv => whnf)
    | (refine Br.f (by assumption) ?_; conv => whnf)
    | (refine Br.self ?_; conv => whnf)
    | (refine Br.decT (by assumption) ?_; conv => whnf)
    | (refine Br.decF (by assumption) ?_; conv => whnf)
    | (refine Br.eqT (by assumption) ?_; conv => whnf)
    | (refine Br.eqF (by assumption) ?_; conv => whnf)
    | (refine Br.dec (fun hc => ?_) (fun hc => ?_) <;> (try simp only [List.length_map, List.length_append, List.length_take, List.length_drop, List.length_cons, List.length_nil, List.length_replicate, List.length_set, List.length_reverse, nds_len, numsD_length, shutF_len] at hc) <;> first | (exfalso; omega) | exact absurd trivial hc | exact absurd rfl hc | conv => whnf)
    | (refine Br.eq (fun hc => ?_) (fun hc => ?_) <;> first | (exfalso; omega) | exact absurd trivial hc | exact absurd rfl hc | conv => whnf)
    | (refine Br.ne (fun hc => ?_) (fun hc => ?_) <;> first | (exfalso; omega) | exact absurd trivial hc | exact absurd rfl hc | conv => whnf)
    | (with_reducible refine Br.and ?_)
    | (with_reducible refine Br.or ?_)
    | (refine Br.any (fun hc => ?_) (fun hc => ?_) <;> conv => whnf)
    | (refine Fit.inl ?_ ?_; (focus ((first | omega | exact ⟨by omega, by omega⟩ | rfl | exact trivial | assumption | (simp only [List.length_map, List.length_append, List.length_take, List.length_drop, List.length_cons, List.length_nil, List.length_replicate, List.length_set, List.length_reverse, nds_len, numsD_length, shutF_len]; omega) | (simp only [List.length_map, List.length_append, List.length_take, List.length_drop, List.length_cons, List.length_nil, List.length_replicate, List.length_set, List.length_reverse, nds_len, numsD_length, shutF_len]; exact ⟨by omega, by omega⟩) | exact nds_each | (refine map_each ?_; intro x; rfl) | (refine first_map ?_; intro x; rfl) | exact first_nds | simp | (simp; omega)); done)); conv => whnf)
    | (refine Each.mapAt (by assumption) ?_; conv => whnf)
    | (refine Each.ndsAt (by assumption) ?_; conv => whnf)
    | (refine Each.at (by assumption) ?_; conv => whnf)
    | (refine Each.map (fun x hx => ?_); (try simp only [Int.toNat_natCast, Int.toNat_zero, Int.toNat_one, Int.toNat_natCast_add_one] at hx); conv => whnf)
    | (refine Each.nds (fun a b c ps hx => ?_); (try simp only [Int.toNat_natCast, Int.toNat_zero, Int.toNat_one, Int.toNat_natCast_add_one] at hx); conv => whnf)
    | (refine Each.rep ?_; conv => whnf)
    | (refine Each.drop ?_)
    | (refine Each.take (fun hi => ?_))
    | (refine Each.any (fun x hx => ?_); (try simp only [Int.toNat_natCast, Int.toNat_zero, Int.toNat_one, Int.toNat_natCast_add_one] at hx); conv => whnf)
    | (refine NilB.any (fun hn => ?_) ?_ <;> conv => whnf)
    | (refine ⟨_, bytesOfD_nums _, ?_⟩; conv => whnf)
    | (refine WP.sch (id := 30) tabOK hmix (.mob 1 (.mob 2 (.mob 3 (.mob 4 (.mob 5 (.mob 8 (.mob 9 (.mob 10 (.alt [(0, .alt [(6, .mob 11 (.mob 12 (.mob 13 (.alt [(7, .alt [(14, .alt [(15, .mob 16 (.mob 17 (.alt [(18, .alt [(19, .alt [(20, .alt [(21, .done)])])])])))])]), (14, .alt [(7, .alt [(15, .mob 16 (.mob 17 (.alt [(18, .alt [(19, .alt [(20, .alt [(21, .done)])])])])))]), (15, .mob 16 (.mob 17 (.alt [(7, .alt [(18, .alt [(19, .alt [(20, .alt [(21, .done)])])])])])))])]))))]), (6, .mob 11 (.mob 12 (.mob 13 (.alt [(0, .alt [(7, .alt [(14, .alt [(15, .mob 16 (.mob 17 (.alt [(18, .alt [(19, .alt [(20, .alt [(21, .done)])])])])))])]), (14, .alt [(7, .alt [(15, .mob 16 (.mob 17 (.alt [(18, .alt [(19, .alt [(20, .alt [(21, .done)])])])])))]), (15, .mob 16 (.mob 17 (.alt [(7, .alt [(18, .alt [(19, .alt [(20, .alt [(21, .done)])])])])])))])]), (7, .alt [(0, .alt [(14, .alt [(15, .mob 16 (.mob 17 (.alt [(18, .alt [(19, .alt [(20, .alt [(21, .done)])])])])))])]), (14, .alt [(0, .alt [(15, .mob 16 (.mob 17 (.alt [(18, .alt [(19, .alt [(20, .alt [(21, .done)])])])])))]), (15, .mob 16 (.mob 17 (.alt [(0, .alt [(18, .alt [(19, .alt [(20, .alt [(21, .done)])])])]), (18, .alt [(0, .alt [(19, .alt [(20, .alt [(21, .done)])])]), (19, .alt [(0, .alt [(20, .alt [(21, .done)])])])])])))])]), (14, .alt [(0, .alt [(7, .alt [(15, .mob 16 (.mob 17 (.alt [(18, .alt [(19, .alt [(20, .alt [(21, .done)])])])])))]), (15, .mob 16 (.mob 17 (.alt [(7, .alt [(18, .alt [(19, .alt [(20, .alt [(21, .done)])])])])])))]), (7, .alt [(0, .alt [(15, .mob 16 (.mob 17 (.alt [(18, .alt [(19, .alt [(20, .alt [(21, .done)])])])])))]), (15, .mob 16 (.mob 17 (.alt [(0, .alt [(18, .alt [(19, .alt [(20, .alt [(21, .done)])])])]), (18, .alt [(0, .alt [(19, .alt [(20, .alt [(21, .done)])])]), (19, .alt [(0, .alt [(20, .alt [(21, .done)])])])])])))]), (15, .mob 16 (.mob 17 (.alt [(0, .alt [(7, .alt [(18, .alt [(19, .alt [(20, .alt [(21, .done)])])])])]), (7, .alt [(0, .alt [(18, .alt [(19, .alt [(20, .alt [(21, .done)])])])]), (18, .alt [(0, .alt [(19, .alt [(20, .alt [(21, .done)])])]), (19, .alt [(0, .alt [(20, .alt [(21, .done)])])])])])])))])]))))]))))))))) (by kernel_rfl) ?_; conv => whnf)
    | (refine WP.sch (id := 46) tabOK hmix (.mob 1 (.mob 6 (.mob 7 (.alt [(0, .mob 2 (.mob 3 (.mob 4 (.alt [(5, .mob 8 (.mob 9 (.mob 10 (.mob 11 (.alt [(12, .done)])))))]))))])))) (by kernel_rfl) ?_; conv => whnf)
    | exact ⟨rfl, rfl⟩
    | (refine Fin.bool ?_ rfl)
    | (refine Fin.int ?_ rfl)
    | (refine Fin.str ?_ rfl)
    | (refine Fin.sl ?_ rfl)
    | exact trivial)
        · rw [if_pos hc] at ec
          refine ⟨j + 1, by omega, by dsimp only; omega, ?_⟩
          conv => whnf
          repeat (first | exact True.intro | (refine Need.mk ?_ ?_; (focus ((first | rfl | assumption | omega | (simp only [List.length_map, List.length_append, List.length_take, List.length_drop, List.length_cons, List.length_nil, List.length_replicate, List.length_set, List.length_reverse, nds_len, numsD_length, shutF_len]; omega) | simp [ec]); done)); conv => whnf) | ((conv => whnf); exact True.intro))
        · rw [if_neg (by rw [hc]; simp)] at ec
          refine ⟨j + 1, by omega, by dsimp only; omega, ?_⟩
          conv => whnf
          repeat (first | exact True.intro | (refine Need.mk ?_ ?_; (focus ((first | rfl | assumption | omega | (simp only [List.length_map, List.length_append, List.length_take, List.length_drop, List.length_cons, List.length_nil, List.length_replicate, List.length_set, List.length_reverse, nds_len, numsD_length, shutF_len]; omega) | simp [ec]); done)); conv => whnf) | ((conv => whnf); exact True.intro))
      have hje : j = l2.length := by omega
      subst hje
      have ecd : (l2.take l2.length).countP openF = deepF l2 := by rw [List.take_length]; rfl
      rw [ecd]
      by_cases hd : deepF l2 ≥ 10
      · rw [if_pos hd] at hps
        rw [rrun_step hps, if_neg (by omega)] at hrun
        have hwf' := hwf2.up (bnd i)
        have ho := oneOf_ [sScript, sStyle] t.name (by decide)
        rw [any_mem] at ho
        cases hself : t.self with
        | true =>
          rw [if_neg (by rw [hself]; simp)] at hrun
          conv => whnf
          repeat' (first
    | (refine Br.tt ?_; conv => whnf)
    | (refine Br.ff ?_; conv => whnf)
    | (refine Both.mk ?_ ?_ <;> conv => whnf)
    | (refine Br.not ?_)
    | (refine Need.mk ?_ ?_; (focus ((first | omega | exact ⟨by omega, by omega⟩ | rfl | exact trivial | assumption | (simp only [List.length_map, List.length_append, List.length_take, List.length_drop, List.length_cons, List.length_nil, List.length_replicate, List.length_set, List.length_reverse, nds_len, numsD_length, shutF_len]; omega) | (simp only [List.length_map, List.length_append, List.length_take, List.length_drop, List.length_cons, List.length_nil, List.length_replicate, List.length_set, List.length_reverse, nds_len, numsD_length, shutF_len]; exact ⟨by omega, by omega⟩) | exact nds_each | (refine map_each ?_; intro x; rfl) | (refine first_map ?_; intro x; rfl) | exact first_nds | simp | (simp; omega)); done)); conv => whnf)
    | (refine Br.t (by assumption) ?_; conv => whnf)
    | (refine Br.f (by assumption) ?_; conv => whnf)
    | (refine Br.self ?_; conv => whnf)
    | (refine Br.decT (by assumption) ?_; conv => whnf)
    | (refine Br.decF (by assumption) ?_; conv => whnf)
    | (refine Br.eqT (by assumption) ?_; conv => whnf)
    | (refine Br.eqF (by assumption) ?_; conv => whnf)
    | (refine Br.dec (fun hc => ?_) (fun hc => ?_) <;> (try simp only [List.length_map, List.length_append, List.length_take, List.length_drop, List.length_cons, List.length_nil, List.length_replicate, List.length_set, List.length_reverse, nds_len, numsD_length, shutF_len] at hc) <;> first | (exfalso; omega) | exact absurd trivial hc | exact absurd rfl hc | conv => whnf)
    | (refine Br.eq (fun hc => ?_) (fun hc => ?_) <;> first | (exfalso; omega) | exact absurd trivial hc | exact absurd rfl hc | conv => whnf)
    | (refine Br.ne (fun hc => ?_) (fun hc => ?_) <;> first | (exfalso; omega) | exact absurd trivial hc | exact absurd rfl hc | conv => whnf)
    | (with_reducible refine Br.and ?_)
    | (with_reducible refine Br.or ?_)
    | (refine Br.any (fun hc => ?_) (fun hc => ?_) <;> conv => whnf)
    | (refine Fit.inl ?_ ?_; (focus ((first | omega | exact ⟨by omega, by omega⟩ | rfl | exact trivial | assumption | (simp only [List.length_map, List.length_append, List.length_take, List.length_drop, List.length_cons, List.length_nil, List.length_replicate, List.length_set, List.length_reverse, nds_len, numsD_length, shutF_len]; omega) | (simp only [List.length_map, List.length_append, List.length_take, List.length_drop, List.length_cons, List.length_nil, List.length_replicate, List.length_set, List.length_reverse, nds_len, numsD_length, shutF_len]; exact ⟨by omega, by omega⟩) | exact nds_each | (refine map_each ?_; intro x; rfl) | (refine first_map ?_; intro x; rfl) | exact first_nds | simp | (simp; omega)); done)); conv => whnf)
    | (refine Each.mapAt (by assumption) ?_; conv => whnf)
    | (refine Each.ndsAt (by assumption) ?_; conv => whnf)
    | (refine Each.at (by assumption) ?_; conv => whnf)
    | (refine Each.map (fun x hx => ?_); (try simp only [Int.toNat_natCast, Int.toNat_zero, Int.toNat_one, Int.toNat_natCast_add_one] at hx); conv => whnf)
    | (refine Each.nds (fun a b c ps hx => ?_); (try simp only [Int.toNat_natCast, Int.toNat_zero, Int.toNat_one, Int.toNat_natCast_add_one] at hx); conv => whnf)
    | (refine Each.rep ?_; conv => whnf)
    | (refine Each.drop ?_)
    | (refine Each.take (fun hi => ?_))
    | (refine Each.any (fun x hx => ?_); (try simp only [Int.toNat_natCast, Int.toNat_zero, Int.toNat_one, Int.toNat_natCast_add_one] at hx); conv => whnf)
    | (refine NilB.any (fun hn => ?_) ?_ <;> conv => whnf)
    | (refine ⟨_, bytesOfD_nums _, ?_⟩; conv => whnf)
    | (refine WP.sch (id := 30) tabOK hmix (.mob 1 (.mob 2 (.mob 3 (.mob 4 (.mob 5 (.mob 8 (.mob 9 (.mob 10 (.alt [(0, .alt [(6, .mob 11 (.mob 12 (.mob 13 (.alt [(7, .alt [(14, .alt [(15, .mob 16 (.mob 17 (.alt [(18, .alt [(19, .alt [(20, .alt [(21, .done)])])])])))])]), (14, .alt [(7, .alt [(15, .mob 16 (.mob 17 (.alt [(18, .alt [(19, .alt [(20, .alt [(21, .done)])])])])))]), (15, .mob 16 (.mob 17 (.alt [(7, .alt [(18, .alt [(19, .alt [(20, .alt [(21, .done)])])])])])))])]))))]), (6, .mob 11 (.mob 12 (.mob 13 (.alt [(0, .alt [(7, .alt [(14, .alt [(15, .mob 16 (.mob 17 (.alt [(18, .alt [(19, .alt [(20, .alt [(21, .done)])])])])))])]), (14, .alt [(7, .alt [(15, .mob 16 (.mob 17 (.alt [(18, .alt [(19, .alt [(20, .alt [(21, .done)])])])])))]), (15, .mob 16 (.mob 17 (.alt [(7, .alt [(18, .alt [(19, .alt [(20, .alt [(21, .done)])])])])])))])]), (7, .alt [(0, .alt [(14, .alt [(15, .mob 16 (.mob 17 (.alt [(18, .alt [(19, .alt [(20, .alt [(21, .done)])])])])))])]), (14, .alt [(0, .alt [(15, .mob 16 (.mob 17 (.alt [(18, .alt [(19, .alt [(20, .alt [(21, .done)])])])])))]), (15, .mob 16 (.mob 17 (.alt [(0, .alt [(18, .alt [(19, .alt [(20, .alt [(21, .done)])])])]), (18, .alt [(0, .alt [(19, .alt [(20, .alt [(21, .done)])])]), (19, .alt [(0, .alt [(20, .alt [(21, .done)])])])])])))])]), (14, .alt [(0, .alt [(7, .alt [(15, .mob 16 (.mob 17 (.alt [(18, .alt [(19, .alt [(20, .alt [(21, .done)])])])])))]), (15, .mob 16 (.mob 17 (.alt [(7, .alt [(18, .alt [(19, .alt [(20, .alt [(21, .done)])])])])])))]), (7, .alt [(0, .alt [(15, .mob 16 (.mob 17 (.alt [(18, .alt [(19, .alt [(20, .alt [(21, .done)])])])])))]), (15, .mob 16 (.mob 17 (.alt [(0, .alt [(18, .alt [(19, .alt [(20, .alt [(21, .done)])])])]), (18, .alt [(0, .alt [(19, .alt [(20, .alt [(21, .done)])])]), (19, .alt [(0, .alt [(20, .alt [(21, .done)])])])])])))]), (15, .mob 16 (.mob 17 (.alt [(0, .alt [(7, .alt [(18, .alt [(19, .alt [(20, .alt [(21, .done)])])])])]), (7, .alt [(0, .alt [(18, .alt [(19, .alt [(20, .alt [(21, .done)])])])]), (18, .alt [(0, .alt [(19, .alt [(20, .alt [(21, .done)])])]), (19, .alt [(0, .alt [(20, .alt [(21, .done)])])])])])])))])]))))]))))))))) (by kernel_rfl) ?_; conv => whnf)
    | (refine WP.sch (id := 46) tabOK hmix (.mob 1 (.mob 6 (.mob 7 (.alt [(0, .mob 2 (.mob 3 (.mob 4 (.alt [(5, .mob 8 (.mob 9 (.mob 10 (.mob 11 (.alt [(12, .done)])))))]))))])))) (by kernel_rfl) ?_; conv => whnf)
    | exact ⟨rfl, rfl⟩
    | (refine Fin.bool ?_ rfl)
    | (refine Fin.int ?_ rfl)
    | (refine Fin.str ?_ rfl)
    | (refine Fin.sl ?_ rfl)
    | exact trivial)
          refine ⟨(i + 1, l2, []), ⟨hi1, len3, hrun, hwf'⟩, by dsimp only; omega, ?_⟩
          conv => whnf
          repeat (first | exact True.intro | (refine Need.mk ?_ ?_; (focus ((first | rfl | assumption | omega | (simp only [List.length_map, List.length_append, List.length_take, List.length_drop, List.length_cons, List.length_nil, List.length_replicate, List.length_set, List.length_reverse, nds_len, numsD_length, shutF_len]; omega) | simp); done)); conv => whnf) | ((conv => whnf); exact True.intro))
        | false =>
          by_cases hsc : t.name = sScript ∨ t.name = sStyle
          · rw [if_pos ⟨hself, hsc⟩] at hrun
            rw [decide_eq_true (by simpa using hsc)] at ho
            conv => whnf
            repeat' (first
    | (refine Br.tt ?_; conv => whnf)
    | (refine Br.ff ?_; conv => whnf)
    | (refine Both.mk ?_ ?_ <;> conv => whnf)
    | (refine Br.not ?_)
    | (refine Need.mk ?_ ?_; (focus ((first | omega | exact ⟨by omega, by omega⟩ | rfl | exact trivial | assumption | (simp only [List.length_map, List.length_append, List.length_take, List.length_drop, List.length_cons, List.length_nil, List.length_replicate, List.length_set, List.length_reverse, nds_len, numsD_length, shutF_len]; omega) | (simp only [List.length_map, List.length_append, List.length_take, List.length_drop, List.length_cons, List.length_nil, List.length_replicate, List.length_set, List.length_reverse, nds_len, numsD_length, shutF_len]; exact ⟨by omega, by omega⟩) | exact nds_each | (refine map_each ?_; intro x; rfl) | (refine first_map ?_; intro x; rfl) | exact first_nds | simp | (simp; omega)); done)); conv => whnf)
    | (refine Br.t (by assumption) ?_; conv => whnf)
    | (refine Br.f (by assumption) ?_; conv => whnf)
    | (refine Br.self ?_; conv => whnf)
    | (refine Br.decT (by assumption) ?_; conv => whnf)
    | (refine Br.decF (by assumption) ?_; conv => whnf)
    | (refine Br.eqT (by assumption) ?_; conv => whnf)
    | (refine Br.eqF (by assumption) ?_; conv => whnf)
    | (refine Br.dec (fun hc => ?_) (fun hc => ?_) <;> (try simp only [List.length_map, List.length_append, List.length_take, List.length_drop, List.length_cons, List.length_nil, List.length_replicate, List.length_set, List.length_reverse, nds_len, numsD_length, shutF_len] at hc) <;> first | (exfalso; omega) | exact absurd trivial hc | exact absurd rfl hc | conv => whnf)
    | (refine Br.eq (fun hc => ?_) (fun hc => ?_) <;> first | (exfalso; omega) | exact absurd trivial hc | exact absurd rfl hc | conv => whnf)
    | (refine Br.ne (fun hc => ?_) (fun hc => ?_) <;> first | (exfalso; omega) | exact absurd trivial hc | exact absurd rfl hc | conv => whnf)
    | (with_reducible refine Br.and ?_)
    | (with_reducible refine Br.or ?_)
    | (refine Br.any (fun hc => ?_) (fun hc => ?_) <;> conv => whnf)
    | (refine Fit.inl ?_ ?_; (focus ((first | omega | exact ⟨by omega, by omega⟩ | rfl | exact trivial | assumption | (simp only [List.length_map, List.length_append, List.length_take, List.length_drop, List.length_cons, List.length_nil, List.length_replicate, List.length_set, List.length_reverse, nds_len, numsD_length, shutF_len]; omega) | (simp only [List.length_map, List.length_append, List.length_take, List.length_drop, List.length_cons, List.length_nil, List.length_replicate, List.length_set, List.length_reverse, nds_len, numsD_length, shutF_len]; exact ⟨by omega, by omega⟩) | exact nds_each | (refine map_each ?_; intro x; rfl) | (refine first_map ?_; intro x; rfl) | exact first_nds | simp | (simp; omega)); done)); conv => whnf)
    | (refine Each.mapAt (by assumption) ?_; conv => whnf)
    | (refine Each.ndsAt (by assumption) ?_; conv => whnf)
    | (refine Each.at (by assumption) ?_; conv => whnf)
    | (refine Each.map (fun x hx => ?_); (try simp only [Int.toNat_natCast, Int.toNat_zero, Int.toNat_one, Int.toNat_natCast_add_one] at hx); conv => whnf)
    | (refine Each.nds (fun a b c ps hx => ?_); (try simp only [Int.toNat_natCast, Int.toNat_zero, Int.toNat_one, Int.toNat_natCast_add_one] at hx); conv => whnf)
    | (refine Each.rep ?_; conv => whnf)
    | (refine Each.drop ?_)
    | (refine Each.take (fun hi => ?_))
    | (refine Each.any (fun x hx => ?_); (try simp only [Int.toNat_natCast, Int.toNat_zero, Int.toNat_one, Int.toNat_natCast_add_one] at hx); conv => whnf)
    | (refine NilB.any (fun hn => ?_) ?_ <;> conv => whnf)
    | (refine CallWP.mono (ho) ?_; rintro r h ⟨rfl, rfl⟩; conv => whnf)
    | (refine ⟨_, bytesOfD_nums _, ?_⟩; conv => whnf)
    | (refine WP.sch (id := 30) tabOK hmix (.mob 1 (.mob 2 (.mob 3 (.mob 4 (.mob 5 (.mob 8 (.mob 9 (.mob 10 (.alt [(0, .alt [(6, .mob 11 (.mob 12 (.mob 13 (.alt [(7, .alt [(14, .alt [(15, .mob 16 (.mob 17 (.alt [(18, .alt [(19, .alt [(20, .alt [(21, .done)])])])])))])]), (14, .alt [(7, .alt [(15, .mob 16 (.mob 17 (.alt [(18, .alt [(19, .alt [(20, .alt [(21, .done)])])])])))]), (15, .mob 16 (.mob 17 (.alt [(7, .alt [(18, .alt [(19, .alt [(20, .alt [(21, .done)])])])])])))])]))))]), (6, .mob 11 (.mob 12 (.mob 13 (.alt [(0, .alt [(7, .alt [(14, .alt [(15, .mob 16 (.mob 17 (.alt [(18, .alt [(19, .alt [(20, .alt [(21, .done)])])])])))])]), (14, .alt [(7, .alt [(15, .mob 16 (.mob 17 (.alt [(18, .alt [(19, .alt [(20, .alt [(21, .done)])])])])))]), (15, .mob 16 (.mob 17 (.alt [(7, .alt [(18, .alt [(19, .alt [(20, .alt [(21, .done)])])])])])))])]), (7, .alt [(0, .alt [(14, .alt [(15, .mob 16 (.mob 17 (.alt [(18, .alt [(19, .alt [(20, .alt [(21, .done)])])])])))])]), (14, .alt [(0, .alt [(15, .mob 16 (.mob 17 (.alt [(18, .alt [(19, .alt [(20, .alt [(21, .done)])])])])))]), (15, .mob 16 (.mob 17 (.alt [(0, .alt [(18, .alt [(19, .alt [(20, .alt [(21, .done)])])])]), (18, .alt [(0, .alt [(19, .alt [(20, .alt [(21, .done)])])]), (19, .alt [(0, .alt [(20, .alt [(21, .done)])])])])])))])]), (14, .alt [(0, .alt [(7, .alt [(15, .mob 16 (.mob 17 (.alt [(18, .alt [(19, .alt [(20, .alt [(21, .done)])])])])))]), (15, .mob 16 (.mob 17 (.alt [(7, .alt [(18, .alt [(19, .alt [(20, .alt [(21, .done)])])])])])))]), (7, .alt [(0, .alt [(15, .mob 16 (.mob 17 (.alt [(18, .alt [(19, .alt [(20, .alt [(21, .done)])])])])))]), (15, .mob 16 (.mob 17 (.alt [(0, .alt [(18, .alt [(19, .alt [(20, .alt [(21, .done)])])])]), (18, .alt [(0, .alt [(19, .alt [(20, .alt [(21, .done)])])]), (19, .alt [(0, .alt [(20, .alt [(21, .done)])])])])])))]), (15, .mob 16 (.mob 17 (.alt [(0, .alt [(7, .alt [(18, .alt [(19, .alt [(20, .alt [(21, .done)])])])])]), (7, .alt [(0, .alt [(18, .alt [(19, .alt [(20, .alt [(21, .done)])])])]), (18, .alt [(0, .alt [(19, .alt [(20, .alt [(21, .done)])])]), (19, .alt [(0, .alt [(20, .alt [(21, .done)])])])])])])))])]))))]))))))))) (by kernel_rfl) ?_; conv => whnf)
    | (refine WP.sch (id := 46) tabOK hmix (.mob 1 (.mob 6 (.mob 7 (.alt [(0, .mob 2 (.mob 3 (.mob 4 (.alt [(5, .mob 8 (.mob 9 (.mob 10 (.mob 11 (.alt [(12, .done)])))))]))))])))) (by kernel_rfl) ?_; conv => whnf)
    | exact ⟨rfl, rfl⟩
    | (refine Fin.bool ?_ rfl)
    | (refine Fin.int ?_ rfl)
    | (refine Fin.str ?_ rfl)
    | (refine Fin.sl ?_ rfl)
    | exact trivial)
            refine ⟨(i + 1, l2, t.name), ⟨hi1, len3, hrun, hwf'⟩, by dsimp only; omega, ?_⟩
            conv => whnf
            repeat (first | exact True.intro | (refine Need.mk ?_ ?_; (focus ((first | rfl | assumption | omega | (simp only [List.length_map, List.length_append, List.length_take, List.length_drop, List.length_cons, List.length_nil, List.length_replicate, List.length_set, List.length_reverse, nds_len, numsD_length, shutF_len]; omega) | simp); done)); conv => whnf) | ((conv => whnf); exact True.intro))
          · rw [if_neg (fun h => hsc h.2)] at hrun
            rw [decide_eq_false (by simpa using hsc)] at ho
            conv => whnf
            repeat' (first
    | (refine Br.tt ?_; conv => whnf)
    | (refine Br.ff ?_; conv => whnf)
    | (refine Both.mk ?_ ?_ <;> conv => whnf)
    | (refine Br.not ?_)
    | (refine Need.mk ?_ ?_; (focus ((first | omega | exact ⟨by omega, by omega⟩ | rfl | exact trivial | assumption | (simp only [List.length_map, List.length_append, List.length_take, List.length_drop, List.length_cons, List.length_nil, List.length_replicate, List.length_set, List.length_reverse, nds_len, numsD_length, shutF_len]; omega) | (simp only [List.length_map, List.length_append, List.length_take, List.length_drop, List.length_cons, List.length_nil, List.length_replicate, List.length_set, List.length_reverse, nds_len, numsD_length, shutF_len]; exact ⟨by omega, by omega⟩) | exact nds_each | (refine map_each ?_; intro x; rfl) | (refine first_map ?_; intro x; rfl) | exact first_nds | simp | (simp; omega)); done)); conv => whnf)
    | (refine Br.t (by assumption) ?_; conv => whnf)
    | (refine Br.f (by assumption) ?_; conv => whnf)
    | (refine Br.self ?_; conv => whnf)
    | (refine Br.decT (by assumption) ?_; conv => whnf)
    | (refine Br.decF (by assumption) ?_; conv => whnf)
    | (refine Br.eqT (by assumption) ?_; conv => whnf)
    | (refine Br.eqF (by assumption) ?_; conv => whnf)
    | (refine Br.dec (fun hc => ?_) (fun hc => ?_) <;> (try simp only [List.length_map, List.length_append, List.length_take, List.length_drop, List.length_cons, List.length_nil, List.length_replicate, List.length_set, List.length_reverse, nds_len, numsD_length, shutF_len] at hc) <;> first | (exfalso; omega) | exact absurd trivial hc | exact absurd rfl hc | conv => whnf)
    | (refine Br.eq (fun hc => ?_) (fun hc => ?_) <;> first | (exfalso; omega) | exact absurd trivial hc | exact absurd rfl hc | conv => whnf)
    | (refine Br.ne (fun hc => ?_) (fun hc => ?_) <;> first | (exfalso; omega) | exact absurd trivial hc | exact absurd rfl hc | conv => whnf)
    | (with_reducible refine Br.and ?_)
    | (with_reducible refine Br.or ?_)
    | (refine Br.any (fun hc => ?_) (fun hc => ?_) <;> conv => whnf)
    | (refine Fit.inl ?_ ?_; (focus ((first | omega | exact ⟨by omega, by omega⟩ | rfl | exact trivial | assumption | (simp only [List.length_map, List.length_append, List.length_take, List.length_drop, List.length_cons, List.length_nil, List.length_replicate, List.length_set, List.length_reverse, nds_len, numsD_length, shutF_len]; omega) | (simp only [List.length_map, List.length_append, List.length_take, List.length_drop, List.length_cons, List.length_nil, List.length_replicate, List.length_set, List.length_reverse, nds_len, numsD_length, shutF_len]; exact ⟨by omega, by omega⟩) | exact nds_each | (refine map_each ?_; intro x; rfl) | (refine first_map ?_; intro x; rfl) | exact first_nds | simp | (simp; omega)); done)); conv => whnf)
    | (refine Each.mapAt (by assumption) ?_; conv => whnf)
    | (refine Each.ndsAt (by assumption) ?_; conv => whnf)
    | (refine Each.at (by assumption) ?_; conv => whnf)
    | (refine Each.map (fun x hx => ?_); (try simp only [Int.toNat_natCast, Int.toNat_zero, Int.toNat_one, Int.toNat_natCast_add_one] at hx); conv => whnf)
    | (refine Each.nds (fun a b c ps hx => ?_); (try simp only [Int.toNat_natCast, Int.toNat_zero, Int.toNat_one, Int.toNat_natCast_add_one] at hx); conv => whnf)
    | (refine Each.rep ?_; conv => whnf)
    | (refine Each.drop ?_)
    | (refine Each.take (fun hi => ?_))
    | (refine Each.any (fun x hx => ?_); (try simp only [Int.toNat_natCast, Int.toNat_zero, Int.toNat_one, Int.toNat_natCast_add_one] at hx); conv => whnf)
    | (refine NilB.any (fun hn => ?_) ?_ <;> conv => whnf)
    | (refine CallWP.mono (ho) ?_; rintro r h ⟨rfl, rfl⟩; conv => whnf)
    | (refine ⟨_, bytesOfD_nums _, ?_⟩; conv => whnf)
    | (refine WP.sch (id := 30) tabOK hmix (.mob 1 (.mob 2 (.mob 3 (.mob 4 (.mob 5 (.mob 8 (.mob 9 (.mob 10 (.alt [(0, .alt [(6, .mob 11 (.mob 12 (.mob 13 (.alt [(7, .alt [(14, .alt [(15, .mob 16 (.mob 17 (.alt [(18, .alt [(19, .alt [(20, .alt [(21, .done)])])])])))])]), (14, .alt [(7, .alt [(15, .mob 16 (.mob 17 (.alt [(18, .alt [(19, .alt [(20, .alt [(21, .done)])])])])))]), (15, .mob 16 (.mob 17 (.alt [(7, .alt [(18, .alt [(19, .alt [(20, .alt [(21, .done)])])])])])))])]))))]), (6, .mob 11 (.mob 12 (.mob 13 (.alt [(0, .alt [(7, .alt [(14, .alt [(15, .mob 16 (.mob 17 (.alt [(18, .alt [(19, .alt [(20, .alt [(21, .done)])])])])))])]), (14, .alt [(7, .alt [(15, .mob 16 (.mob 17 (.alt [(18, .alt [(19, .alt [(20, .alt [(21, .done)])])])])))]), (15, .mob 16 (.mob 17 (.alt [(7, .alt [(18, .alt [(19, .alt [(20, .alt [(21, .done)])])])])])))])]), (7, .alt [(0, .alt [(14, .alt [(15, .mob 16 (.mob 17 (.alt [(18, .alt [(19, .alt [(20, .alt [(21, .done)])])])])))])]), (14, .alt [(0, .alt [(15, .mob 16 (.mob 17 (.alt [(18, .alt [(19, .alt [(20, .alt [(21, .done)])])])])))]), (15, .mob 16 (.mob 17 (.alt [(0, .alt [(18, .alt [(19, .alt [(20, .alt [(21, .done)])])])]), (18, .alt [(0, .alt [(19, .alt [(20, .alt [(21, .done)])])]), (19, .alt [(0, .alt [(20, .alt [(21, .done)])])])])])))])]), (14, .alt [(0, .alt [(7, .alt [(15, .mob 16 (.mob 17 (.alt [(18, .alt [(19, .alt [(20, .alt [(21, .done)])])])])))]), (15, .mob 16 (.mob 17 (.alt [(7, .alt [(18, .alt [(19, .alt [(20, .alt [(21, .done)])])])])])))]), (7, .alt [(0, .alt [(15, .mob 16 (.mob 17 (.alt [(18, .alt [(19, .alt [(20, .alt [(21, .done)])])])])))]), (15, .mob 16 (.mob 17 (.alt [(0, .alt [(18, .alt [(19, .alt [(20, .alt [(21, .done)])])])]), (18, .alt [(0, .alt [(19, .alt [(20, .alt [(21, .done)])])]), (19, .alt [(0, .alt [(20, .alt [(21, .done)])])])])])))]), (15, .mob 16 (.mob 17 (.alt [(0, .alt [(7, .alt [(18, .alt [(19, .alt [(20, .alt [(21, .done)])])])])]), (7, .alt [(0, .alt [(18, .alt [(19, .alt [(20, .alt [(21, .done)])])])]), (18, .alt [(0, .alt [(19, .alt [(20, .alt [(21, .done)])])]), (19, .alt [(0, .alt [(20, .alt [(21, .done)])])])])])])))])]))))]))))))))) (by kernel_rfl) ?_; conv => whnf)
    | (refine WP.sch (id := 46) tabOK hmix (.mob 1 (.mob 6 (.mob 7 (.alt [(0, .mob 2 (.mob 3 (.mob 4 (.alt [(5, .mob 8 (.mob 9 (.mob 10 (.mob 11 (.alt [(12, .done)])))))]))))])))) (by kernel_rfl) ?_; conv => whnf)
    | exact ⟨rfl, rfl⟩
    | (refine Fin.bool ?_ rfl)
    | (refine Fin.int ?_ rfl)
    | (refine Fin.str ?_ rfl)
    | (refine Fin.sl ?_ rfl)
    | exact trivial)
            refine ⟨(i + 1, l2, []), ⟨hi1, len3, hrun, hwf'⟩, by dsimp only; omega, ?_⟩
            conv => whnf
            repeat (first | exact True.intro | (refine Need.mk ?_ ?_; (focus ((first | rfl | assumption | omega | (simp only [List.length_map, List.length_append, List.length_take, List.length_drop, List.length_cons, List.length_nil, List.length_replicate, List.length_set, List.length_reverse, nds_len, numsD_length, shutF_len]; omega) | simp); done)); conv => whnf) | ((conv => whnf); exact True.intro))
      · rw [if_neg hd] at hps
        have hlb := lastIx_bound openF l2
        obtain ⟨nw, hnw⟩ : ∃ nw : Fl, nw = (⟨lastIx openF l2, t.name, t.attrs, [], false⟩, decide (t.self = false ∧ t.name ∉ voidsN)) := ⟨_, rfl⟩
        rw [← hnw] at hps
        have hwf' : WfF ((i + 1) * 2199023255552) (esF (l2 ++ [nw])) := by
          have : esF (l2 ++ [nw]) = esF l2 ++ [⟨lastIx openF l2, t.name, t.attrs, [], false⟩] := by rw [hnw]; simp [esF]
          rw [this]
          exact (hwf2.up (bnd i)).snoc (by rw [esF_len]; exact hlb.2) (by simp)
        have len4 : (l2 ++ [nw]).length = l2.length + 1 := by simp
        rw [rrun_step hps] at hrun
        have ho := oneOf_ voidsN t.name (by decide)
        rw [any_mem] at ho
        have hin := inmost_ l2 (by omega)
        conv => whnf
        repeat' (first
    | (refine Br.tt ?_; conv => whnf)
    | (refine Br.ff ?_; conv => whnf)
    | (refine Both.mk ?_ ?_ <;> conv => whnf)
    | (refine Br.not ?_)
    | (refine Need.mk ?_ ?_; (focus ((first | omega | exact ⟨by omega, by omega⟩ | rfl | exact trivial | assumption | (simp only [List.length_map, List.length_append, List.length_take, List.length_drop, List.length_cons, List.length_nil, List.length_replicate, List.length_set, List.length_reverse, nds_len, numsD_length, shutF_len]; omega) | (simp only [List.length_map, List.length_append, List.length_take, List.length_drop, List.length_cons, List.length_nil, List.length_replicate, List.length_set, List.length_reverse, nds_len, numsD_length, shutF_len]; exact ⟨by omega, by omega⟩) | exact nds_each | (refine map_each ?_; intro x; rfl) | (refine first_map ?_; intro x; rfl) | exact first_nds | simp | (simp; omega)); done)); conv => whnf)
    | (refine Br.t (by assumption) ?_; conv => whnf)
    | (refine Br.f (by assumption) ?_; conv => whnf)
    | (refine Br.self ?_; conv => whnf)
    | (refine Br.decT (by assumption) ?_; conv => whnf)
    | (refine Br.decF (by assumption) ?_; conv => whnf)
    | (refine Br.eqT (by assumption) ?_; conv => whnf)
    | (refine Br.eqF (by assumption) ?_; conv => whnf)
    | (refine Br.dec (fun hc => ?_) (fun hc => ?_) <;> (try simp only [List.length_map, List.length_append, List.length_take, List.length_drop, List.length_cons, List.length_nil, List.length_replicate, List.length_set, List.length_reverse, nds_len, numsD_length, shutF_len] at hc) <;> first | (exfalso; omega) | exact absurd trivial hc | exact absurd rfl hc | conv => whnf)
    | (refine Br.eq (fun hc => ?_) (fun hc => ?_) <;> first | (exfalso; omega) | exact absurd trivial hc | exact absurd rfl hc | conv => whnf)
    | (refine Br.ne (fun hc => ?_) (fun hc => ?_) <;> first | (exfalso; omega) | exact absurd trivial hc | exact absurd rfl hc | conv => whnf)
    | (with_reducible refine Br.and ?_)
    | (with_reducible refine Br.or ?_)
    | (refine Br.any (fun hc => ?_) (fun hc => ?_) <;> conv => whnf)
    | (refine Fit.inl ?_ ?_; (focus ((first | omega | exact ⟨by omega, by omega⟩ | rfl | exact trivial | assumption | (simp only [List.length_map, List.length_append, List.length_take, List.length_drop, List.length_cons, List.length_nil, List.length_replicate, List.length_set, List.length_reverse, nds_len, numsD_length, shutF_len]; omega) | (simp only [List.length_map, List.length_append, List.length_take, List.length_drop, List.length_cons, List.length_nil, List.length_replicate, List.length_set, List.length_reverse, nds_len, numsD_length, shutF_len]; exact ⟨by omega, by omega⟩) | exact nds_each | (refine map_each ?_; intro x; rfl) | (refine first_map ?_; intro x; rfl) | exact first_nds | simp | (simp; omega)); done)); conv => whnf)
    | (refine Each.mapAt (by assumption) ?_; conv => whnf)
    | (refine Each.ndsAt (by assumption) ?_; conv => whnf)
    | (refine Each.at (by assumption) ?_; conv => whnf)
    | (refine Each.map (fun x hx => ?_); (try simp only [Int.toNat_natCast, Int.toNat_zero, Int.toNat_one, Int.toNat_natCast_add_one] at hx); conv => whnf)
    | (refine Each.nds (fun a b c ps hx => ?_); (try simp only [Int.toNat_natCast, Int.toNat_zero, Int.toNat_one, Int.toNat_natCast_add_one] at hx); conv => whnf)
    | (refine Each.rep ?_; conv => whnf)
    | (refine Each.drop ?_)
    | (refine Each.take (fun hi => ?_))
    | (refine Each.any (fun x hx => ?_); (try simp only [Int.toNat_natCast, Int.toNat_zero, Int.toNat_one, Int.toNat_natCast_add_one] at hx); conv => whnf)
    | (refine NilB.any (fun hn => ?_) ?_ <;> conv => whnf)
    | (refine CallWP.mono (hin) ?_; rintro r h ⟨rfl, rfl⟩; conv => whnf)
    | (refine ⟨_, bytesOfD_nums _, ?_⟩; conv => whnf)
    | exact ⟨rfl, rfl⟩
    | (refine Fin.bool ?_ rfl)
    | (refine Fin.int ?_ rfl)
    | (refine Fin.str ?_ rfl)
    | (refine Fin.sl ?_ rfl)
    | exact trivial)
        refine WP.crf 1 [.int .i64 t.kind, .str t.name, .sl (t.attrs.map Attr.d), .bool t.self, .str t.text] _ rfl rfl ?_
        refine WP.cut ⟨[(4, .ref 0 0 0), (5, (.d (.str ([])))), (6, .fn 12 [.ref 0 0 0]), (7, .fn 13 [.ref 0 0 0]), (8, .fn 14 [.ref 0 0 0]), (26, (.d (.sl (ts.map Token.d)))), (27, (.d (.int .i64 ((ts.map Token.d).length)))), (28, (.d (.int .i64 (i))))], [(0, .var 45 [.full 1]), (1, .row 49 ((l2 ++ [nw]).map flD))], 2, 200⟩ ?_ ?_
        · rw [List.map_append]
          cases hself : t.self with
          | true =>
            have hn2 : flD nw = [.int .i64 (lastIx openF l2), .str t.name, .sl (t.attrs.map Attr.d), .str [], .sl [], .bool false, .bool false] := by rw [hnw]; simp [flD, hself]
            repeat' (first
    | (refine Br.tt ?_; conv => whnf)
    | (refine Br.ff ?_; conv => whnf)
    | (refine Both.mk ?_ ?_ <;> conv => whnf)
    | (refine Br.not ?_)
    | (refine Need.mk ?_ ?_; (focus ((first | omega | exact ⟨by omega, by omega⟩ | rfl | exact trivial | assumption | (simp only [List.length_map, List.length_append, List.length_take, List.length_drop, List.length_cons, List.length_nil, List.length_replicate, List.length_set, List.length_reverse, nds_len, numsD_length, shutF_len]; omega) | (simp only [List.length_map, List.length_append, List.length_take, List.length_drop, List.length_cons, List.length_nil, List.length_replicate, List.length_set, List.length_reverse, nds_len, numsD_length, shutF_len]; exact ⟨by omega, by omega⟩) | exact nds_each | (refine map_each ?_; intro x; rfl) | (refine first_map ?_; intro x; rfl) | exact first_nds | simp | (simp; omega)); done)); conv => whnf)
    | (refine Br.t (by assumption) ?_; conv => whnf)
    | (refine Br.f (by assumption) ?_; conv => whnf)
    | (refine Br.self ?_; conv => whnf)
    | (refine Br.decT (by assumption) ?_; conv => whnf)
    | (refine Br.decF (by assumption) ?_; conv => whnf)
    | (refine Br.eqT (by assumption) ?_; conv => whnf)
    | (refine Br.eqF (by assumption) ?_; conv => whnf)
    | (refine Br.dec (fun hc => ?_) (fun hc => ?_) <;> (try simp only [List.length_map, List.length_append, List.length_take, List.length_drop, List.length_cons, List.length_nil, List.length_replicate, List.length_set, List.length_reverse, nds_len, numsD_length, shutF_len] at hc) <;> first | (exfalso; omega) | exact absurd trivial hc | exact absurd rfl hc | conv => whnf)
    | (refine Br.eq (fun hc => ?_) (fun hc => ?_) <;> first | (exfalso; omega) | exact absurd trivial hc | exact absurd rfl hc | conv => whnf)
    | (refine Br.ne (fun hc => ?_) (fun hc => ?_) <;> first | (exfalso; omega) | exact absurd trivial hc | exact absurd rfl hc | conv => whnf)
    | (with_reducible refine Br.and ?_)
    | (with_reducible refine Br.or ?_)
    | (refine Br.any (fun hc => ?_) (fun hc => ?_) <;> conv => whnf)
    | (refine Fit.inl ?_ ?_; (focus ((first | omega | exact ⟨by omega, by omega⟩ | rfl | exact trivial | assumption | (simp only [List.length_map, List.length_append, List.length_take, List.length_drop, List.length_cons, List.length_nil, List.length_replicate, List.length_set, List.length_reverse, nds_len, numsD_length, shutF_len]; omega) | (simp only [List.length_map, List.length_append, List.length_take, List.length_drop, List.length_cons, List.length_nil, List.length_replicate, List.length_set, List.length_reverse, nds_len, numsD_length, shutF_len]; exact ⟨by omega, by omega⟩) | exact nds_each | (refine map_each ?_; intro x; rfl) | (refine first_map ?_; intro x; rfl) | exact first_nds | simp | (simp; omega)); done)); conv => whnf)
    | (refine Each.mapAt (by assumption) ?_; conv => whnf)
    | (refine Each.ndsAt (by assumption) ?_; conv => whnf)
    | (refine Each.at (by assumption) ?_; conv => whnf)
    | (refine Each.map (fun x hx => ?_); (try simp only [Int.toNat_natCast, Int.toNat_zero, Int.toNat_one, Int.toNat_natCast_add_one] at hx); conv => whnf)
    | (refine Each.nds (fun a b c ps hx => ?_); (try simp only [Int.toNat_natCast, Int.toNat_zero, Int.toNat_one, Int.toNat_natCast_add_one] at hx); conv => whnf)
    | (refine Each.rep ?_; conv => whnf)
    | (refine Each.drop ?_)
    | (refine Each.take (fun hi => ?_))
    | (refine Each.any (fun x hx => ?_); (try simp only [Int.toNat_natCast, Int.toNat_zero, Int.toNat_one, Int.toNat_natCast_add_one] at hx); conv => whnf)
    | (refine NilB.any (fun hn => ?_) ?_ <;> conv => whnf)
    | (refine ⟨_, bytesOfD_nums _, ?_⟩; conv => whnf)
    | (refine WP.sch (id := 30) tabOK hmix (.mob 1 (.mob 2 (.mob 3 (.mob 4 (.mob 5 (.mob 8 (.mob 9 (.mob 10 (.alt [(0, .alt [(6, .mob 11 (.mob 12 (.mob 13 (.alt [(7, .alt [(14, .alt [(15, .mob 16 (.mob 17 (.alt [(18, .alt [(19, .alt [(20, .alt [(21, .done)])])])])))])]), (14, .alt [(7, .alt [(15, .mob 16 (.mob 17 (.alt [(18, .alt [(19, .alt [(20, .alt [(21, .done)])])])])))]), (15, .mob 16 (.mob 17 (.alt [(7, .alt [(18, .alt [(19, .alt [(20, .alt [(21, .done)])])])])])))])]))))]), (6, .mob 11 (.mob 12 (.mob 13 (.alt [(0, .alt [(7, .alt [(14, .alt [(15, .mob 16 (.mob 17 (.alt [(18, .alt [(19, .alt [(20, .alt [(21, .done)])])])])))])]), (14, .alt [(7, .alt [(15, .mob 16 (.mob 17 (.alt [(18, .alt [(19, .alt [(20, .alt [(21, .done)])])])])))]), (15, .mob 16 (.mob 17 (.alt [(7, .alt [(18, .alt [(19, .alt [(20, .alt [(21, .done)])])])])])))])]), (7, .alt [(0, .alt [(14, .alt [(15, .mob 16 (.mob 17 (.alt [(18, .alt [(19, .alt [(20, .alt [(21, .done)])])])])))])]), (14, .alt [(0, .alt [(15, .mob 16 (.mob 17 (.alt [(18, .alt [(19, .alt [(20, .alt [(21, .done)])])])])))]), (15, .mob 16 (.mob 17 (.alt [(0, .alt [(18, .alt [(19, .alt [(20, .alt [(21, .done)])])])]), (18, .alt [(0, .alt [(19, .alt [(20, .alt [(21, .done)])])]), (19, .alt [(0, .alt [(20, .alt [(21, .done)])])])])])))])]), (14, .alt [(0, .alt [(7, .alt [(15, .mob 16 (.mob 17 (.alt [(18, .alt [(19, .alt [(20, .alt [(21, .done)])])])])))]), (15, .mob 16 (.mob 17 (.alt [(7, .alt [(18, .alt [(19, .alt [(20, .alt [(21, .done)])])])])])))]), (7, .alt [(0, .alt [(15, .mob 16 (.mob 17 (.alt [(18, .alt [(19, .alt [(20, .alt [(21, .done)])])])])))]), (15, .mob 16 (.mob 17 (.alt [(0, .alt [(18, .alt [(19, .alt [(20, .alt [(21, .done)])])])]), (18, .alt [(0, .alt [(19, .alt [(20, .alt [(21, .done)])])]), (19, .alt [(0, .alt [(20, .alt [(21, .done)])])])])])))]), (15, .mob 16 (.mob 17 (.alt [(0, .alt [(7, .alt [(18, .alt [(19, .alt [(20, .alt [(21, .done)])])])])]), (7, .alt [(0, .alt [(18, .alt [(19, .alt [(20, .alt [(21, .done)])])])]), (18, .alt [(0, .alt [(19, .alt [(20, .alt [(21, .done)])])]), (19, .alt [(0, .alt [(20, .alt [(21, .done)])])])])])])))])]))))]))))))))) (by kernel_rfl) ?_; conv => whnf)
    | (refine WP.sch (id := 46) tabOK hmix (.mob 1 (.mob 6 (.mob 7 (.alt [(0, .mob 2 (.mob 3 (.mob 4 (.alt [(5, .mob 8 (.mob 9 (.mob 10 (.mob 11 (.alt [(12, .done)])))))]))))])))) (by kernel_rfl) ?_; conv => whnf)
    | exact ⟨rfl, rfl⟩
    | (refine Fin.bool ?_ rfl)
    | (refine Fin.int ?_ rfl)
    | (refine Fin.str ?_ rfl)
    | (refine Fin.sl ?_ rfl)
    | exact trivial)
            all_goals repeat (first | exact True.intro | (refine Need.mk ?_ ?_; (focus ((first | rfl | assumption | omega | (simp only [List.length_map, List.length_append, List.length_take, List.length_drop, List.length_cons, List.length_nil, List.length_replicate, List.length_set, List.length_reverse, nds_len, numsD_length, shutF_len]; omega) | simp [hn2]); done)); conv => whnf) | ((conv => whnf); exact True.intro))
          | false =>
            by_cases hv : t.name ∈ voidsN
            · rw [decide_eq_true hv] at ho
              have hn2 : flD nw = [.int .i64 (lastIx openF l2), .str t.name, .sl (t.attrs.map Attr.d), .str [], .sl [], .bool false, .bool false] := by rw [hnw]; simp [flD, hself, hv]
              repeat' (first
    | (refine Br.tt ?_; conv => whnf)
    | (refine Br.ff ?_; conv => whnf)
    | (refine Both.mk ?_ ?_ <;> conv => whnf)
    | (refine Br.not ?_)
    | (refine Need.mk ?_ ?_; (focus ((first | omega | exact ⟨by omega, by omega⟩ | rfl | exact trivial | assumption | (simp only [List.length_map, List.length_append, List.length_take, List.length_drop, List.length_cons, List.length_nil, List.length_replicate, List.length_set, List.length_reverse, nds_len, numsD_length, shutF_len]; omega) | (simp only [List.length_map, List.length_append, List.length_take, List.length_drop, List.length_cons, List.length_nil, List.length_replicate, List.length_set, List.length_reverse, nds_len, numsD_length, shutF_len]; exact ⟨by omega, by omega⟩) | exact nds_each | (refine map_each ?_; intro x; rfl) | (refine first_map ?_; intro x; rfl) | exact first_nds | simp | (simp; omega)); done)); conv => whnf)
    | (refine Br.t (by assumption) ?_; conv => whnf)
    | (refine Br.f (by assumption) ?_; conv => whnf)
    | (refine Br.self ?_; conv => whnf)
    | (refine Br.decT (by assumption) ?_; conv => whnf)
    | (refine Br.decF (by assumption) ?_; conv => whnf)
    | (refine Br.eqT (by assumption) ?_; conv => whnf)
    | (refine Br.eqF (by assumption) ?_; conv => whnf)
    | (refine Br.dec (fun hc => ?_) (fun hc => ?_) <;> (try simp only [List.length_map, List.length_append, List.length_take, List.length_drop, List.length_cons, List.length_nil, List.length_replicate, List.length_set, List.length_reverse, nds_len, numsD_length, shutF_len] at hc) <;> first | (exfalso; omega) | exact absurd trivial hc | exact absurd rfl hc | conv => whnf)
    | (refine Br.eq (fun hc => ?_) (fun hc => ?_) <;> first | (exfalso; omega) | exact absurd trivial hc | exact absurd rfl hc | conv => whnf)
    | (refine Br.ne (fun hc => ?_) (fun hc => ?_) <;> first | (exfalso; omega) | exact absurd trivial hc | exact absurd rfl hc | conv => whnf)
    | (with_reducible refine Br.and ?_)
    | (with_reducible refine Br.or ?_)
    | (refine Br.any (fun hc => ?_) (fun hc => ?_) <;> conv => whnf)
    | (refine Fit.inl ?_ ?_; (focus ((first | omega | exact ⟨by omega, by omega⟩ | rfl | exact trivial | assumption | (simp only [List.length_map, List.length_append, List.length_take, List.length_drop, List.length_cons, List.length_nil, List.length_replicate, List.length_set, List.length_reverse, nds_len, numsD_length, shutF_len]; omega) | (simp only [List.length_map, List.length_append, List.length_take, List.length_drop, List.length_cons, List.length_nil, List.length_replicate, List.length_set, List.length_reverse, nds_len, numsD_length, shutF_len]; exact ⟨by omega, by omega⟩) | exact nds_each | (refine map_each ?_; intro x; rfl) | (refine first_map ?_; intro x; rfl) | exact first_nds | simp | (simp; omega)); done)); conv => whnf)
    | (refine Each.mapAt (by assumption) ?_; conv => whnf)
    | (refine Each.ndsAt (by assumption) ?_; conv => whnf)
    | (refine Each.at (by assumption) ?_; conv => whnf)
    | (refine Each.map (fun x hx => ?_); (try simp only [Int.toNat_natCast, Int.toNat_zero, Int.toNat_one, Int.toNat_natCast_add_one] at hx); conv => whnf)
    | (refine Each.nds (fun a b c ps hx => ?_); (try simp only [Int.toNat_natCast, Int.toNat_zero, Int.toNat_one, Int.toNat_natCast_add_one] at hx); conv => whnf)
    | (refine Each.rep ?_; conv => whnf)
    | (refine Each.drop ?_)
    | (refine Each.take (fun hi => ?_))
    | (refine Each.any (fun x hx => ?_); (try simp only [Int.toNat_natCast, Int.toNat_zero, Int.toNat_one, Int.toNat_natCast_add_one] at hx); conv => whnf)
    | (refine NilB.any (fun hn => ?_) ?_ <;> conv => whnf)
    | (refine CallWP.mono (ho) ?_; rintro r h ⟨rfl, rfl⟩; conv => whnf)
    | (refine ⟨_, bytesOfD_nums _, ?_⟩; conv => whnf)
    | (refine WP.sch (id := 30) tabOK hmix (.mob 1 (.mob 2 (.mob 3 (.mob 4 (.mob 5 (.mob 8 (.mob 9 (.mob 10 (.alt [(0, .alt [(6, .mob 11 (.mob 12 (.mob 13 (.alt [(7, .alt [(14, .alt [(15, .mob 16 (.mob 17 (.alt [(18, .alt [(19, .alt [(20, .alt [(21, .done)])])])])))])]), (14, .alt [(7, .alt [(15, .mob 16 (.mob 17 (.alt [(18, .alt [(19, .alt [(20, .alt [(21, .done)])])])])))]), (15, .mob 16 (.mob 17 (.alt [(7, .alt [(18, .alt [(19, .alt [(20, .alt [(21, .done)])])])])])))])]))))]), (6, .mob 11 (.mob 12 (.mob 13 (.alt [(0, .alt [(7, .alt [(14, .alt [(15, .mob 16 (.mob 17 (.alt [(18, .alt [(19, .alt [(20, .alt [(21, .done)])])])])))])]), (14, .alt [(7, .alt [(15, .mob 16 (.mob 17 (.alt [(18, .alt [(19, .alt [(20, .alt [(21, .done)])])])])))]), (15, .mob 16 (.mob 17 (.alt [(7, .alt [(18, .alt [(19, .alt [(20, .alt [(21, .done)])])])])])))])]), (7, .alt [(0, .alt [(14, .alt [(15, .mob 16 (.mob 17 (.alt [(18, .alt [(19, .alt [(20, .alt [(21, .done)])])])])))])]), (14, .alt [(0, .alt [(15, .mob 16 (.mob 17 (.alt [(18, .alt [(19, .alt [(20, .alt [(21, .done)])])])])))]), (15, .mob 16 (.mob 17 (.alt [(0, .alt [(18, .alt [(19, .alt [(20, .alt [(21, .done)])])])]), (18, .alt [(0, .alt [(19, .alt [(20, .alt [(21, .done)])])]), (19, .alt [(0, .alt [(20, .alt [(21, .done)])])])])])))])]), (14, .alt [(0, .alt [(7, .alt [(15, .mob 16 (.mob 17 (.alt [(18, .alt [(19, .alt [(20, .alt [(21, .done)])])])])))]), (15, .mob 16 (.mob 17 (.alt [(7, .alt [(18, .alt [(19, .alt [(20, .alt [(21, .done)])])])])])))]), (7, .alt [(0, .alt [(15, .mob 16 (.mob 17 (.alt [(18, .alt [(19, .alt [(20, .alt [(21, .done)])])])])))]), (15, .mob 16 (.mob 17 (.alt [(0, .alt [(18, .alt [(19, .alt [(20, .alt [(21, .done)])])])]), (18, .alt [(0, .alt [(19, .alt [(20, .alt [(21, .done)])])]), (19, .alt [(0, .alt [(20, .alt [(21, .done)])])])])])))]), (15, .mob 16 (.mob 17 (.alt [(0, .alt [(7, .alt [(18, .alt [(19, .alt [(20, .alt [(21, .done)])])])])]), (7, .alt [(0, .alt [(18, .alt [(19, .alt [(20, .alt [(21, .done)])])])]), (18, .alt [(0, .alt [(19, .alt [(20, .alt [(21, .done)])])]), (19, .alt [(0, .alt [(20, .alt [(21, .done)])])])])])])))])]))))]))))))))) (by kernel_rfl) ?_; conv => whnf)
    | (refine WP.sch (id := 46) tabOK hmix (.mob 1 (.mob 6 (.mob 7 (.alt [(0, .mob 2 (.mob 3 (.mob 4 (.alt [(5, .mob 8 (.mob 9 (.mob 10 (.mob 11 (.alt [(12, .done)])))))]))))])))) (by kernel_rfl) ?_; conv => whnf)
    | exact ⟨rfl, rfl⟩
    | (refine Fin.bool ?_ rfl)
    | (refine Fin.int ?_ rfl)
    | (refine Fin.str ?_ rfl)
    | (refine Fin.sl ?_ rfl)
    | exact trivial)
              all_goals repeat (first | exact True.intro | (refine Need.mk ?_ ?_; (focus ((first | rfl | assumption | omega | (simp only [List.length_map, List.length_append, List.length_take, List.length_drop, List.length_cons, List.length_nil, List.length_replicate, List.length_set, List.length_reverse, nds_len, numsD_length, shutF_len]; omega) | simp [hn2]); done)); conv => whnf) | ((conv => whnf); exact True.intro))
            · rw [decide_eq_false hv] at ho
              have hn2 : flD nw = [.int .i64 (lastIx openF l2), .str t.name, .sl (t.attrs.map Attr.d), .str [], .sl [], .bool true, .bool false] := by rw [hnw]; simp [flD, hself, hv]
              repeat' (first
    | (refine Br.tt ?_; conv => whnf)
    | (refine Br.ff ?_; conv => whnf)
    | (refine Both.mk ?_ ?_ <;> conv => whnf)
    | (refine Br.not ?_)
    | (refine Need.mk ?_ ?_; (focus ((first | omega | exact ⟨by omega, by omega⟩ | rfl | exact trivial | assumption | (simp only [List.length_map, List.length_append, List.length_take, List.length_drop, List.length_cons, List.length_nil, List.length_replicate, List.length_set, List.length_reverse, nds_len, numsD_length, shutF_len]; omega) | (simp only [List.length_map, List.length_append, List.length_take, List.length_drop, List.length_cons, List.length_nil, List.length_replicate, List.length_set, List.length_reverse, nds_len, numsD_length, shutF_len]; exact ⟨by omega, by omega⟩) | exact nds_each | (refine map_each ?_; intro x; rfl) | (refine first_map ?_; intro x; rfl) | exact first_nds | simp | (simp; omega)); done)); conv => whnf)
    | (refine Br.t (by assumption) ?_; conv => whnf)
    | (refine Br.f (by assumption) ?_; conv => whnf)
    | (refine Br.self ?_; conv => whnf)
    | (refine Br.decT (by assumption) ?_; conv => whnf)
    | (refine Br.decF (by assumption) ?_; conv => whnf)
    | (refine Br.eqT (by assumption) ?_; conv => whnf)
    | (refine Br.eqF (by assumption) ?_; conv => whnf)
    | (refine Br.dec (fun hc => ?_) (fun hc => ?_) <;> (try simp only [List.length_map, List.length_append, List.length_take, List.length_drop, List.length_cons, List.length_nil, List.length_replicate, List.length_set, List.length_reverse, nds_len, numsD_length, shutF_len] at hc) <;> first | (exfalso; omega) | exact absurd trivial hc | exact absurd rfl hc | conv => whnf)
    | (refine Br.eq (fun hc => ?_) (fun hc => ?_) <;> first | (exfalso; omega) | exact absurd trivial hc | exact absurd rfl hc | conv => whnf)
    | (refine Br.ne (fun hc => ?_) (fun hc => ?_) <;> first | (exfalso; omega) | exact absurd trivial hc | exact absurd rfl hc | conv => whnf)
    | (with_reducible refine Br.and ?_)
    | (with_reducible refine Br.or ?_)
    | (refine Br.any (fun hc => ?_) (fun hc => ?_) <;> conv => whnf)
    | (refine Fit.inl ?_ ?_; (focus ((first | omega | exact ⟨by omega, by omega⟩ | rfl | exact trivial | assumption | (simp only [List.length_map, List.length_append, List.length_take, List.length_drop, List.length_cons, List.length_nil, List.length_replicate, List.length_set, List.length_reverse, nds_len, numsD_length, shutF_len]; omega) | (simp only [List.length_map, List.length_append, List.length_take, List.length_drop, List.length_cons, List.length_nil, List.length_replicate, List.length_set, List.length_reverse, nds_len, numsD_length, shutF_len]; exact ⟨by omega, by omega⟩) | exact nds_each | (refine map_each ?_; intro x; rfl) | (refine first_map ?_; intro x; rfl) | exact first_nds | simp | (simp; omega)); done)); conv => whnf)
    | (refine Each.mapAt (by assumption) ?_; conv => whnf)
    | (refine Each.ndsAt (by assumption) ?_; conv => whnf)
    | (refine Each.at (by assumption) ?_; conv => whnf)
    | (refine Each.map (fun x hx => ?_); (try simp only [Int.toNat_natCast, Int.toNat_zero, Int.toNat_one, Int.toNat_natCast_add_one] at hx); conv => whnf)
    | (refine Each.nds (fun a b c ps hx => ?_); (try simp only [Int.toNat_natCast, Int.toNat_zero, Int.toNat_one, Int.toNat_natCast_add_one] at hx); conv => whnf)
    | (refine Each.rep ?_; conv => whnf)
    | (refine Each.drop ?_)
    | (refine Each.take (fun hi => ?_))
    | (refine Each.any (fun x hx => ?_); (try simp only [Int.toNat_natCast, Int.toNat_zero, Int.toNat_one, Int.toNat_natCast_add_one] at hx); conv => whnf)
    | (refine NilB.any (fun hn => ?_) ?_ <;> conv => whnf)
    | (refine CallWP.mono (ho) ?_; rintro r h ⟨rfl, rfl⟩; conv => whnf)
    | (refine ⟨_, bytesOfD_nums _, ?_⟩; conv => whnf)
    | (refine WP.sch (id := 30) tabOK hmix (.mob 1 (.mob 2 (.mob 3 (.mob 4 (.mob 5 (.mob 8 (.mob 9 (.mob 10 (.alt [(0, .alt [(6, .mob 11 (.mob 12 (.mob 13 (.alt [(7, .alt [(14, .alt [(15, .mob 16 (.mob 17 (.alt [(18, .alt [(19, .alt [(20, .alt [(21, .done)])])])])))])]), (14, .alt [(7, .alt [(15, .mob 16 (.mob 17 (.alt [(18, .alt [(19, .alt [(20, .alt [(21, .done)])])])])))]), (15, .mob 16 (.mob 17 (.alt [(7, .alt [(18, .alt [(19, .alt [(20, .alt [(21, .done)])])])])])))])]))))]), (6, .mob 11 (.mob 12 (.mob 13 (.alt [(0, .alt [(7, .alt [(14, .alt [(15, .mob 16 (.mob 17 (.alt [(18, .alt [(19, .alt [(20, .alt [(21, .done)])])])])))])]), (14, .alt [(7, .alt [(15, .mob 16 (.mob 17 (.alt [(18, .alt [(19, .alt [(20, .alt [(21, .done)])])])])))]), (15, .mob 16 (.mob 17 (.alt [(7, .alt [(18, .alt [(19, .alt [(20, .alt [(21, .done)])])])])])))])]), (7, .alt [(0, .alt [(14, .alt [(15, .mob 16 (.mob 17 (.alt [(18, .alt [(19, .alt [(20, .alt [(21, .done)])])])])))])]), (14, .alt [(0, .alt [(15, .mob 16 (.mob 17 (.alt [(18, .alt [(19, .alt [(20, .alt [(21, .done)])])])])))]), (15, .mob 16 (.mob 17 (.alt [(0, .alt [(18, .alt [(19, .alt [(20, .alt [(21, .done)])])])]), (18, .alt [(0, .alt [(19, .alt [(20, .alt [(21, .done)])])]), (19, .alt [(0, .alt [(20, .alt [(21, .done)])])])])])))])]), (14, .alt [(0, .alt [(7, .alt [(15, .mob 16 (.mob 17 (.alt [(18, .alt [(19, .alt [(20, .alt [(21, .done)])])])])))]), (15, .mob 16 (.mob 17 (.alt [(7, .alt [(18, .alt [(19, .alt [(20, .alt [(21, .done)])])])])])))]), (7, .alt [(0, .alt [(15, .mob 16 (.mob 17 (.alt [(18, .alt [(19, .alt [(20, .alt [(21, .done)])])])])))]), (15, .mob 16 (.mob 17 (.alt [(0, .alt [(18, .alt [(19, .alt [(20, .alt [(21, .done)])])])]), (18, .alt [(0, .alt [(19, .alt [(20, .alt [(21, .done)])])]), (19, .alt [(0, .alt [(20, .alt [(21, .done)])])])])])))]), (15, .mob 16 (.mob 17 (.alt [(0, .alt [(7, .alt [(18, .alt [(19, .alt [(20, .alt [(21, .done)])])])])]), (7, .alt [(0, .alt [(18, .alt [(19, .alt [(20, .alt [(21, .done)])])])]), (18, .alt [(0, .alt [(19, .alt [(20, .alt [(21, .done)])])]), (19, .alt [(0, .alt [(20, .alt [(21, .done)])])])])])])))])]))))]))))))))) (by kernel_rfl) ?_; conv => whnf)
    | (refine WP.sch (id := 46) tabOK hmix (.mob 1 (.mob 6 (.mob 7 (.alt [(0, .mob 2 (.mob 3 (.mob 4 (.alt [(5, .mob 8 (.mob 9 (.mob 10 (.mob 11 (.alt [(12, .done)])))))]))))])))) (by kernel_rfl) ?_; conv => whnf)
    | exact ⟨rfl, rfl⟩
    | (refine Fin.bool ?_ rfl)
    | (refine Fin.int ?_ rfl)
    | (refine Fin.str ?_ rfl)
    | (refine Fin.sl ?_ rfl)
    | exact trivial)
              all_goals repeat (first | exact True.intro | (refine Need.mk ?_ ?_; (focus ((first | rfl | assumption | omega | (simp only [List.length_map, List.length_append, List.length_take, List.length_drop, List.length_cons, List.length_nil, List.length_replicate, List.length_set, List.length_reverse, nds_len, numsD_length, shutF_len]; omega) | simp [hn2]); done)); conv => whnf) | ((conv => whnf); exact True.intro))
        by_cases hlen : (l2 ++ [nw]).length > 150
        · rw [if_pos hlen] at hrun
          have hrb : rbuild ts = ([], 1) := by
            unfold rbuild
            rw [if_neg hbig, ← hrun]
            rfl
          rw [hrb]
          conv => whnf
          repeat' (first
    | (refine Br.tt ?_; conv => whnf)
    | (refine Br.ff ?_; conv => whnf)
    | (refine Both.mk ?_ ?_ <;> conv => whnf)
    | (refine Br.not ?_)
    | (refine Need.mk ?_ ?_; (focus ((first | omega | exact ⟨by omega, by omega⟩ | rfl | exact trivial | assumption | (simp only [List.length_map, List.length_append, List.length_take, List.length_drop, List.length_cons, List.length_nil, List.length_replicate, List.length_set, List.length_reverse, nds_len, numsD_length, shutF_len]; omega) | (simp only [List.length_map, List.length_append, List.length_take, List.length_drop, List.length_cons, List.length_nil, List.length_replicate, List.length_set, List.length_reverse, nds_len, numsD_length, shutF_len]; exact ⟨by omega, by omega⟩) | exact nds_each | (refine map_each ?_; intro x; rfl) | (refine first_map ?_; intro x; rfl) | exact first_nds | simp | (simp; omega)); done)); conv => whnf)
    | (refine Br.t (by assumption) ?_; conv => whnf)
    | (refine Br.f (by assumption) ?_; conv => whnf)
    | (refine Br.self ?_; conv => whnf)
    | (refine Br.decT (by assumption) ?_; conv => whnf)
    | (refine Br.decF (by assumption) ?_; conv => whnf)
    | (refine Br.eqT (by assumption) ?_; conv => whnf)
    | (refine Br.eqF (by assumption) ?_; conv => whnf)
    | (refine Br.dec (fun hc => ?_) (fun hc => ?_) <;> (try simp only [List.length_map, List.length_append, List.length_take, List.length_drop, List.length_cons, List.length_nil, List.length_replicate, List.length_set, List.length_reverse, nds_len, numsD_length, shutF_len] at hc) <;> first | (exfalso; omega) | exact absurd trivial hc | exact absurd rfl hc | conv => whnf)
    | (refine Br.eq (fun hc => ?_) (fun hc => ?_) <;> first | (exfalso; omega) | exact absurd trivial hc | exact absurd rfl hc | conv => whnf)
    | (refine Br.ne (fun hc => ?_) (fun hc => ?_) <;> first | (exfalso; omega) | exact absurd trivial hc | exact absurd rfl hc | conv => whnf)
    | (with_reducible refine Br.and ?_)
    | (with_reducible refine Br.or ?_)
    | (refine Br.any (fun hc => ?_) (fun hc => ?_) <;> conv => whnf)
    | (refine Fit.inl ?_ ?_; (focus ((first | omega | exact ⟨by omega, by omega⟩ | rfl | exact trivial | assumption | (simp only [List.length_map, List.length_append, List.length_take, List.length_drop, List.length_cons, List.length_nil, List.length_replicate, List.length_set, List.length_reverse, nds_len, numsD_length, shutF_len]; omega) | (simp only [List.length_map, List.length_append, List.length_take, List.length_drop, List.length_cons, List.length_nil, List.length_replicate, List.length_set, List.length_reverse, nds_len, numsD_length, shutF_len]; exact ⟨by omega, by omega⟩) | exact nds_each | (refine map_each ?_; intro x; rfl) | (refine first_map ?_; intro x; rfl) | exact first_nds | simp | (simp; omega)); done)); conv => whnf)
    | (refine Each.mapAt (by assumption) ?_; conv => whnf)
    | (refine Each.ndsAt (by assumption) ?_; conv => whnf)
    | (refine Each.at (by assumption) ?_; conv => whnf)
    | (refine Each.map (fun x hx => ?_); (try simp only [Int.toNat_natCast, Int.toNat_zero, Int.toNat_one, Int.toNat_natCast_add_one] at hx); conv => whnf)
    | (refine Each.nds (fun a b c ps hx => ?_); (try simp only [Int.toNat_natCast, Int.toNat_zero, Int.toNat_one, Int.toNat_natCast_add_one] at hx); conv => whnf)
    | (refine Each.rep ?_; conv => whnf)
    | (refine Each.drop ?_)
    | (refine Each.take (fun hi => ?_))
    | (refine Each.any (fun x hx => ?_); (try simp only [Int.toNat_natCast, Int.toNat_zero, Int.toNat_one, Int.toNat_natCast_add_one] at hx); conv => whnf)
    | (refine NilB.any (fun hn => ?_) ?_ <;> conv => whnf)
    | (refine ⟨_, bytesOfD_nums _, ?_⟩; conv => whnf)
    | (refine WP.sch (id := 30) tabOK hmix (.mob 1 (.mob 2 (.mob 3 (.mob 4 (.mob 5 (.mob 8 (.mob 9 (.mob 10 (.alt [(0, .alt [(6, .mob 11 (.mob 12 (.mob 13 (.alt [(7, .alt [(14, .alt [(15, .mob 16 (.mob 17 (.alt [(18, .alt [(19, .alt [(20, .alt [(21, .done)])])])])))])]), (14, .alt [(7, .alt [(15, .mob 16 (.mob 17 (.alt [(18, .alt [(19, .alt [(20, .alt [(21, .done)])])])])))]), (15, .mob 16 (.mob 17 (.alt [(7, .alt [(18, .alt [(19, .alt [(20, .alt [(21, .done)])])])])])))])]))))]), (6, .mob 11 (.mob 12 (.mob 13 (.alt [(0, .alt [(7, .alt [(14, .alt [(15, .mob 16 (.mob 17 (.alt [(18, .alt [(19, .alt [(20, .alt [(21, .done)])])])])))])]), (14, .alt [(7, .alt [(15, .mob 16 (.mob 17 (.alt [(18, .alt [(19, .alt [(20, .alt [(21, .done)])])])])))]), (15, .mob 16 (.mob 17 (.alt [(7, .alt [(18, .alt [(19, .alt [(20, .alt [(21, .done)])])])])])))])]), (7, .alt [(0, .alt [(14, .alt [(15, .mob 16 (.mob 17 (.alt [(18, .alt [(19, .alt [(20, .alt [(21, .done)])])])])))])]), (14, .alt [(0, .alt [(15, .mob 16 (.mob 17 (.alt [(18, .alt [(19, .alt [(20, .alt [(21, .done)])])])])))]), (15, .mob 16 (.mob 17 (.alt [(0, .alt [(18, .alt [(19, .alt [(20, .alt [(21, .done)])])])]), (18, .alt [(0, .alt [(19, .alt [(20, .alt [(21, .done)])])]), (19, .alt [(0, .alt [(20, .alt [(21, .done)])])])])])))])]), (14, .alt [(0, .alt [(7, .alt [(15, .mob 16 (.mob 17 (.alt [(18, .alt [(19, .alt [(20, .alt [(21, .done)])])])])))]), (15, .mob 16 (.mob 17 (.alt [(7, .alt [(18, .alt [(19, .alt [(20, .alt [(21, .done)])])])])])))]), (7, .alt [(0, .alt [(15, .mob 16 (.mob 17 (.alt [(18, .alt [(19, .alt [(20, .alt [(21, .done)])])])])))]), (15, .mob 16 (.mob 17 (.alt [(0, .alt [(18, .alt [(19, .alt [(20, .alt [(21, .done)])])])]), (18, .alt [(0, .alt [(19, .alt [(20, .alt [(21, .done)])])]), (19, .alt [(0, .alt [(20, .alt [(21, .done)])])])])])))]), (15, .mob 16 (.mob 17 (.alt [(0, .alt [(7, .alt [(18, .alt [(19, .alt [(20, .alt [(21, .done)])])])])]), (7, .alt [(0, .alt [(18, .alt [(19, .alt [(20, .alt [(21, .done)])])])]), (18, .alt [(0, .alt [(19, .alt [(20, .alt [(21, .done)])])]), (19, .alt [(0, .alt [(20, .alt [(21, .done)])])])])])])))])]))))]))))))))) (by kernel_rfl) ?_; conv => whnf)
    | (refine WP.sch (id := 46) tabOK hmix (.mob 1 (.mob 6 (.mob 7 (.alt [(0, .mob 2 (.mob 3 (.mob 4 (.alt [(5, .mob 8 (.mob 9 (.mob 10 (.mob 11 (.alt [(12, .done)])))))]))))])))) (by kernel_rfl) ?_; conv => whnf)
    | exact ⟨rfl, rfl⟩
    | (refine Fin.bool ?_ rfl)
    | (refine Fin.int ?_ rfl)
    | (refine Fin.str ?_ rfl)
    | (refine Fin.sl ?_ rfl)
    | exact trivial)
          exact .inl ⟨rfl, rfl, rfl⟩
        · rw [if_neg hlen] at hrun
          have len5 : (l2 ++ [nw]).length ≤ 150 := by omega
          conv => whnf
          repeat' (first
    | (refine Br.tt ?_; conv => whnf)
    | (refine Br.ff ?_; conv => whnf)
    | (refine Both.mk ?_ ?_ <;> conv => whnf)
    | (refine Br.not ?_)
    | (refine Need.mk ?_ ?_; (focus ((first | omega | exact ⟨by omega, by omega⟩ | rfl | exact trivial | assumption | (simp only [List.length_map, List.length_append, List.length_take, List.length_drop, List.length_cons, List.length_nil, List.length_replicate, List.length_set, List.length_reverse, nds_len, numsD_length, shutF_len]; omega) | (simp only [List.length_map, List.length_append, List.length_take, List.length_drop, List.length_cons, List.length_nil, List.length_replicate, List.length_set, List.length_reverse, nds_len, numsD_length, shutF_len]; exact ⟨by omega, by omega⟩) | exact nds_each | (refine map_each ?_; intro x; rfl) | (refine first_map ?_; intro x; rfl) | exact first_nds | simp | (simp; omega)); done)); conv => whnf)
    | (refine Br.t (by assumption) ?_; conv => whnf)
    | (refine Br.f (by assumption) ?_; conv => whnf)
    | (refine Br.self ?_; conv => whnf)
    | (refine Br.decT (by assumption) ?_; conv => whnf)
    | (refine Br.decF (by assumption) ?_; conv => whnf)
    | (refine Br.eqT (by assumption) ?_; conv => whnf)
    | (refine Br.eqF (by assumption) ?_; conv => whnf)
    | (refine Br.dec (fun hc => ?_) (fun hc => ?_) <;> (try simp only [List.length_map, List.length_append, List.length_take, List.length_drop, List.length_cons, List.length_nil, List.length_replicate, List.length_set, List.length_reverse, nds_len, numsD_length, shutF_len] at hc) <;> first | (exfalso; omega) | exact absurd trivial hc | exact absurd rfl hc | conv => whnf)
    | (refine Br.eq (fun hc => ?_) (fun hc => ?_) <;> first | (exfalso; omega) | exact absurd trivial hc | exact absurd rfl hc | conv => whnf)
    | (refine Br.ne (fun hc => ?_) (fun hc => ?_) <;> first | (exfalso; omega) | exact absurd trivial hc | exact absurd rfl hc | conv => whnf)
    | (with_reducible refine Br.and ?_)
    | (with_reducible refine Br.or ?_)
    | (refine Br.any (fun hc => ?_) (fun hc => ?_) <;> conv => whnf)
    | (refine Fit.inl ?_ ?_; (focus ((first | omega | exact ⟨by omega, by omega⟩ | rfl | exact trivial | assumption | (simp only [List.length_map, List.length_append, List.length_take, List.length_drop, List.length_cons, List.length_nil, List.length_replicate, List.length_set, List.length_reverse, nds_len, numsD_length, shutF_len]; omega) | (simp only [List.length_map, List.length_append, List.length_take, List.length_drop, List.length_cons, List.length_nil, List.length_replicate, List.length_set, List.length_reverse, nds_len, numsD_length, shutF_len]; exact ⟨by omega, by omega⟩) | exact nds_each | (refine map_each ?_; intro x; rfl) | (refine first_map ?_; intro x; rfl) | exact first_nds | simp | (simp; omega)); done)); conv => whnf)
    | (refine Each.mapAt (by assumption) ?_; conv => whnf)
    | (refine Each.ndsAt (by assumption) ?_; conv => whnf)
    | (refine Each.at (by assumption) ?_; conv => whnf)
    | (refine Each.map (fun x hx => ?_); (try simp only [Int.toNat_natCast, Int.toNat_zero, Int.toNat_one, Int.toNat_natCast_add_one] at hx); conv => whnf)
    | (refine Each.nds (fun a b c ps hx => ?_); (try simp only [Int.toNat_natCast, Int.toNat_zero, Int.toNat_one, Int.toNat_natCast_add_one] at hx); conv => whnf)
    | (refine Each.rep ?_; conv => whnf)
    | (refine Each.drop ?_)
    | (refine Each.take (fun hi => ?_))
    | (refine Each.any (fun x hx => ?_); (try simp only [Int.toNat_natCast, Int.toNat_zero, Int.toNat_one, Int.toNat_natCast_add_one] at hx); conv => whnf)
    | (refine NilB.any (fun hn => ?_) ?_ <;> conv => whnf)
    | (refine ⟨_, bytesOfD_nums _, ?_⟩; conv => whnf)
    | (refine WP.sch (id := 30) tabOK hmix (.mob 1 (.mob 2 (.mob 3 (.mob 4 (.mob 5 (.mob 8 (.mob 9 (.mob 10 (.alt [(0, .alt [(6, .mob 11 (.mob 12 (.mob 13 (.alt [(7, .alt [(14, .alt [(15, .mob 16 (.mob 17 (.alt [(18, .alt [(19, .alt [(20, .alt [(21, .done)])])])])))])]), (14, .alt [(7, .alt [(15, .mob 16 (.mob 17 (.alt [(18, .alt [(19, .alt [(20, .alt [(21, .done)])])])])))]), (15, .mob 16 (.mob 17 (.alt [(7, .alt [(18, .alt [(19, .alt [(20, .alt [(21, .done)])])])])])))])]))))]), (6, .mob 11 (.mob 12 (.mob 13 (.alt [(0, .alt [(7, .alt [(14, .alt [(15, .mob 16 (.mob 17 (.alt [(18, .alt [(19, .alt [(20, .alt [(21, .done)])])])])))])]), (14, .alt [(7, .alt [(15, .mob 16 (.mob 17 (.alt [(18, .alt [(19, .alt [(20, .alt [(21, .done)])])])])))]), (15, .mob 16 (.mob 17 (.alt [(7, .alt [(18, .alt [(19, .alt [(20, .alt [(21, .done)])])])])])))])]), (7, .alt [(0, .alt [(14, .alt [(15, .mob 16 (.mob 17 (.alt [(18, .alt [(19, .alt [(20, .alt [(21, .done)])])])])))])]), (14, .alt [(0, .alt [(15, .mob 16 (.mob 17 (.alt [(18, .alt [(19, .alt [(20, .alt [(21, .done)])])])])))]), (15, .mob 16 (.mob 17 (.alt [(0, .alt [(18, .alt [(19, .alt [(20, .alt [(21, .done)])])])]), (18, .alt [(0, .alt [(19, .alt [(20, .alt [(21, .done)])])]), (19, .alt [(0, .alt [(20, .alt [(21, .done)])])])])])))])]), (14, .alt [(0, .alt [(7, .alt [(15, .mob 16 (.mob 17 (.alt [(18, .alt [(19, .alt [(20, .alt [(21, .done)])])])])))]), (15, .mob 16 (.mob 17 (.alt [(7, .alt [(18, .alt [(19, .alt [(20, .alt [(21, .done)])])])])])))]), (7, .alt [(0, .alt [(15, .mob 16 (.mob 17 (.alt [(18, .alt [(19, .alt [(20, .alt [(21, .done)])])])])))]), (15, .mob 16 (.mob 17 (.alt [(0, .alt [(18, .alt [(19, .alt [(20, .alt [(21, .done)])])])]), (18, .alt [(0, .alt [(19, .alt [(20, .alt [(21, .done)])])]), (19, .alt [(0, .alt [(20, .alt [(21, .done)])])])])])))]), (15, .mob 16 (.mob 17 (.alt [(0, .alt [(7, .alt [(18, .alt [(19, .alt [(20, .alt [(21, .done)])])])])]), (7, .alt [(0, .alt [(18, .alt [(19, .alt [(20, .alt [(21, .done)])])])]), (18, .alt [(0, .alt [(19, .alt [(20, .alt [(21, .done)])])]), (19, .alt [(0, .alt [(20, .alt [(21, .done)])])])])])])))])]))))]))))))))) (by kernel_rfl) ?_; conv => whnf)
    | (refine WP.sch (id := 46) tabOK hmix (.mob 1 (.mob 6 (.mob 7 (.alt [(0, .mob 2 (.mob 3 (.mob 4 (.alt [(5, .mob 8 (.mob 9 (.mob 10 (.mob 11 (.alt [(12, .done)])))))]))))])))) (by kernel_rfl) ?_; conv => whnf)
    | exact ⟨rfl, rfl⟩
    | (refine Fin.bool ?_ rfl)
    | (refine Fin.int ?_ rfl)
    | (refine Fin.str ?_ rfl)
    | (refine Fin.sl ?_ rfl)
    | exact trivial)
          refine ⟨(i + 1, l2 ++ [nw], []), ⟨hi1, len5, hrun, hwf'⟩, by dsimp only; omega, ?_⟩
          conv => whnf
          repeat (first | exact True.intro | (refine Need.mk ?_ ?_; (focus ((first | rfl | assumption | omega | (simp only [List.length_map, List.length_append, List.length_take, List.length_drop, List.length_cons, List.length_nil, List.length_replicate, List.length_set, List.length_reverse, nds_len, numsD_length, shutF_len]; omega) | simp); done)); conv => whnf) | ((conv => whnf); exact True.intro))
    have hi1 : i + 1 ≤ ts.length := hlt
    have hl40 : l.length < 2 ^ 40 := by omega
    by_cases k2 : t.kind = 2
    · have hps : rstep l mute t = some (shutF l (lastIx (openN t.name) l), if t.name = mute then [] else mute) := by unfold rstep; rw [if_neg k1, if_pos k2]
      rw [rrun_step hps, if_neg (by rw [shutF_len]; omega)] at hrun
      have hwf' := hwf.up (bnd i)
      rw [← shut_es l (lastIx (openN t.name) l)] at hwf'
      have len3 : (shutF l (lastIx (openN t.name) l)).length ≤ 150 := by rw [shutF_len]; exact hl
      by_cases hm : t.name = mute
      · rw [if_pos hm] at hrun
        conv => whnf
        repeat' (first
    | (refine Br.tt ?_; conv => whnf)
    | (refine Br.ff ?_; conv => whnf)
    | (refine Both.mk ?_ ?_ <;> conv => whnf)
    | (refine Br.not ?_)
    | (refine Need.mk ?_ ?_; (focus ((first | omega | exact ⟨by omega, by omega⟩ | rfl | exact trivial | assumption | (simp only [List.length_map, List.length_append, List.length_take, List.length_drop, List.length_cons, List.length_nil, List.length_replicate, List.length_set, List.length_reverse, nds_len, numsD_length, shutF_len]; omega) | (simp only [List.length_map, List.length_append, List.length_take, List.length_drop, List.length_cons, List.length_nil, List.length_replicate, List.length_set, List.length_reverse, nds_len, numsD_length, shutF_len]; exact ⟨by omega, by omega⟩) | exact nds_each | (refine map_each ?_; intro x; rfl) | (refine first_map ?_; intro x; rfl) | exact first_nds | simp | (simp; omega)); done)); conv => whnf)
    | (refine Br.t (by assumption) ?_; conv => whnf)
    | (refine Br.f (by assumption) ?_; conv => whnf)
    | (refine Br.self ?_; conv => whnf)
    | (refine Br.decT (by assumption) ?_; conv => whnf)
    | (refine Br.decF (by assumption) ?_; conv => whnf)
    | (refine Br.eqT (by assumption) ?_; conv => whnf)
    | (refine Br.eqF (by assumption) ?_; conv => whnf)
    | (refine Br.dec (fun hc => ?_) (fun hc => ?_) <;> (try simp only [List.length_map, List.length_append, List.length_take, List.length_drop, List.length_cons, List.length_nil, List.length_replicate, List.length_set, List.length_reverse, nds_len, numsD_length, shutF_len] at hc) <;> first | (exfalso; omega) | exact absurd trivial hc | exact absurd rfl hc | conv => whnf)
    | (refine Br.eq (fun hc => ?_) (fun hc => ?_) <;> first | (exfalso; omega) | exact absurd trivial hc | exact absurd rfl hc | conv => whnf)
    | (refine Br.ne (fun hc => ?_) (fun hc => ?_) <;> first | (exfalso; omega) | exact absurd trivial hc | exact absurd rfl hc | conv => whnf)
    | (with_reducible refine Br.and ?_)
    | (with_reducible refine Br.or ?_)
    | (refine Br.any (fun hc => ?_) (fun hc => ?_) <;> conv => whnf)
    | (refine Fit.inl ?_ ?_; (focus ((first | omega | exact ⟨by omega, by omega⟩ | rfl | exact trivial | assumption | (simp only [List.length_map, List.length_append, List.length_take, List.length_drop, List.length_cons, List.length_nil, List.length_replicate, List.length_set, List.length_reverse, nds_len, numsD_length, shutF_len]; omega) | (simp only [List.length_map, List.length_append, List.length_take, List.length_drop, List.length_cons, List.length_nil, List.length_replicate, List.length_set, List.length_reverse, nds_len, numsD_length, shutF_len]; exact ⟨by omega, by omega⟩) | exact nds_each | (refine map_each ?_; intro x; rfl) | (refine first_map ?_; intro x; rfl) | exact first_nds | simp | (simp; omega)); done)); conv => whnf)
    | (refine Each.mapAt (by assumption) ?_; conv => whnf)
    | (refine Each.ndsAt (by assumption) ?_; conv => whnf)
    | (refine Each.at (by assumption) ?_; conv => whnf)
    | (refine Each.map (fun x hx => ?_); (try simp only [Int.toNat_natCast, Int.toNat_zero, Int.toNat_one, Int.toNat_natCast_add_one] at hx); conv => whnf)
    | (refine Each.nds (fun a b c ps hx => ?_); (try simp only [Int.toNat_natCast, Int.toNat_zero, Int.toNat_one, Int.toNat_natCast_add_one] at hx); conv => whnf)
    | (refine Each.rep ?_; conv => whnf)
    | (refine Each.drop ?_)
    | (refine Each.take (fun hi => ?_))
    | (refine Each.any (fun x hx => ?_); (try simp only [Int.toNat_natCast, Int.toNat_zero, Int.toNat_one, Int.toNat_natCast_add_one] at hx); conv => whnf)
    | (refine NilB.any (fun hn => ?_) ?_ <;> conv => whnf)
    | (refine CallWP.mono (lastOf_ l t.name hl40) ?_; rintro r h ⟨rfl, rfl⟩; conv => whnf)
    | (refine CallWP.mono (shut_ l (lastIx (openN t.name) l) (lastIx_bound _ _) hl40) ?_; rintro r h ⟨rfl, rfl⟩; conv => whnf)
    | (refine ⟨_, bytesOfD_nums _, ?_⟩; conv => whnf)
    | (refine WP.sch (id := 30) tabOK hmix (.mob 1 (.mob 2 (.mob 3 (.mob 4 (.mob 5 (.mob 8 (.mob 9 (.mob 10 (.alt [(0, .alt [(6, .mob 11 (.mob 12 (.mob 13 (.alt [(7, .alt [(14, .alt [(15, .mob 16 (.mob 17 (.alt [(18, .alt [(19, .alt [(20, .alt [(21, .done)])])])])))])]), (14, .alt [(7, .alt [(15, .mob 16 (.mob 17 (.alt [(18, .alt [(19, .alt [(20, .alt [(21, .done)])])])])))]), (15, .mob 16 (.mob 17 (.alt [(7, .alt [(18, .alt [(19, .alt [(20, .alt [(21, .done)])])])])])))])]))))]), (6, .mob 11 (.mob 12 (.mob 13 (.alt [(0, .alt [(7, .alt [(14, .alt [(15, .mob 16 (.mob 17 (.alt [(18, .alt [(19, .alt [(20, .alt [(21, .done)])])])])))])]), (14, .alt [(7, .alt [(15, .mob 16 (.mob 17 (.alt [(18, .alt [(19, .alt [(20, .alt [(21, .done)])])])])))]), (15, .mob 16 (.mob 17 (.alt [(7, .alt [(18, .alt [(19, .alt [(20, .alt [(21, .done)])])])])])))])]), (7, .alt [(0, .alt [(14, .alt [(15, .mob 16 (.mob 17 (.alt [(18, .alt [(19, .alt [(20, .alt [(21, .done)])])])])))])]), (14, .alt [(0, .alt [(15, .mob 16 (.mob 17 (.alt [(18, .alt [(19, .alt [(20, .alt [(21, .done)])])])])))]), (15, .mob 16 (.mob 17 (.alt [(0, .alt [(18, .alt [(19, .alt [(20, .alt [(21, .done)])])])]), (18, .alt [(0, .alt [(19, .alt [(20, .alt [(21, .done)])])]), (19, .alt [(0, .alt [(20, .alt [(21, .done)])])])])])))])]), (14, .alt [(0, .alt [(7, .alt [(15, .mob 16 (.mob 17 (.alt [(18, .alt [(19, .alt [(20, .alt [(21, .done)])])])])))]), (15, .mob 16 (.mob 17 (.alt [(7, .alt [(18, .alt [(19, .alt [(20, .alt [(21, .done)])])])])])))]), (7, .alt [(0, .alt [(15, .mob 16 (.mob 17 (.alt [(18, .alt [(19, .alt [(20, .alt [(21, .done)])])])])))]), (15, .mob 16 (.mob 17 (.alt [(0, .alt [(18, .alt [(19, .alt [(20, .alt [(21, .done)])])])]), (18, .alt [(0, .alt [(19, .alt [(20, .alt [(21, .done)])])]), (19, .alt [(0, .alt [(20, .alt [(21, .done)])])])])])))]), (15, .mob 16 (.mob 17 (.alt [(0, .alt [(7, .alt [(18, .alt [(19, .alt [(20, .alt [(21, .done)])])])])]), (7, .alt [(0, .alt [(18, .alt [(19, .alt [(20, .alt [(21, .done)])])])]), (18, .alt [(0, .alt [(19, .alt [(20, .alt [(21, .done)])])]), (19, .alt [(0, .alt [(20, .alt [(21, .done)])])])])])])))])]))))]))))))))) (by kernel_rfl) ?_; conv => whnf)
    | (refine WP.sch (id := 46) tabOK hmix (.mob 1 (.mob 6 (.mob 7 (.alt [(0, .mob 2 (.mob 3 (.mob 4 (.alt [(5, .mob 8 (.mob 9 (.mob 10 (.mob 11 (.alt [(12, .done)])))))]))))])))) (by kernel_rfl) ?_; conv => whnf)
    | exact ⟨rfl, rfl⟩
    | (refine Fin.bool ?_ rfl)
    | (refine Fin.int ?_ rfl)
    | (refine Fin.str ?_ rfl)
    | (refine Fin.sl ?_ rfl)
    | exact trivial)
        refine ⟨(i + 1, shutF l (lastIx (openN t.name) l), []), ⟨hi1, len3, hrun, hwf'⟩, by dsimp only; omega, ?_⟩
        conv => whnf
        repeat (first | exact True.intro | (refine Need.mk ?_ ?_; (focus ((first | rfl | assumption | omega | (simp only [List.length_map, List.length_append, List.length_take, List.length_drop, List.length_cons, List.length_nil, List.length_replicate, List.length_set, List.length_reverse, nds_len, numsD_length, shutF_len]; omega) | simp); done)); conv => whnf) | ((conv => whnf); exact True.intro))
      · rw [if_neg hm] at hrun
        conv => whnf
        repeat' (first
    | (refine Br.tt ?_; conv => whnf)
    | (refine Br.ff ?_; conv => whnf)
    | (refine Both.mk ?_ ?_ <;> conv => whnf)
    | (refine Br.not ?_)
    | (refine Need.mk ?_ ?_; (focus ((first | omega | exact ⟨by omega, by omega⟩ | rfl | exact trivial | assumption | (simp only [List.length_map, List.length_append, List.length_take, List.length_drop, List.length_cons, List.length_nil, List.length_replicate, List.length_set, List.length_reverse, nds_len, numsD_length, shutF_len]; omega) | (simp only [List.length_map, List.length_append, List.length_take, List.length_drop, List.length_cons, List.length_nil, List.length_replicate, List.length_set, List.length_reverse, nds_len, numsD_length, shutF_len]; exact ⟨by omega, by omega⟩) | exact nds_each | (refine map_each ?_; intro x; rfl) | (refine first_map ?_; intro x; rfl) | exact first_nds | simp | (simp; omega)); done)); conv => whnf)
    | (refine Br.t (by assumption) ?_; conv => whnf)
    | (refine Br.f (by assumption) ?_; conv => whnf)
    | (refine Br.self ?_; conv => whnf)
    | (refine Br.decT (by assumption) ?_; conv => whnf)
    | (refine Br.decF (by assumption) ?_; conv => whnf)
    | (refine Br.eqT (by assumption) ?_; conv => whnf)
    | (refine Br.eqF (by assumption) ?_; conv => whnf)
    | (refine Br.dec (fun hc => ?_) (fun hc => ?_) <;> (try simp only [List.length_map, List.length_append, List.length_take, List.length_drop, List.length_cons, List.length_nil, List.length_replicate, List.length_set, List.length_reverse, nds_len, numsD_length, shutF_len] at hc) <;> first | (exfalso; omega) | exact absurd trivial hc | exact absurd rfl hc | conv => whnf)
    | (refine Br.eq (fun hc => ?_) (fun hc => ?_) <;> first | (exfalso; omega) | exact absurd trivial hc | exact absurd rfl hc | conv => whnf)
    | (refine Br.ne (fun hc => ?_) (fun hc => ?_) <;> first | (exfalso; omega) | exact absurd trivial hc | exact absurd rfl hc | conv => whnf)
    | (with_reducible refine Br.and ?_)
    | (with_reducible refine Br.or ?_)
    | (refine Br.any (fun hc => ?_) (fun hc => ?_) <;> conv => whnf)
    | (refine Fit.inl ?_ ?_; (focus ((first | omega | exact ⟨by omega, by omega⟩ | rfl | exact trivial | assumption | (simp only [List.length_map, List.length_append, List.length_take, List.length_drop, List.length_cons, List.length_nil, List.length_replicate, List.length_set, List.length_reverse, nds_len, numsD_length, shutF_len]; omega) | (simp only [List.length_map, List.length_append, List.length_take, List.length_drop, List.length_cons, List.length_nil, List.length_replicate, List.length_set, List.length_reverse, nds_len, numsD_length, shutF_len]; exact ⟨by omega, by omega⟩) | exact nds_each | (refine map_each ?_; intro x; rfl) | (refine first_map ?_; intro x; rfl) | exact first_nds | simp | (simp; omega)); done)); conv => whnf)
    | (refine Each.mapAt (by assumption) ?_; conv => whnf)
    | (refine Each.ndsAt (by assumption) ?_; conv => whnf)
    | (refine Each.at (by assumption) ?_; conv => whnf)
    | (refine Each.map (fun x hx => ?_); (try simp only [Int.toNat_natCast, Int.toNat_zero, Int.toNat_one, Int.toNat_natCast_add_one] at hx); conv => whnf)
    | (refine Each.nds (fun a b c ps hx => ?_); (try simp only [Int.toNat_natCast, Int.toNat_zero, Int.toNat_one, Int.toNat_natCast_add_one] at hx); conv => whnf)
    | (refine Each.rep ?_; conv => whnf)
    | (refine Each.drop ?_)
    | (refine Each.take (fun hi => ?_))
    | (refine Each.any (fun x hx => ?_); (try simp only [Int.toNat_natCast, Int.toNat_zero, Int.toNat_one, Int.toNat_natCast_add_one] at hx); conv => whnf)
    | (refine NilB.any (fun hn => ?_) ?_ <;> conv => whnf)
    | (refine CallWP.mono (lastOf_ l t.name hl40) ?_; rintro r h ⟨rfl, rfl⟩; conv => whnf)
    | (refine CallWP.mono (shut_ l (lastIx (openN t.name) l) (lastIx_bound _ _) hl40) ?_; rintro r h ⟨rfl, rfl⟩; conv => whnf)
    | (refine ⟨_, bytesOfD_nums _, ?_⟩; conv => whnf)
    | (refine WP.sch (id := 30) tabOK hmix (.mob 1 (.mob 2 (.mob 3 (.mob 4 (.mob 5 (.mob 8 (.mob 9 (.mob 10 (.alt [(0, .alt [(6, .mob 11 (.mob 12 (.mob 13 (.alt [(7, .alt [(14, .alt [(15, .mob 16 (.mob 17 (.alt [(18, .alt [(19, .alt [(20, .alt [(21, .done)])])])])))])]), (14, .alt [(7, .alt [(15, .mob 16 (.mob 17 (.alt [(18, .alt [(19, .alt [(20, .alt [(21, .done)])])])])))]), (15, .mob 16 (.mob 17 (.alt [(7, .alt [(18, .alt [(19, .alt [(20, .alt [(21, .done)])])])])])))])]))))]), (6, .mob 11 (.mob 12 (.mob 13 (.alt [(0, .alt [(7, .alt [(14, .alt [(15, .mob 16 (.mob 17 (.alt [(18, .alt [(19, .alt [(20, .alt [(21, .done)])])])])))])]), (14, .alt [(7, .alt [(15, .mob 16 (.mob 17 (.alt [(18, .alt [(19, .alt [(20, .alt [(21, .done)])])])])))]), (15, .mob 16 (.mob 17 (.alt [(7, .alt [(18, .alt [(19, .alt [(20, .alt [(21, .done)])])])])])))])]), (7, .alt [(0, .alt [(14, .alt [(15, .mob 16 (.mob 17 (.alt [(18, .alt [(19, .alt [(20, .alt [(21, .done)])])])])))])]), (14, .alt [(0, .alt [(15, .mob 16 (.mob 17 (.alt [(18, .alt [(19, .alt [(20, .alt [(21, .done)])])])])))]), (15, .mob 16 (.mob 17 (.alt [(0, .alt [(18, .alt [(19, .alt [(20, .alt [(21, .done)])])])]), (18, .alt [(0, .alt [(19, .alt [(20, .alt [(21, .done)])])]), (19, .alt [(0, .alt [(20, .alt [(21, .done)])])])])])))])]), (14, .alt [(0, .alt [(7, .alt [(15, .mob 16 (.mob 17 (.alt [(18, .alt [(19, .alt [(20, .alt [(21, .done)])])])])))]), (15, .mob 16 (.mob 17 (.alt [(7, .alt [(18, .alt [(19, .alt [(20, .alt [(21, .done)])])])])])))]), (7, .alt [(0, .alt [(15, .mob 16 (.mob 17 (.alt [(18, .alt [(19, .alt [(20, .alt [(21, .done)])])])])))]), (15, .mob 16 (.mob 17 (.alt [(0, .alt [(18, .alt [(19, .alt [(20, .alt [(21, .done)])])])]), (18, .alt [(0, .alt [(19, .alt [(20, .alt [(21, .done)])])]), (19, .alt [(0, .alt [(20, .alt [(21, .done)])])])])])))]), (15, .mob 16 (.mob 17 (.alt [(0, .alt [(7, .alt [(18, .alt [(19, .alt [(20, .alt [(21, .done)])])])])]), (7, .alt [(0, .alt [(18, .alt [(19, .alt [(20, .alt [(21, .done)])])])]), (18, .alt [(0, .alt [(19, .alt [(20, .alt [(21, .done)])])]), (19, .alt [(0, .alt [(20, .alt [(21, .done)])])])])])])))])]))))]))))))))) (by kernel_rfl) ?_; conv => whnf)
    | (refine WP.sch (id := 46) tabOK hmix (.mob 1 (.mob 6 (.mob 7 (.alt [(0, .mob 2 (.mob 3 (.mob 4 (.alt [(5, .mob 8 (.mob 9 (.mob 10 (.mob 11 (.alt [(12, .done)])))))]))))])))) (by kernel_rfl) ?_; conv => whnf)
    | exact ⟨rfl, rfl⟩
    | (refine Fin.bool ?_ rfl)
    | (refine Fin.int ?_ rfl)
    | (refine Fin.str ?_ rfl)
    | (refine Fin.sl ?_ rfl)
    | exact trivial)
        refine ⟨(i + 1, shutF l (lastIx (openN t.name) l), mute), ⟨hi1, len3, hrun, hwf'⟩, by dsimp only; omega, ?_⟩
        conv => whnf
        repeat (first | exact True.intro | (refine Need.mk ?_ ?_; (focus ((first | rfl | assumption | omega | (simp only [List.length_map, List.length_append, List.length_take, List.length_drop, List.length_cons, List.length_nil, List.length_replicate, List.length_set, List.length_reverse, nds_len, numsD_length, shutF_len]; omega) | simp); done)); conv => whnf) | ((conv => whnf); exact True.intro))
    by_cases k3 : t.kind = 3
    · have hps : rstep l mute t = some (rchars l mute t.text, mute) := by unfold rstep; rw [if_neg k1, if_neg k2, if_pos k3]
      have hin := inmost_ l hl40
      have hlb := lastIx_bound openF l
      obtain ⟨p, hp⟩ : ∃ p, lastIx openF l = p := ⟨_, rfl⟩
      rw [hp] at hin hlb
      by_cases hq : t.text = [] ∨ mute ≠ [] ∨ quietF l p = true
      · have hrc : rchars l mute t.text = l := by unfold rchars; rw [hp, if_pos hq]
        rw [rrun_step hps, hrc, if_neg (by omega)] at hrun
        have hwf' := hwf.up (bnd i)
        by_cases q1 : t.text = []
        · conv => whnf
          repeat' (first
    | (refine Br.tt ?_; conv => whnf)
    | (refine Br.ff ?_; conv => whnf)
    | (refine Both.mk ?_ ?_ <;> conv => whnf)
    | (refine Br.not ?_)
    | (refine Need.mk ?_ ?_; (focus ((first | omega | exact ⟨by omega, by omega⟩ | rfl | exact trivial | assumption | (simp only [List.length_map, List.length_append, List.length_take, List.length_drop, List.length_cons, List.length_nil, List.length_replicate, List.length_set, List.length_reverse, nds_len, numsD_length, shutF_len]; omega) | (simp only [List.length_map, List.length_append, List.length_take, List.length_drop, List.length_cons, List.length_nil, List.length_replicate, List.length_set, List.length_reverse, nds_len, numsD_length, shutF_len]; exact ⟨by omega, by omega⟩) | exact nds_each | (refine map_each ?_; intro x; rfl) | (refine first_map ?_; intro x; rfl) | exact first_nds | simp | (simp; omega)); done)); conv => whnf)
    | (refine Br.t (by assumption) ?_; conv => whnf)
    | (refine Br.f (by assumption) ?_; conv => whnf)
    | (refine Br.self ?_; conv => whnf)
    | (refine Br.decT (by assumption) ?_; conv => whnf)
    | (refine Br.decF (by assumption) ?_; conv => whnf)
    | (refine Br.eqT (by assumption) ?_; conv => whnf)
    | (refine Br.eqF (by assumption) ?_; conv => whnf)
    | (refine Br.dec (fun hc => ?_) (fun hc => ?_) <;> (try simp only [List.length_map, List.length_append, List.length_take, List.length_drop, List.length_cons, List.length_nil, List.length_replicate, List.length_set, List.length_reverse, nds_len, numsD_length, shutF_len] at hc) <;> first | (exfalso; omega) | exact absurd trivial hc | exact absurd rfl hc | conv => whnf)
    | (refine Br.eq (fun hc => ?_) (fun hc => ?_) <;> first | (exfalso; omega) | exact absurd trivial hc | exact absurd rfl hc | conv => whnf)
    | (refine Br.ne (fun hc => ?_) (fun hc => ?_) <;> first | (exfalso; omega) | exact absurd trivial hc | exact absurd rfl hc | conv => whnf)
    | (with_reducible refine Br.and ?_)
    | (with_reducible refine Br.or ?_)
    | (refine Br.any (fun hc => ?_) (fun hc => ?_) <;> conv => whnf)
    | (refine Fit.inl ?_ ?_; (focus ((first | omega | exact ⟨by omega, by omega⟩ | rfl | exact trivial | assumption | (simp only [List.length_map, List.length_append, List.length_take, List.length_drop, List.length_cons, List.length_nil, List.length_replicate, List.length_set, List.length_reverse, nds_len, numsD_length, shutF_len]; omega) | (simp only [List.length_map, List.length_append, List.length_take, List.length_drop, List.length_cons, List.length_nil, List.length_replicate, List.length_set, List.length_reverse, nds_len, numsD_length, shutF_len]; exact ⟨by omega, by omega⟩) | exact nds_each | (refine map_each ?_; intro x; rfl) | (refine first_map ?_; intro x; rfl) | exact first_nds | simp | (simp; omega)); done)); conv => whnf)
    | (refine Each.mapAt (by assumption) ?_; conv => whnf)
    | (refine Each.ndsAt (by assumption) ?_; conv => whnf)
    | (refine Each.at (by assumption) ?_; conv => whnf)
    | (refine Each.map (fun x hx => ?_); (try simp only [Int.toNat_natCast, Int.toNat_zero, Int.toNat_one, Int.toNat_natCast_add_one] at hx); conv => whnf)
    | (refine Each.nds (fun a b c ps hx => ?_); (try simp only [Int.toNat_natCast, Int.toNat_zero, Int.toNat_one, Int.toNat_natCast_add_one] at hx); conv => whnf)
    | (refine Each.rep ?_; conv => whnf)
    | (refine Each.drop ?_)
    | (refine Each.take (fun hi => ?_))
    | (refine Each.any (fun x hx => ?_); (try simp only [Int.toNat_natCast, Int.toNat_zero, Int.toNat_one, Int.toNat_natCast_add_one] at hx); conv => whnf)
    | (refine NilB.any (fun hn => ?_) ?_ <;> conv => whnf)
    | (refine CallWP.mono (hin) ?_; rintro r h ⟨rfl, rfl⟩; conv => whnf)
    | (refine ⟨_, bytesOfD_nums _, ?_⟩; conv => whnf)
    | (refine WP.sch (id := 30) tabOK hmix (.mob 1 (.mob 2 (.mob 3 (.mob 4 (.mob 5 (.mob 8 (.mob 9 (.mob 10 (.alt [(0, .alt [(6, .mob 11 (.mob 12 (.mob 13 (.alt [(7, .alt [(14, .alt [(15, .mob 16 (.mob 17 (.alt [(18, .alt [(19, .alt [(20, .alt [(21, .done)])])])])))])]), (14, .alt [(7, .alt [(15, .mob 16 (.mob 17 (.alt [(18, .alt [(19, .alt [(20, .alt [(21, .done)])])])])))]), (15, .mob 16 (.mob 17 (.alt [(7, .alt [(18, .alt [(19, .alt [(20, .alt [(21, .done)])])])])])))])]))))]), (6, .mob 11 (.mob 12 (.mob 13 (.alt [(0, .alt [(7, .alt [(14, .alt [(15, .mob 16 (.mob 17 (.alt [(18, .alt [(19, .alt [(20, .alt [(21, .done)])])])])))])]), (14, .alt [(7, .alt [(15, .mob 16 (.mob 17 (.alt [(18, .alt [(19, .alt [(20, .alt [(21, .done)])])])])))]), (15, .mob 16 (.mob 17 (.alt [(7, .alt [(18, .alt [(19, .alt [(20, .alt [(21, .done)])])])])])))])]), (7, .alt [(0, .alt [(14, .alt [(15, .mob 16 (.mob 17 (.alt [(18, .alt [(19, .alt [(20, .alt [(21, .done)])])])])))])]), (14, .alt [(0, .alt [(15, .mob 16 (.mob 17 (.alt [(18, .alt [(19, .alt [(20, .alt [(21, .done)])])])])))]), (15, .mob 16 (.mob 17 (.alt [(0, .alt [(18, .alt [(19, .alt [(20, .alt [(21, .done)])])])]), (18, .alt [(0, .alt [(19, .alt [(20, .alt [(21, .done)])])]), (19, .alt [(0, .alt [(20, .alt [(21, .done)])])])])])))])]), (14, .alt [(0, .alt [(7, .alt [(15, .mob 16 (.mob 17 (.alt [(18, .alt [(19, .alt [(20, .alt [(21, .done)])])])])))]), (15, .mob 16 (.mob 17 (.alt [(7, .alt [(18, .alt [(19, .alt [(20, .alt [(21, .done)])])])])])))]), (7, .alt [(0, .alt [(15, .mob 16 (.mob 17 (.alt [(18, .alt [(19, .alt [(20, .alt [(21, .done)])])])])))]), (15, .mob 16 (.mob 17 (.alt [(0, .alt [(18, .alt [(19, .alt [(20, .alt [(21, .done)])])])]), (18, .alt [(0, .alt [(19, .alt [(20, .alt [(21, .done)])])]), (19, .alt [(0, .alt [(20, .alt [(21, .done)])])])])])))]), (15, .mob 16 (.mob 17 (.alt [(0, .alt [(7, .alt [(18, .alt [(19, .alt [(20, .alt [(21, .done)])])])])]), (7, .alt [(0, .alt [(18, .alt [(19, .alt [(20, .alt [(21, .done)])])])]), (18, .alt [(0, .alt [(19, .alt [(20, .alt [(21, .done)])])]), (19, .alt [(0, .alt [(20, .alt [(21, .done)])])])])])])))])]))))]))))))))) (by kernel_rfl) ?_; conv => whnf)
    | (refine WP.sch (id := 46) tabOK hmix (.mob 1 (.mob 6 (.mob 7 (.alt [(0, .mob 2 (.mob 3 (.mob 4 (.alt [(5, .mob 8 (.mob 9 (.mob 10 (.mob 11 (.alt [(12, .done)])))))]))))])))) (by kernel_rfl) ?_; conv => whnf)
    | exact ⟨rfl, rfl⟩
    | (refine Fin.bool ?_ rfl)
    | (refine Fin.int ?_ rfl)
    | (refine Fin.str ?_ rfl)
    | (refine Fin.sl ?_ rfl)
    | exact trivial)
          refine ⟨(i + 1, l, mute), ⟨hi1, hl, hrun, hwf'⟩, by dsimp only; omega, ?_⟩
          conv => whnf
          repeat (first | exact True.intro | (refine Need.mk ?_ ?_; (focus ((first | rfl | assumption | omega | (simp only [List.length_map, List.length_append, List.length_take, List.length_drop, List.length_cons, List.length_nil, List.length_replicate, List.length_set, List.length_reverse, nds_len, numsD_length, shutF_len]; omega) | simp); done)); conv => whnf) | ((conv => whnf); exact True.intro))
        by_cases q2 : mute = []
        · have q3 : quietF l p = true := by
            rcases hq with h | h | h
            · exact absurd h q1
            · exact absurd q2 h
            · exact h
          have p0 : 0 ≤ p := by
            cases h : decide (0 ≤ p) with
            | true => simpa using h
            | false => simp [quietF, h] at q3
          obtain ⟨k, rfl⟩ : ∃ k : Nat, p = (k : Int) := ⟨p.toNat, by omega⟩
          obtain ⟨f, hf⟩ : ∃ y, l[k]? = some y := ⟨_, List.getElem?_eq_getElem (by omega)⟩
          have hsc : f.1.name = sScript ∨ f.1.name = sStyle := by simpa [quietF, hf] using q3
          have ho := oneOf_ [sScript, sStyle] f.1.name (by decide)
          rw [any_mem, decide_eq_true (by simpa using hsc)] at ho
          conv => whnf
          repeat' (first
    | (refine Br.tt ?_; conv => whnf)
    | (refine Br.ff ?_; conv => whnf)
    | (refine Both.mk ?_ ?_ <;> conv => whnf)
    | (refine Br.not ?_)
    | (refine Need.mk ?_ ?_; (focus ((first | omega | exact ⟨by omega, by omega⟩ | rfl | exact trivial | assumption | (simp only [List.length_map, List.length_append, List.length_take, List.length_drop, List.length_cons, List.length_nil, List.length_replicate, List.length_set, List.length_reverse, nds_len, numsD_length, shutF_len]; omega) | (simp only [List.length_map, List.length_append, List.length_take, List.length_drop, List.length_cons, List.length_nil, List.length_replicate, List.length_set, List.length_reverse, nds_len, numsD_length, shutF_len]; exact ⟨by omega, by omega⟩) | exact nds_each | (refine map_each ?_; intro x; rfl) | (refine first_map ?_; intro x; rfl) | exact first_nds | simp | (simp; omega)); done)); conv => whnf)
    | (refine Br.t (by assumption) ?_; conv => whnf)
    | (refine Br.f (by assumption) ?_; conv => whnf)
    | (refine Br.self ?_; conv => whnf)
    | (refine Br.decT (by assumption) ?_; conv => whnf)
    | (refine Br.decF (by assumption) ?_; conv => whnf)
    | (refine Br.eqT (by assumption) ?_; conv => whnf)
    | (refine Br.eqF (by assumption) ?_; conv => whnf)
    | (refine Br.dec (fun hc => ?_) (fun hc => ?_) <;> (try simp only [List.length_map, List.length_append, List.length_take, List.length_drop, List.length_cons, List.length_nil, List.length_replicate, List.length_set, List.length_reverse, nds_len, numsD_length, shutF_len] at hc) <;> first | (exfalso; omega) | exact absurd trivial hc | exact absurd rfl hc | conv => whnf)
    | (refine Br.eq (fun hc => ?_) (fun hc => ?_) <;> first | (exfalso; omega) | exact absurd trivial hc | exact absurd rfl hc | conv => whnf)
    | (refine Br.ne (fun hc => ?_) (fun hc => ?_) <;> first | (exfalso; omega) | exact absurd trivial hc | exact absurd rfl hc | conv => whnf)
    | (with_reducible refine Br.and ?_)
    | (with_reducible refine Br.or ?_)
    | (refine Br.any (fun hc => ?_) (fun hc => ?_) <;> conv => whnf)
    | (refine Fit.inl ?_ ?_; (focus ((first | omega | exact ⟨by omega, by omega⟩ | rfl | exact trivial | assumption | (simp only [List.length_map, List.length_append, List.length_take, List.length_drop, List.length_cons, List.length_nil, List.length_replicate, List.length_set, List.length_reverse, nds_len, numsD_length, shutF_len]; omega) | (simp only [List.length_map, List.length_append, List.length_take, List.length_drop, List.length_cons, List.length_nil, List.length_replicate, List.length_set, List.length_reverse, nds_len, numsD_length, shutF_len]; exact ⟨by omega, by omega⟩) | exact nds_each | (refine map_each ?_; intro x; rfl) | (refine first_map ?_; intro x; rfl) | exact first_nds | simp | (simp; omega)); done)); conv => whnf)
    | (refine Each.mapAt (by assumption) ?_; conv => whnf)
    | (refine Each.ndsAt (by assumption) ?_; conv => whnf)
    | (refine Each.at (by assumption) ?_; conv => whnf)
    | (refine Each.map (fun x hx => ?_); (try simp only [Int.toNat_natCast, Int.toNat_zero, Int.toNat_one, Int.toNat_natCast_add_one] at hx); conv => whnf)
    | (refine Each.nds (fun a b c ps hx => ?_); (try simp only [Int.toNat_natCast, Int.toNat_zero, Int.toNat_one, Int.toNat_natCast_add_one] at hx); conv => whnf)
    | (refine Each.rep ?_; conv => whnf)
    | (refine Each.drop ?_)
    | (refine Each.take (fun hi => ?_))
    | (refine Each.any (fun x hx => ?_); (try simp only [Int.toNat_natCast, Int.toNat_zero, Int.toNat_one, Int.toNat_natCast_add_one] at hx); conv => whnf)
    | (refine NilB.any (fun hn => ?_) ?_ <;> conv => whnf)
    | (refine CallWP.mono (hin) ?_; rintro r h ⟨rfl, rfl⟩; conv => whnf)
    | (refine CallWP.mono (ho) ?_; rintro r h ⟨rfl, rfl⟩; conv => whnf)
    | (refine ⟨_, bytesOfD_nums _, ?_⟩; conv => whnf)
    | (refine WP.sch (id := 30) tabOK hmix (.mob 1 (.mob 2 (.mob 3 (.mob 4 (.mob 5 (.mob 8 (.mob 9 (.mob 10 (.alt [(0, .alt [(6, .mob 11 (.mob 12 (.mob 13 (.alt [(7, .alt [(14, .alt [(15, .mob 16 (.mob 17 (.alt [(18, .alt [(19, .alt [(20, .alt [(21, .done)])])])])))])]), (14, .alt [(7, .alt [(15, .mob 16 (.mob 17 (.alt [(18, .alt [(19, .alt [(20, .alt [(21, .done)])])])])))]), (15, .mob 16 (.mob 17 (.alt [(7, .alt [(18, .alt [(19, .alt [(20, .alt [(21, .done)])])])])])))])]))))]), (6, .mob 11 (.mob 12 (.mob 13 (.alt [(0, .alt [(7, .alt [(14, .alt [(15, .mob 16 (.mob 17 (.alt [(18, .alt [(19, .alt [(20, .alt [(21, .done)])])])])))])]), (14, .alt [(7, .alt [(15, .mob 16 (.mob 17 (.alt [(18, .alt [(19, .alt [(20, .alt [(21, .done)])])])])))]), (15, .mob 16 (.mob 17 (.alt [(7, .alt [(18, .alt [(19, .alt [(20, .alt [(21, .done)])])])])])))])]), (7, .alt [(0, .alt [(14, .alt [(15, .mob 16 (.mob 17 (.alt [(18, .alt [(19, .alt [(20, .alt [(21, .done)])])])])))])]), (14, .alt [(0, .alt [(15, .mob 16 (.mob 17 (.alt [(18, .alt [(19, .alt [(20, .alt [(21, .done)])])])])))]), (15, .mob 16 (.mob 17 (.alt [(0, .alt [(18, .alt [(19, .alt [(20, .alt [(21, .done)])])])]), (18, .alt [(0, .alt [(19, .alt [(20, .alt [(21, .done)])])]), (19, .alt [(0, .alt [(20, .alt [(21, .done)])])])])])))])]), (14, .alt [(0, .alt [(7, .alt [(15, .mob 16 (.mob 17 (.alt [(18, .alt [(19, .alt [(20, .alt [(21, .done)])])])])))]), (15, .mob 16 (.mob 17 (.alt [(7, .alt [(18, .alt [(19, .alt [(20, .alt [(21, .done)])])])])])))]), (7, .alt [(0, .alt [(15, .mob 16 (.mob 17 (.alt [(18, .alt [(19, .alt [(20, .alt [(21, .done)])])])])))]), (15, .mob 16 (.mob 17 (.alt [(0, .alt [(18, .alt [(19, .alt [(20, .alt [(21, .done)])])])]), (18, .alt [(0, .alt [(19, .alt [(20, .alt [(21, .done)])])]), (19, .alt [(0, .alt [(20, .alt [(21, .done)])])])])])))]), (15, .mob 16 (.mob 17 (.alt [(0, .alt [(7, .alt [(18, .alt [(19, .alt [(20, .alt [(21, .done)])])])])]), (7, .alt [(0, .alt [(18, .alt [(19, .alt [(20, .alt [(21, .done)])])])]), (18, .alt [(0, .alt [(19, .alt [(20, .alt [(21, .done)])])]), (19, .alt [(0, .alt [(20, .alt [(21, .done)])])])])])])))])]))))]))))))))) (by kernel_rfl) ?_; conv => whnf)
    | (refine WP.sch (id := 46) tabOK hmix (.mob 1 (.mob 6 (.mob 7 (.alt [(0, .mob 2 (.mob 3 (.mob 4 (.alt [(5, .mob 8 (.mob 9 (.mob 10 (.mob 11 (.alt [(12, .done)])))))]))))])))) (by kernel_rfl) ?_; conv => whnf)
    | exact ⟨rfl, rfl⟩
    | (refine Fin.bool ?_ rfl)
    | (refine Fin.int ?_ rfl)
    | (refine Fin.str ?_ rfl)
    | (refine Fin.sl ?_ rfl)
    | exact trivial)
          refine ⟨(i + 1, l, mute), ⟨hi1, hl, hrun, hwf'⟩, by dsimp only; omega, ?_⟩
          conv => whnf
          repeat (first | exact True.intro | (refine Need.mk ?_ ?_; (focus ((first | rfl | assumption | omega | (simp only [List.length_map, List.length_append, List.length_take, List.length_drop, List.length_cons, List.length_nil, List.length_replicate, List.length_set, List.length_reverse, nds_len, numsD_length, shutF_len]; omega) | simp); done)); conv => whnf) | ((conv => whnf); exact True.intro))
        · conv => whnf
          repeat' (first
    | (refine Br.tt ?_; conv => whnf)
    | (refine Br.ff ?_; conv => whnf)
    | (refine Both.mk ?_ ?_ <;> conv => whnf)
    | (refine Br.not ?_)
    | (refine Need.mk ?_ ?_; (focus ((first | omega | exact ⟨by omega, by omega⟩ | rfl | exact trivial | assumption | (simp only [List.length_map, List.length_append, List.length_take, List.length_drop, List.length_cons, List.length_nil, List.length_replicate, List.length_set, List.length_reverse, nds_len, numsD_length, shutF_len]; omega) | (simp only [List.length_map, List.length_append, List.length_take, List.length_drop, List.length_cons, List.length_nil, List.length_replicate, List.length_set, List.length_reverse, nds_len, numsD_length, shutF_len]; exact ⟨by omega, by omega⟩) | exact nds_each | (refine map_each ?_; intro x; rfl) | (refine first_map ?_; intro x; rfl) | exact first_nds | simp | (simp; omega)); done)); conv => whnf)
    | (refine Br.t (by assumption) ?_; conv => whnf)
    | (refine Br.f (by assumption) ?_; conv => whnf)
    | (refine Br.self ?_; conv => whnf)
    | (refine Br.decT (by assumption) ?_; conv => whnf)
    | (refine Br.decF (by assumption) ?_; conv => whnf)
    | (refine Br.eqT (by assumption) ?_; conv => whnf)
    | (refine Br.eqF (by assumption) ?_; conv => whnf)
    | (refine Br.dec (fun hc => ?_) (fun hc => ?_) <;> (try simp only [List.length_map, List.length_append, List.length_take, List.length_drop, List.length_cons, List.length_nil, List.length_replicate, List.length_set, List.length_reverse, nds_len, numsD_length, shutF_len] at hc) <;> first | (exfalso; omega) | exact absurd trivial hc | exact absurd rfl hc | conv => whnf)
    | (refine Br.eq (fun hc => ?_) (fun hc => ?_) <;> first | (exfalso; omega) | exact absurd trivial hc | exact absurd rfl hc | conv => whnf)
    | (refine Br.ne (fun hc => ?_) (fun hc => ?_) <;> first | (exfalso; omega) | exact absurd trivial hc | exact absurd rfl hc | conv => whnf)
    | (with_reducible refine Br.and ?_)
    | (with_reducible refine Br.or ?_)
    | (refine Br.any (fun hc => ?_) (fun hc => ?_) <;> conv => whnf)
    | (refine Fit.inl ?_ ?_; (focus ((first | omega | exact ⟨by omega, by omega⟩ | rfl | exact trivial | assumption | (simp only [List.length_map, List.length_append, List.length_take, List.length_drop, List.length_cons, List.length_nil, List.length_replicate, List.length_set, List.length_reverse, nds_len, numsD_length, shutF_len]; omega) | (simp only [List.length_map, List.length_append, List.length_take, List.length_drop, List.length_cons, List.length_nil, List.length_replicate, List.length_set, List.length_reverse, nds_len, numsD_length, shutF_len]; exact ⟨by omega, by omega⟩) | exact nds_each | (refine map_each ?_; intro x; rfl) | (refine first_map ?_; intro x; rfl) | exact first_nds | simp | (simp; omega)); done)); conv => whnf)
    | (refine Each.mapAt (by assumption) ?_; conv => whnf)
    | (refine Each.ndsAt (by assumption) ?_; conv => whnf)
    | (refine Each.at (by assumption) ?_; conv => whnf)
    | (refine Each.map (fun x hx => ?_); (try simp only [Int.toNat_natCast, Int.toNat_zero, Int.toNat_one, Int.toNat_natCast_add_one] at hx); conv => whnf)
    | (refine Each.nds (fun a b c ps hx => ?_); (try simp only [Int.toNat_natCast, Int.toNat_zero, Int.toNat_one, Int.toNat_natCast_add_one] at hx); conv => whnf)
    | (refine Each.rep ?_; conv => whnf)
    | (refine Each.drop ?_)
    | (refine Each.take (fun hi => ?_))
    | (refine Each.any (fun x hx => ?_); (try simp only [Int.toNat_natCast, Int.toNat_zero, Int.toNat_one, Int.toNat_natCast_add_one] at hx); conv => whnf)
    | (refine NilB.any (fun hn => ?_) ?_ <;> conv => whnf)
    | (refine CallWP.mono (hin) ?_; rintro r h ⟨rfl, rfl⟩; conv => whnf)
    | (refine ⟨_, bytesOfD_nums _, ?_⟩; conv => whnf)
    | (refine WP.sch (id := 30) tabOK hmix (.mob 1 (.mob 2 (.mob 3 (.mob 4 (.mob 5 (.mob 8 (.mob 9 (.mob 10 (.alt [(0, .alt [(6, .mob 11 (.mob 12 (.mob 13 (.alt [(7, .alt [(14, .alt [(15, .mob 16 (.mob 17 (.alt [(18, .alt [(19, .alt [(20, .alt [(21, .done)])])])])))])]), (14, .alt [(7, .alt [(15, .mob 16 (.mob 17 (.alt [(18, .alt [(19, .alt [(20, .alt [(21, .done)])])])])))]), (15, .mob 16 (.mob 17 (.alt [(7, .alt [(18, .alt [(19, .alt [(20, .alt [(21, .done)])])])])])))])]))))]), (6, .mob 11 (.mob 12 (.mob 13 (.alt [(0, .alt [(7, .alt [(14, .alt [(15, .mob 16 (.mob 17 (.alt [(18, .alt [(19, .alt [(20, .alt [(21, .done)])])])])))])]), (14, .alt [(7, .alt [(15, .mob 16 (.mob 17 (.alt [(18, .alt [(19, .alt [(20, .alt [(21, .done)])])])])))]), (15, .mob 16 (.mob 17 (.alt [(7, .alt [(18, .alt [(19, .alt [(20, .alt [(21, .done)])])])])])))])]), (7, .alt [(0, .alt [(14, .alt [(15, .mob 16 (.mob 17 (.alt [(18, .alt [(19, .alt [(20, .alt [(21, .done)])])])])))])]), (14, .alt [(0, .alt [(15, .mob 16 (.mob 17 (.alt [(18, .alt [(19, .alt [(20, .alt [(21, .done)])])])])))]), (15, .mob 16 (.mob 17 (.alt [(0, .alt [(18, .alt [(19, .alt [(20, .alt [(21, .done)])])])]), (18, .alt [(0, .alt [(19, .alt [(20, .alt [(21, .done)])])]), (19, .alt [(0, .alt [(20, .alt [(21, .done)])])])])])))])]), (14, .alt [(0, .alt [(7, .alt [(15, .mob 16 (.mob 17 (.alt [(18, .alt [(19, .alt [(20, .alt [(21, .done)])])])])))]), (15, .mob 16 (.mob 17 (.alt [(7, .alt [(18, .alt [(19, .alt [(20, .alt [(21, .done)])])])])])))]), (7, .alt [(0, .alt [(15, .mob 16 (.mob 17 (.alt [(18, .alt [(19, .alt [(20, .alt [(21, .done)])])])])))]), (15, .mob 16 (.mob 17 (.alt [(0, .alt [(18, .alt [(19, .alt [(20, .alt [(21, .done)])])])]), (18, .alt [(0, .alt [(19, .alt [(20, .alt [(21, .done)])])]), (19, .alt [(0, .alt [(20, .alt [(21, .done)])])])])])))]), (15, .mob 16 (.mob 17 (.alt [(0, .alt [(7, .alt [(18, .alt [(19, .alt [(20, .alt [(21, .done)])])])])]), (7, .alt [(0, .alt [(18, .alt [(19, .alt [(20, .alt [(21, .done)])])])]), (18, .alt [(0, .alt [(19, .alt [(20, .alt [(21, .done)])])]), (19, .alt [(0, .alt [(20, .alt [(21, .done)])])])])])])))])]))))]))))))))) (by kernel_rfl) ?_; conv => whnf)
    | (refine WP.sch (id := 46) tabOK hmix (.mob 1 (.mob 6 (.mob 7 (.alt [(0, .mob 2 (.mob 3 (.mob 4 (.alt [(5, .mob 8 (.mob 9 (.mob 10 (.mob 11 (.alt [(12, .done)])))))]))))])))) (by kernel_rfl) ?_; conv => whnf)
    | exact ⟨rfl, rfl⟩
    | (refine Fin.bool ?_ rfl)
    | (refine Fin.int ?_ rfl)
    | (refine Fin.str ?_ rfl)
    | (refine Fin.sl ?_ rfl)
    | exact trivial)
          refine ⟨(i + 1, l, mute), ⟨hi1, hl, hrun, hwf'⟩, by dsimp only; omega, ?_⟩
          conv => whnf
          repeat (first | exact True.intro | (refine Need.mk ?_ ?_; (focus ((first | rfl | assumption | omega | (simp only [List.length_map, List.length_append, List.length_take, List.length_drop, List.length_cons, List.length_nil, List.length_replicate, List.length_set, List.length_reverse, nds_len, numsD_length, shutF_len]; omega) | simp); done)); conv => whnf) | ((conv => whnf); exact True.intro))
      · have hrc : rchars l mute t.text = addTxF l p t.text := by unfold rchars; rw [hp, if_neg hq]
        rw [rrun_step hps, hrc] at hrun
        have q1 : ¬ t.text = [] := fun h => hq (.inl h)
        have q2 : mute = [] := by
          cases mute with
          | nil => rfl
          | cons a b => exact absurd (.inr (.inl (by simp))) hq
        have q3 : ¬ quietF l p = true := fun h => hq (.inr (.inr h))
        subst q2
        clear hq hrc
        apply WP.later (P := Tryd.prog) (B := 0) (fun _ : Unit => ⟨[(4, .ref 0 0 0), (5, (.d (.str ([])))), (6, .fn 12 [.ref 0 0 0]), (7, .fn 13 [.ref 0 0 0]), (8, .fn 14 [.ref 0 0 0]), (10, .ref 1 0 0), (15, (.d (.int .i64 (p)))), (16, (.d (.int .i64 (-1)))), (26, (.d (.sl (ts.map Token.d)))), (27, (.d (.int .i64 ((ts.map Token.d).length)))), (28, (.d (.int .i64 (i)))), (149, .full 2), (150, (.d (.int .i64 ((l.map flD).length)))), (151, (.d (.int .i64 (0))))], [(0, .var 45 [.full 2]), (1, .var 39 [(.d (.int .i64 (t.kind))), (.d (.str (t.name))), (.d (.sl (t.attrs.map Attr.d))), (.d (.bool (t.self))), (.d (.str (t.text)))]), (2, .row 49 (l.map flD))], 3, 200⟩) (fun _ => True)
        · intro H
          by_cases p0 : 0 ≤ p
          · obtain ⟨k, rfl⟩ : ∃ k : Nat, p = (k : Int) := ⟨p.toNat, by omega⟩
            obtain ⟨f, hf⟩ : ∃ y, l[k]? = some y := ⟨_, List.getElem?_eq_getElem (by omega)⟩
            have hsc : ¬ (f.1.name = sScript ∨ f.1.name = sStyle) := by simpa [quietF, hf] using q3
            have ho := oneOf_ [sScript, sStyle] f.1.name (by decide)
            rw [any_mem, decide_eq_false (by simpa using hsc)] at ho
            conv => whnf
            repeat' (first
    | (refine Br.tt ?_; conv => whnf)
    | (refine Br.ff ?_; conv => whnf)
    | (refine Both.mk ?_ ?_ <;> conv => whnf)
    | (refine Br.not ?_)
    | (refine Need.mk ?_ ?_; (focus ((first | omega | exact ⟨by omega, by omega⟩ | rfl | exact trivial | assumption | (simp only [List.length_map, List.length_append, List.length_take, List.length_drop, List.length_cons, List.length_nil, List.length_replicate, List.length_set, List.length_reverse, nds_len, numsD_length, shutF_len]; omega) | (simp only [List.length_map, List.length_append, List.length_take, List.length_drop, List.length_cons, List.length_nil, List.length_replicate, List.length_set, List.length_reverse, nds_len, numsD_length, shutF_len]; exact ⟨by omega, by omega⟩) | exact nds_each | (refine map_each ?_; intro x; rfl) | (refine first_map ?_; intro x; rfl) | exact first_nds | simp | (simp; omega)); done)); conv => whnf)
    | (refine Br.t (by assumption) ?_; conv => whnf)
    | (refine Br.f (by assumption) ?_; conv => whnf)
    | (refine Br.self ?_; conv => whnf)
    | (refine Br.decT (by assumption) ?_; conv => whnf)
    | (refine Br.decF (by assumption) ?_; conv => whnf)
    | (refine Br.eqT (by assumption) ?_; conv => whnf)
    | (refine Br.eqF (by assumption) ?_; conv => whnf)
    | (refine Br.dec (fun hc => ?_) (fun hc => ?_) <;> (try simp only [List.length_map, List.length_append, List.length_take, List.length_drop, List.length_cons, List.length_nil, List.length_replicate, List.length_set, List.length_reverse, nds_len, numsD_length, shutF_len] at hc) <;> first | (exfalso; omega) | exact absurd trivial hc | exact absurd rfl hc | conv => whnf)
    | (refine Br.eq (fun hc => ?_) (fun hc => ?_) <;> first | (exfalso; omega) | exact absurd trivial hc | exact absurd rfl hc | conv => whnf)
    | (refine Br.ne (fun hc => ?_) (fun hc => ?_) <;> first | (exfalso; omega) | exact absurd trivial hc | exact absurd rfl hc | conv => whnf)
    | (with_reducible refine Br.and ?_)
    | (with_reducible refine Br.or ?_)
    | (refine Br.any (fun hc => ?_) (fun hc => ?_) <;> conv => whnf)
    | (refine Fit.inl ?_ ?_; (focus ((first | omega | exact ⟨by omega, by omega⟩ | rfl | exact trivial | assumption | (simp only [List.length_map, List.length_append, List.length_take, List.length_drop, List.length_cons, List.length_nil, List.length_replicate, List.length_set, List.length_reverse, nds_len, numsD_length, shutF_len]; omega) | (simp only [List.length_map, List.length_append, List.length_take, List.length_drop, List.length_cons, List.length_nil, List.length_replicate, List.length_set, List.length_reverse, nds_len, numsD_length, shutF_len]; exact ⟨by omega, by omega⟩) | exact nds_each | (refine map_each ?_; intro x; rfl) | (refine first_map ?_; intro x; rfl) | exact first_nds | simp | (simp; omega)); done)); conv => whnf)
    | (refine Each.mapAt (by assumption) ?_; conv => whnf)
    | (refine Each.ndsAt (by assumption) ?_; conv => whnf)
    | (refine Each.at (by assumption) ?_; conv => whnf)
    | (refine Each.map (fun x hx => ?_); (try simp only [Int.toNat_natCast, Int.toNat_zero, Int.toNat_one, Int.toNat_natCast_add_one] at hx); conv => whnf)
    | (refine Each.nds (fun a b c ps hx => ?_); (try simp only [Int.toNat_natCast, Int.toNat_zero, Int.toNat_one, Int.toNat_natCast_add_one] at hx); conv => whnf)
    | (refine Each.rep ?_; conv => whnf)
    | (refine Each.drop ?_)
    | (refine Each.take (fun hi => ?_))
    | (refine Each.any (fun x hx => ?_); (try simp only [Int.toNat_natCast, Int.toNat_zero, Int.toNat_one, Int.toNat_natCast_add_one] at hx); conv => whnf)
    | (refine NilB.any (fun hn => ?_) ?_ <;> conv => whnf)
    | (refine CallWP.mono (hin) ?_; rintro r h ⟨rfl, rfl⟩; conv => whnf)
    | (refine CallWP.mono (ho) ?_; rintro r h ⟨rfl, rfl⟩; conv => whnf)
    | (refine ⟨_, bytesOfD_nums _, ?_⟩; conv => whnf)
    | (refine WP.sch (id := 30) tabOK hmix (.mob 1 (.mob 2 (.mob 3 (.mob 4 (.mob 5 (.mob 8 (.mob 9 (.mob 10 (.alt [(0, .alt [(6, .mob 11 (.mob 12 (.mob 13 (.alt [(7, .alt [(14, .alt [(15, .mob 16 (.mob 17 (.alt [(18, .alt [(19, .alt [(20, .alt [(21, .done)])])])])))])]), (14, .alt [(7, .alt [(15, .mob 16 (.mob 17 (.alt [(18, .alt [(19, .alt [(20, .alt [(21, .done)])])])])))]), (15, .mob 16 (.mob 17 (.alt [(7, .alt [(18, .alt [(19, .alt [(20, .alt [(21, .done)])])])])])))])]))))]), (6, .mob 11 (.mob 12 (.mob 13 (.alt [(0, .alt [(7, .alt [(14, .alt [(15, .mob 16 (.mob 17 (.alt [(18, .alt [(19, .alt [(20, .alt [(21, .done)])])])])))])]), (14, .alt [(7, .alt [(15, .mob 16 (.mob 17 (.alt [(18, .alt [(19, .alt [(20, .alt [(21, .done)])])])])))]), (15, .mob 16 (.mob 17 (.alt [(7, .alt [(18, .alt [(19, .alt [(20, .alt [(21, .done)])])])])])))])]), (7, .alt [(0, .alt [(14, .alt [(15, .mob 16 (.mob 17 (.alt [(18, .alt [(19, .alt [(20, .alt [(21, .done)])])])])))])]), (14, .alt [(0, .alt [(15, .mob 16 (.mob 17 (.alt [(18, .alt [(19, .alt [(20, .alt [(21, .done)])])])])))]), (15, .mob 16 (.mob 17 (.alt [(0, .alt [(18, .alt [(19, .alt [(20, .alt [(21, .done)])])])]), (18, .alt [(0, .alt [(19, .alt [(20, .alt [(21, .done)])])]), (19, .alt [(0, .alt [(20, .alt [(21, .done)])])])])])))])]), (14, .alt [(0, .alt [(7, .alt [(15, .mob 16 (.mob 17 (.alt [(18, .alt [(19, .alt [(20, .alt [(21, .done)])])])])))]), (15, .mob 16 (.mob 17 (.alt [(7, .alt [(18, .alt [(19, .alt [(20, .alt [(21, .done)])])])])])))]), (7, .alt [(0, .alt [(15, .mob 16 (.mob 17 (.alt [(18, .alt [(19, .alt [(20, .alt [(21, .done)])])])])))]), (15, .mob 16 (.mob 17 (.alt [(0, .alt [(18, .alt [(19, .alt [(20, .alt [(21, .done)])])])]), (18, .alt [(0, .alt [(19, .alt [(20, .alt [(21, .done)])])]), (19, .alt [(0, .alt [(20, .alt [(21, .done)])])])])])))]), (15, .mob 16 (.mob 17 (.alt [(0, .alt [(7, .alt [(18, .alt [(19, .alt [(20, .alt [(21, .done)])])])])]), (7, .alt [(0, .alt [(18, .alt [(19, .alt [(20, .alt [(21, .done)])])])]), (18, .alt [(0, .alt [(19, .alt [(20, .alt [(21, .done)])])]), (19, .alt [(0, .alt [(20, .alt [(21, .done)])])])])])])))])]))))]))))))))) (by kernel_rfl) ?_; conv => whnf)
    | (refine WP.sch (id := 46) tabOK hmix (.mob 1 (.mob 6 (.mob 7 (.alt [(0, .mob 2 (.mob 3 (.mob 4 (.alt [(5, .mob 8 (.mob 9 (.mob 10 (.mob 11 (.alt [(12, .done)])))))]))))])))) (by kernel_rfl) ?_; conv => whnf)
    | exact ⟨rfl, rfl⟩
    | (refine Fin.bool ?_ rfl)
    | (refine Fin.int ?_ rfl)
    | (refine Fin.str ?_ rfl)
    | (refine Fin.sl ?_ rfl)
    | exact trivial)
            all_goals (refine WP.conv _ ?_ (H () trivial))
            all_goals repeat (first | exact True.intro | (refine Need.mk ?_ ?_; (focus ((first | rfl | assumption | omega | (simp only [List.length_map, List.length_append, List.length_take, List.length_drop, List.length_cons, List.length_nil, List.length_replicate, List.length_set, List.length_reverse, nds_len, numsD_length, shutF_len]; omega) | simp); done)); conv => whnf) | ((conv => whnf); exact True.intro))
          · conv => whnf
            repeat' (first
    | (refine Br.tt ?_; conv => whnf)
    | (refine Br.ff ?_; conv => whnf)
    | (refine Both.mk ?_ ?_ <;> conv => whnf)
    | (refine Br.not ?_)
    | (refine Need.mk ?_ ?_; (focus ((first | omega | exact ⟨by omega, by omega⟩ | rfl | exact trivial | assumption | (simp only [List.length_map, List.length_append, List.length_take, List.length_drop, List.length_cons, List.length_nil, List.length_replicate, List.length_set, List.length_reverse, nds_len, numsD_length, shutF_len]; omega) | (simp only [List.length_map, List.length_append, List.length_take, List.length_drop, List.length_cons, List.length_nil, List.length_replicate, List.length_set, List.length_reverse, nds_len, numsD_length, shutF_len]; exact ⟨by omega, by omega⟩) | exact nds_each | (refine map_each ?_; intro x; rfl) | (refine first_map ?_; intro x; rfl) | exact first_nds | simp | (simp; omega)); done)); conv => whnf)
    | (refine Br.t (by assumption) ?_; conv => whnf)
    | (refine Br.f (by assumption) ?_; conv => whnf)
    | (refine Br.self ?_; conv => whnf)
    | (refine Br.decT (by assumption) ?_; conv => whnf)
    | (refine Br.decF (by assumption) ?_; conv => whnf)
    | (refine Br.eqT (by assumption) ?_; conv => whnf)
    | (refine Br.eqF (by assumption) ?_; conv => whnf)
    | (refine Br.dec (fun hc => ?_) (fun hc => ?_) <;> (try simp only [List.length_map, List.length_append, List.length_take, List.length_drop, List.length_cons, List.length_nil, List.length_replicate, List.length_set, List.length_reverse, nds_len, numsD_length, shutF_len] at hc) <;> first | (exfalso; omega) | exact absurd trivial hc | exact absurd rfl hc | conv => whnf)
    | (refine Br.eq (fun hc => ?_) (fun hc => ?_) <;> first | (exfalso; omega) | exact absurd trivial hc | exact absurd rfl hc | conv => whnf)
    | (refine Br.ne (fun hc => ?_) (fun hc => ?_) <;> first | (exfalso; omega) | exact absurd trivial hc | exact absurd rfl hc | conv => whnf)
    | (with_reducible refine Br.and ?_)
    | (with_reducible refine Br.or ?_)
    | (refine Br.any (fun hc => ?_) (fun hc => ?_) <;> conv => whnf)
    | (refine Fit.inl ?_ ?_; (focus ((first | omega | exact ⟨by omega, by omega⟩ | rfl | exact trivial | assumption | (simp only [List.length_map, List.length_append, List.length_take, List.length_drop, List.length_cons, List.length_nil, List.length_replicate, List.length_set, List.length_reverse, nds_len, numsD_length, shutF_len]; omega) | (simp only [List.length_map, List.length_append, List.length_take, List.length_drop, List.length_cons, List.length_nil, List.length_replicate, List.length_set, List.length_reverse, nds_len, numsD_length, shutF_len]; exact ⟨by omega, by omega⟩) | exact nds_each | (refine map_each ?_; intro x; rfl) | (refine first_map ?_; intro x; rfl) | exact first_nds | simp | (simp; omega)); done)); conv => whnf)
    | (refine Each.mapAt (by assumption) ?_; conv => whnf)
    | (refine Each.ndsAt (by assumption) ?_; conv => whnf)
    | (refine Each.at (by assumption) ?_; conv => whnf)
    | (refine Each.map (fun x hx => ?_); (try simp only [Int.toNat_natCast, Int.toNat_zero, Int.toNat_one, Int.toNat_natCast_add_one] at hx); conv => whnf)
    | (refine Each.nds (fun a b c ps hx => ?_); (try simp only [Int.toNat_natCast, Int.toNat_zero, Int.toNat_one, Int.toNat_natCast_add_one] at hx); conv => whnf)
    | (refine Each.rep ?_; conv => whnf)
    | (refine Each.drop ?_)
    | (refine Each.take (fun hi => ?_))
    | (refine Each.any (fun x hx => ?_); (try simp only [Int.toNat_natCast, Int.toNat_zero, Int.toNat_one, Int.toNat_natCast_add_one] at hx); conv => whnf)
    | (refine NilB.any (fun hn => ?_) ?_ <;> conv => whnf)
    | (refine CallWP.mono (hin) ?_; rintro r h ⟨rfl, rfl⟩; conv => whnf)
    | (refine ⟨_, bytesOfD_nums _, ?_⟩; conv => whnf)
    | (refine WP.sch (id := 30) tabOK hmix (.mob 1 (.mob 2 (.mob 3 (.mob 4 (.mob 5 (.mob 8 (.mob 9 (.mob 10 (.alt [(0, .alt [(6, .mob 11 (.mob 12 (.mob 13 (.alt [(7, .alt [(14, .alt [(15, .mob 16 (.mob 17 (.alt [(18, .alt [(19, .alt [(20, .alt [(21, .done)])])])])))])]), (14, .alt [(7, .alt [(15, .mob 16 (.mob 17 (.alt [(18, .alt [(19, .alt [(20, .alt [(21, .done)])])])])))]), (15, .mob 16 (.mob 17 (.alt [(7, .alt [(18, .alt [(19, .alt [(20, .alt [(21, .done)])])])])])))])]))))]), (6, .mob 11 (.mob 12 (.mob 13 (.alt [(0, .alt [(7, .alt [(14, .alt [(15, .mob 16 (.mob 17 (.alt [(18, .alt [(19, .alt [(20, .alt [(21, .done)])])])])))])]), (14, .alt [(7, .alt [(15, .mob 16 (.mob 17 (.alt [(18, .alt [(19, .alt [(20, .alt [(21, .done)])])])])))]), (15, .mob 16 (.mob 17 (.alt [(7, .alt [(18, .alt [(19, .alt [(20, .alt [(21, .done)])])])])])))])]), (7, .alt [(0, .alt [(14, .alt [(15, .mob 16 (.mob 17 (.alt [(18, .alt [(19, .alt [(20, .alt [(21, .done)])])])])))])]), (14, .alt [(0, .alt [(15, .mob 16 (.mob 17 (.alt [(18, .alt [(19, .alt [(20, .alt [(21, .done)])])])])))]), (15, .mob 16 (.mob 17 (.alt [(0, .alt [(18, .alt [(19, .alt [(20, .alt [(21, .done)])])])]), (18, .alt [(0, .alt [(19, .alt [(20, .alt [(21, .done)])])]), (19, .alt [(0, .alt [(20, .alt [(21, .done)])])])])])))])]), (14, .alt [(0, .alt [(7, .alt [(15, .mob 16 (.mob 17 (.alt [(18, .alt [(19, .alt [(20, .alt [(21, .done)])])])])))]), (15, .mob 16 (.mob 17 (.alt [(7, .alt [(18, .alt [(19, .alt [(20, .alt [(21, .done)])])])])])))]), (7, .alt [(0, .alt [(15, .mob 16 (.mob 17 (.alt [(18, .alt [(19, .alt [(20, .alt [(21, .done)])])])])))]), (15, .mob 16 (.mob 17 (.alt [(0, .alt [(18, .alt [(19, .alt [(20, .alt [(21, .done)])])])]), (18, .alt [(0, .alt [(19, .alt [(20, .alt [(21, .done)])])]), (19, .alt [(0, .alt [(20, .alt [(21, .done)])])])])])))]), (15, .mob 16 (.mob 17 (.alt [(0, .alt [(7, .alt [(18, .alt [(19, .alt [(20, .alt [(21, .done)])])])])]), (7, .alt [(0, .alt [(18, .alt [(19, .alt [(20, .alt [(21, .done)])])])]), (18, .alt [(0, .alt [(19, .alt [(20, .alt [(21, .done)])])]), (19, .alt [(0, .alt [(20, .alt [(21, .done)])])])])])])))])]))))]))))))))) (by kernel_rfl) ?_; conv => whnf)
    | (refine WP.sch (id := 46) tabOK hmix (.mob 1 (.mob 6 (.mob 7 (.alt [(0, .mob 2 (.mob 3 (.mob 4 (.alt [(5, .mob 8 (.mob 9 (.mob 10 (.mob 11 (.alt [(12, .done)])))))]))))])))) (by kernel_rfl) ?_; conv => whnf)
    | exact ⟨rfl, rfl⟩
    | (refine Fin.bool ?_ rfl)
    | (refine Fin.int ?_ rfl)
    | (refine Fin.str ?_ rfl)
    | (refine Fin.sl ?_ rfl)
    | exact trivial)
            all_goals (refine WP.conv _ ?_ (H () trivial))
            all_goals repeat (first | exact True.intro | (refine Need.mk ?_ ?_; (focus ((first | rfl | assumption | omega | (simp only [List.length_map, List.length_append, List.length_take, List.length_drop, List.length_cons, List.length_nil, List.length_replicate, List.length_set, List.length_reverse, nds_len, numsD_length, shutF_len]; omega) | simp); done)); conv => whnf) | ((conv => whnf); exact True.intro))
        intro _ _
        refine WP.loop (α := Nat) tabOK (fun j => j ≤ l.length) (fun j => ⟨[(4, .ref 0 0 0), (5, (.d (.str ([])))), (6, .fn 12 [.ref 0 0 0]), (7, .fn 13 [.ref 0 0 0]), (8, .fn 14 [.ref 0 0 0]), (10, .ref 1 0 0), (15, (.d (.int .i64 (p)))), (16, (.d (.int .i64 (lx (fun f => inE p f.1) l j)))), (26, (.d (.sl (ts.map Token.d)))), (27, (.d (.int .i64 ((ts.map Token.d).length)))), (28, (.d (.int .i64 (i)))), (149, .full 2), (150, (.d (.int .i64 ((l.map flD).length)))), (151, (.d (.int .i64 (j))))], [(0, .var 45 [.full 2]), (1, .var 39 [(.d (.int .i64 (t.kind))), (.d (.str (t.name))), (.d (.sl (t.attrs.map Attr.d))), (.d (.bool (t.self))), (.d (.str (t.text)))]), (2, .row 49 (l.map flD))], 3, 200⟩) (fun j => l.length - j) (0) ?_ ?_ ?_
        · exact Nat.zero_le _
        · conv => whnf
          repeat (first | exact True.intro | (refine Need.mk ?_ ?_; (focus ((first | rfl | assumption | omega | (simp only [List.length_map, List.length_append, List.length_take, List.length_drop, List.length_cons, List.length_nil, List.length_replicate, List.length_set, List.length_reverse, nds_len, numsD_length, shutF_len]; omega) | simp [lx]); done)); conv => whnf) | ((conv => whnf); exact True.intro))
        intro j hj
        by_cases hj2 : j < l.length
        · obtain ⟨f, hf⟩ : ∃ y, l[j]? = some y := ⟨_, List.getElem?_eq_getElem hj2⟩
          have el : lx (fun f => inE p f.1) l (j + 1) = if f.1.par = p then (j : Int) else lx (fun f => inE p f.1) l j := by rw [lx, hf]; simp [inE]
          conv => whnf
          repeat' (first
    | (refine Br.tt ?_; conv => whnf)
    | (refine Br.ff ?_; conv => whnf)
    | (refine Both.mk ?_ ?_ <;> conv => whnf)
    | (refine Br.not ?_)
    | (refine Need.mk ?_ ?_; (focus ((first | omega | exact ⟨by omega, by omega⟩ | rfl | exact trivial | assumption | (simp only [List.length_map, List.length_append, List.length_take, List.length_drop, List.length_cons, List.length_nil, List.length_replicate, List.length_set, List.length_reverse, nds_len, numsD_length, shutF_len]; omega) | (simp only [List.length_map, List.length_append, List.length_take, List.length_drop, List.length_cons, List.length_nil, List.length_replicate, List.length_set, List.length_reverse, nds_len, numsD_length, shutF_len]; exact ⟨by omega, by omega⟩) | exact nds_each | (refine map_each ?_; intro x; rfl) | (refine first_map ?_; intro x; rfl) | exact first_nds | simp | (simp; omega)); done)); conv => whnf)
    | (refine Br.t (by assumption) ?_; conv => whnf)
    | (refine Br.f (by assumption) ?_; conv => whnf)
    | (refine Br.self ?_; conv => whnf)
    | (refine Br.decT (by assumption) ?_; conv => whnf)
    | (refine Br.decF (by assumption) ?_; conv => whnf)
    | (refine Br.eqT (by assumption) ?_; conv => whnf)
    | (refine Br.eqF (by assumption) ?_; conv => whnf)
    | (refine Br.dec (fun hc => ?_) (fun hc => ?_) <;> (try simp only [List.length_map, List.length_append, List.length_take, List.length_drop, List.length_cons, List.length_nil, List.length_replicate, List.length_set, List.length_reverse, nds_len, numsD_length, shutF_len] at hc) <;> first | (exfalso; omega) | exact absurd trivial hc | exact absurd rfl hc | conv => whnf)
    | (refine Br.eq (fun hc => ?_) (fun hc => ?_) <;> first | (exfalso; omega) | exact absurd trivial hc | exact absurd rfl hc | conv => whnf)
    | (refine Br.ne (fun hc => ?_) (fun hc => ?_) <;> first | (exfalso; omega) | exact absurd trivial hc | exact absurd rfl hc | conv => whnf)
    | (with_reducible refine Br.and ?_)
    | (with_reducible refine Br.or ?_)
    | (refine Br.any (fun hc => ?_) (fun hc => ?_) <;> conv => whnf)
    | (refine Fit.inl ?_ ?_; (focus ((first | omega | exact ⟨by omega, by omega⟩ | rfl | exact trivial | assumption | (simp only [List.length_map, List.length_append, List.length_take, List.length_drop, List.length_cons, List.length_nil, List.length_replicate, List.length_set, List.length_reverse, nds_len, numsD_length, shutF_len]; omega) | (simp only [List.length_map, List.length_append, List.length_take, List.length_drop, List.length_cons, List.length_nil, List.length_replicate, List.length_set, List.length_reverse, nds_len, numsD_length, shutF_len]; exact ⟨by omega, by omega⟩) | exact nds_each | (refine map_each ?_; intro x; rfl) | (refine first_map ?_; intro x; rfl) | exact first_nds | simp | (simp; omega)); done)); conv => whnf)
    | (refine Each.mapAt (by assumption) ?_; conv => whnf)
    | (refine Each.ndsAt (by assumption) ?_; conv => whnf)
    | (refine Each.at (by assumption) ?_; conv => whnf)
    | (refine Each.map (fun x hx => ?_); (try simp only [Int.toNat_natCast, Int.toNat_zero, Int.toNat_one, Int.toNat_natCast_add_one] at hx); conv => whnf)
    | (refine Each.nds (fun a b c ps hx => ?_); (try simp only [Int.toNat_natCast, Int.toNat_zero, Int.toNat_one, Int.toNat_natCast_add_one] at hx); conv => whnf)
    | (refine Each.rep ?_; conv => whnf)
    | (refine Each.drop ?_)
    | (refine Each.take (fun hi => ?_))
    | (refine Each.any (fun x hx => ?_); (try simp only [Int.toNat_natCast, Int.toNat_zero, Int.toNat_one, Int.toNat_natCast_add_one] at hx); conv => whnf)
    | (refine NilB.any (fun hn => ?_) ?_ <;> conv => whnf)
    | (refine ⟨_, bytesOfD_nums _, ?_⟩; conv => whnf)
    | (refine WP.sch (id := 30) tabOK hmix (.mob 1 (.mob 2 (.mob 3 (.mob 4 (.mob 5 (.mob 8 (.mob 9 (.mob 10 (.alt [(0, .alt [(6, .mob 11 (.mob 12 (.mob 13 (.alt [(7, .alt [(14, .alt [(15, .mob 16 (.mob 17 (.alt [(18, .alt [(19, .alt [(20, .alt [(21, .done)])])])])))])]), (14, .alt [(7, .alt [(15, .mob 16 (.mob 17 (.alt [(18, .alt [(19, .alt [(20, .alt [(21, .done)])])])])))]), (15, .mob 16 (.mob 17 (.alt [(7, .alt [(18, .alt [(19, .alt [(20, .alt [(21, .done)])])])])])))])]))))]), (6, .mob 11 (.mob 12 (.mob 13 (.alt [(0, .alt [(7, .alt [(14, .alt [(15, .mob 16 (.mob 17 (.alt [(18, .alt [(19, .alt [(20, .alt [(21, .done)])])])])))])]), (14, .alt [(7, .alt [(15, .mob 16 (.mob 17 (.alt [(18, .alt [(19, .alt [(20, .alt [(21, .done)])])])])))]), (15, .mob 16 (.mob 17 (.alt [(7, .alt [(18, .alt [(19, .alt [(20, .alt [(21, .done)])])])])])))])]), (7, .alt [(0, .alt [(14, .alt [(15, .mob 16 (.mob 17 (.alt [(18, .alt [(19, .alt [(20, .alt [(21, .done)])])])])))])]), (14, .alt [(0, .alt [(15, .mob 16 (.mob 17 (.alt [(18, .alt [(19, .alt [(20, .alt [(21, .done)])])])])))]), (15, .mob 16 (.mob 17 (.alt [(0, .alt [(18, .alt [(19, .alt [(20, .alt [(21, .done)])])])]), (18, .alt [(0, .alt [(19, .alt [(20, .alt [(21, .done)])])]), (19, .alt [(0, .alt [(20, .alt [(21, .done)])])])])])))])]), (14, .alt [(0, .alt [(7, .alt [(15, .mob 16 (.mob 17 (.alt [(18, .alt [(19, .alt [(20, .alt [(21, .done)])])])])))]), (15, .mob 16 (.mob 17 (.alt [(7, .alt [(18, .alt [(19, .alt [(20, .alt [(21, .done)])])])])])))]), (7, .alt [(0, .alt [(15, .mob 16 (.mob 17 (.alt [(18, .alt [(19, .alt [(20, .alt [(21, .done)])])])])))]), (15, .mob 16 (.mob 17 (.alt [(0, .alt [(18, .alt [(19, .alt [(20, .alt [(21, .done)])])])]), (18, .alt [(0, .alt [(19, .alt [(20, .alt [(21, .done)])])]), (19, .alt [(0, .alt [(20, .alt [(21, .done)])])])])])))]), (15, .mob 16 (.mob 17 (.alt [(0, .alt [(7, .alt [(18, .alt [(19, .alt [(20, .alt [(21, .done)])])])])]), (7, .alt [(0, .alt [(18, .alt [(19, .alt [(20, .alt [(21, .done)])])])]), (18, .alt [(0, .alt [(19, .alt [(20, .alt [(21, .done)])])]), (19, .alt [(0, .alt [(20, .alt [(21, .done)])])])])])])))])]))))]))))))))) (by kernel_rfl) ?_; conv => whnf)
    | (refine WP.sch (id := 46) tabOK hmix (.mob 1 (.mob 6 (.mob 7 (.alt [(0, .mob 2 (.mob 3 (.mob 4 (.alt [(5, .mob 8 (.mob 9 (.mob 10 (.mob 11 (.alt [(12, .done)])))))]))))])))) (by kernel_rfl) ?_; conv => whnf)
    | exact ⟨rfl, rfl⟩
    | (refine Fin.bool ?_ rfl)
    | (refine Fin.int ?_ rfl)
    | (refine Fin.str ?_ rfl)
    | (refine Fin.sl ?_ rfl)
    | exact trivial)
          · rw [if_pos hc] at el
            refine ⟨j + 1, by omega, by dsimp only; omega, ?_⟩
            conv => whnf
            repeat (first | exact True.intro | (refine Need.mk ?_ ?_; (focus ((first | rfl | assumption | omega | (simp only [List.length_map, List.length_append, List.length_take, List.length_drop, List.length_cons, List.length_nil, List.length_replicate, List.length_set, List.length_reverse, nds_len, numsD_length, shutF_len]; omega) | simp [el]); done)); conv => whnf) | ((conv => whnf); exact True.intro))
          · rw [if_neg hc] at el
            refine ⟨j + 1, by omega, by dsimp only; omega, ?_⟩
            conv => whnf
            repeat (first | exact True.intro | (refine Need.mk ?_ ?_; (focus ((first | rfl | assumption | omega | (simp only [List.length_map, List.length_append, List.length_take, List.length_drop, List.length_cons, List.length_nil, List.length_replicate, List.length_set, List.length_reverse, nds_len, numsD_length, shutF_len]; omega) | simp [el]); done)); conv => whnf) | ((conv => whnf); exact True.intro))
        have hje : j = l.length := by omega
        subst hje
        obtain ⟨q, hq⟩ : ∃ q, lastIx (fun f : Fl => inE p f.1) l = q := ⟨_, rfl⟩
        have hq2 : lx (fun f : Fl => inE p f.1) l l.length = q := hq
        have hqb := lastIx_bound (fun f : Fl => inE p f.1) l
        rw [hq] at hqb
        rw [hq2]
        by_cases hset : ∃ (k : Nat) (f : Fl), q = (k : Int) ∧ l[k]? = some f ∧ f.1.tx = true
        · obtain ⟨k, f, rfl, hf, hft⟩ := hset
          obtain ⟨nf, hnf⟩ : ∃ nf : Fl, nf = ({ f.1 with text := f.1.text ++ t.text }, f.2) := ⟨_, rfl⟩
          have hat : addTxF l p t.text = l.set k nf := by
            rw [hnf]
            unfold addTxF
            rw [hq]
            simp only [Int.toNat_natCast]
            rw [hf]
            simp [hft]
          have he := esF_at hf
          have htxl := hwf.text f.1 (List.mem_of_getElem? he)
          obtain ⟨hcat, _⟩ := bnd4 i _ _ (by omega) htxl hz2
          have len3 : (l.set k nf).length ≤ 150 := by rw [List.length_set]; exact hl
          have hwf' : WfF ((i + 1) * 2199023255552) (esF (l.set k nf)) := by
            have : esF (l.set k nf) = (esF l).set k { f.1 with text := f.1.text ++ t.text } := by unfold esF; rw [List.map_set, hnf]
            rw [this]
            exact (hwf.up (bnd i)).set he rfl (by simp only [List.length_append]; exact bnd3 i _ _ htxl hz2)
          have es : (l.map flD).set k [.int .i64 f.1.par, .str f.1.name, .sl (f.1.attrs.map Attr.d), .str (f.1.text ++ t.text), .sl [], .bool f.2, .bool f.1.tx] = (l.set k nf).map flD := by rw [List.map_set, hnf]; rfl
          rw [hat, if_neg (by omega)] at hrun
          clear hat hnf
          conv => whnf
          repeat' (first
    | (refine Br.tt ?_; conv => whnf)
    | (refine Br.ff ?_; conv => whnf)
    | (refine Both.mk ?_ ?_ <;> conv => whnf)
    | (refine Br.not ?_)
    | (refine Need.mk ?_ ?_; (focus ((first | omega | exact ⟨by omega, by omega⟩ | rfl | exact trivial | assumption | (simp only [List.length_map, List.length_append, List.length_take, List.length_drop, List.length_cons, List.length_nil, List.length_replicate, List.length_set, List.length_reverse, nds_len, numsD_length, shutF_len]; omega) | (simp only [List.length_map, List.length_append, List.length_take, List.length_drop, List.length_cons, List.length_nil, List.length_replicate, List.length_set, List.length_reverse, nds_len, numsD_length, shutF_len]; exact ⟨by omega, by omega⟩) | exact nds_each | (refine map_each ?_; intro x; rfl) | (refine first_map ?_; intro x; rfl) | exact first_nds | simp | (simp; omega)); done)); conv => whnf)
    | (refine Br.t (by assumption) ?_; conv => whnf)
    | (refine Br.f (by assumption) ?_; conv => whnf)
    | (refine Br.self ?_; conv => whnf)
    | (refine Br.decT (by assumption) ?_; conv => whnf)
    | (refine Br.decF (by assumption) ?_; conv => whnf)
    | (refine Br.eqT (by assumption) ?_; conv => whnf)
    | (refine Br.eqF (by assumption) ?_; conv => whnf)
    | (refine Br.dec (fun hc => ?_) (fun hc => ?_) <;> (try simp only [List.length_map, List.length_append, List.length_take, List.length_drop, List.length_cons, List.length_nil, List.length_replicate, List.length_set, List.length_reverse, nds_len, numsD_length, shutF_len] at hc) <;> first | (exfalso; omega) | exact absurd trivial hc | exact absurd rfl hc | conv => whnf)
    | (refine Br.eq (fun hc => ?_) (fun hc => ?_) <;> first | (exfalso; omega) | exact absurd trivial hc | exact absurd rfl hc | conv => whnf)
    | (refine Br.ne (fun hc => ?_) (fun hc => ?_) <;> first | (exfalso; omega) | exact absurd trivial hc | exact absurd rfl hc | conv => whnf)
    | (with_reducible refine Br.and ?_)
    | (with_reducible refine Br.or ?_)
    | (refine Br.any (fun hc => ?_) (fun hc => ?_) <;> conv => whnf)
    | (refine Fit.inl ?_ ?_; (focus ((first | omega | exact ⟨by omega, by omega⟩ | rfl | exact trivial | assumption | (simp only [List.length_map, List.length_append, List.length_take, List.length_drop, List.length_cons, List.length_nil, List.length_replicate, List.length_set, List.length_reverse, nds_len, numsD_length, shutF_len]; omega) | (simp only [List.length_map, List.length_append, List.length_take, List.length_drop, List.length_cons, List.length_nil, List.length_replicate, List.length_set, List.length_reverse, nds_len, numsD_length, shutF_len]; exact ⟨by omega, by omega⟩) | exact nds_each | (refine map_each ?_; intro x; rfl) | (refine first_map ?_; intro x; rfl) | exact first_nds | simp | (simp; omega)); done)); conv => whnf)
    | (refine Each.mapAt (by assumption) ?_; conv => whnf)
    | (refine Each.ndsAt (by assumption) ?_; conv => whnf)
    | (refine Each.at (by assumption) ?_; conv => whnf)
    | (refine Each.map (fun x hx => ?_); (try simp only [Int.toNat_natCast, Int.toNat_zero, Int.toNat_one, Int.toNat_natCast_add_one] at hx); conv => whnf)
    | (refine Each.nds (fun a b c ps hx => ?_); (try simp only [Int.toNat_natCast, Int.toNat_zero, Int.toNat_one, Int.toNat_natCast_add_one] at hx); conv => whnf)
    | (refine Each.rep ?_; conv => whnf)
    | (refine Each.drop ?_)
    | (refine Each.take (fun hi => ?_))
    | (refine Each.any (fun x hx => ?_); (try simp only [Int.toNat_natCast, Int.toNat_zero, Int.toNat_one, Int.toNat_natCast_add_one] at hx); conv => whnf)
    | (refine NilB.any (fun hn => ?_) ?_ <;> conv => whnf)
    | (refine ⟨_, bytesOfD_nums _, ?_⟩; conv => whnf)
    | exact ⟨rfl, rfl⟩
    | (refine Fin.bool ?_ rfl)
    | (refine Fin.int ?_ rfl)
    | (refine Fin.str ?_ rfl)
    | (refine Fin.sl ?_ rfl)
    | exact trivial)
          refine WP.crf 1 [.int .i64 t.kind, .str t.name, .sl (t.attrs.map Attr.d), .bool t.self, .str t.text] _ rfl rfl ?_
          repeat' (first
    | (refine Br.tt ?_; conv => whnf)
    | (refine Br.ff ?_; conv => whnf)
    | (refine Both.mk ?_ ?_ <;> conv => whnf)
    | (refine Br.not ?_)
    | (refine Need.mk ?_ ?_; (focus ((first | omega | exact ⟨by omega, by omega⟩ | rfl | exact trivial | assumption | (simp only [List.length_map, List.length_append, List.length_take, List.length_drop, List.length_cons, List.length_nil, List.length_replicate, List.length_set, List.length_reverse, nds_len, numsD_length, shutF_len]; omega) | (simp only [List.length_map, List.length_append, List.length_take, List.length_drop, List.length_cons, List.length_nil, List.length_replicate, List.length_set, List.length_reverse, nds_len, numsD_length, shutF_len]; exact ⟨by omega, by omega⟩) | exact nds_each | (refine map_each ?_; intro x; rfl) | (refine first_map ?_; intro x; rfl) | exact first_nds | simp | (simp; omega)); done)); conv => whnf)
    | (refine Br.t (by assumption) ?_; conv => whnf)
    | (refine Br.f (by assumption) ?_; conv => whnf)
    | (refine Br.self ?_; conv => whnf)
    | (refine Br.decT (by assumption) ?_; conv => whnf)
    | (refine Br.decF (by assumption) ?_; conv => whnf)
    | (refine Br.eqT (by assumption) ?_; conv => whnf)
    | (refine Br.eqF (by assumption) ?_; conv => whnf)
    | (refine Br.dec (fun hc => ?_) (fun hc => ?_) <;> (try simp only [List.length_map, List.length_append, List.length_take, List.length_drop, List.length_cons, List.length_nil, List.length_replicate, List.length_set, List.length_reverse, nds_len, numsD_length, shutF_len] at hc) <;> first | (exfalso; omega) | exact absurd trivial hc | exact absurd rfl hc | conv => whnf)
    | (refine Br.eq (fun hc => ?_) (fun hc => ?_) <;> first | (exfalso; omega) | exact absurd trivial hc | exact absurd rfl hc | conv => whnf)
    | (refine Br.ne (fun hc => ?_) (fun hc => ?_) <;> first | (exfalso; omega) | exact absurd trivial hc | exact absurd rfl hc | conv => whnf)
    | (with_reducible refine Br.and ?_)
    | (with_reducible refine Br.or ?_)
    | (refine Br.any (fun hc => ?_) (fun hc => ?_) <;> conv => whnf)
    | (refine Fit.inl ?_ ?_; (focus ((first | omega | exact ⟨by omega, by omega⟩ | rfl | exact trivial | assumption | (simp only [List.length_map, List.length_append, List.length_take, List.length_drop, List.length_cons, List.length_nil, List.length_replicate, List.length_set, List.length_reverse, nds_len, numsD_length, shutF_len]; omega) | (simp only [List.length_map, List.length_append, List.length_take, List.length_drop, List.length_cons, List.length_nil, List.length_replicate, List.length_set, List.length_reverse, nds_len, numsD_length, shutF_len]; exact ⟨by omega, by omega⟩) | exact nds_each | (refine map_each ?_; intro x; rfl) | (refine first_map ?_; intro x; rfl) | exact first_nds | simp | (simp; omega)); done)); conv => whnf)
    | (refine Each.mapAt (by assumption) ?_; conv => whnf)
    | (refine Each.ndsAt (by assumption) ?_; conv => whnf)
    | (refine Each.at (by assumption) ?_; conv => whnf)
    | (refine Each.map (fun x hx => ?_); (try simp only [Int.toNat_natCast, Int.toNat_zero, Int.toNat_one, Int.toNat_natCast_add_one] at hx); conv => whnf)
    | (refine Each.nds (fun a b c ps hx => ?_); (try simp only [Int.toNat_natCast, Int.toNat_zero, Int.toNat_one, Int.toNat_natCast_add_one] at hx); conv => whnf)
    | (refine Each.rep ?_; conv => whnf)
    | (refine Each.drop ?_)
    | (refine Each.take (fun hi => ?_))
    | (refine Each.any (fun x hx => ?_); (try simp only [Int.toNat_natCast, Int.toNat_zero, Int.toNat_one, Int.toNat_natCast_add_one] at hx); conv => whnf)
    | (refine NilB.any (fun hn => ?_) ?_ <;> conv => whnf)
    | (refine ⟨_, bytesOfD_nums _, ?_⟩; conv => whnf)
    | (refine WP.sch (id := 30) tabOK hmix (.mob 1 (.mob 2 (.mob 3 (.mob 4 (.mob 5 (.mob 8 (.mob 9 (.mob 10 (.alt [(0, .alt [(6, .mob 11 (.mob 12 (.mob 13 (.alt [(7, .alt [(14, .alt [(15, .mob 16 (.mob 17 (.alt [(18, .alt [(19, .alt [(20, .alt [(21, .done)])])])])))])]), (14, .alt [(7, .alt [(15, .mob 16 (.mob 17 (.alt [(18, .alt [(19, .alt [(20, .alt [(21, .done)])])])])))]), (15, .mob 16 (.mob 17 (.alt [(7, .alt [(18, .alt [(19, .alt [(20, .alt [(21, .done)])])])])])))])]))))]), (6, .mob 11 (.mob 12 (.mob 13 (.alt [(0, .alt [(7, .alt [(14, .alt [(15, .mob 16 (.mob 17 (.alt [(18, .alt [(19, .alt [(20, .alt [(21, .done)])])])])))])]), (14, .alt [(7, .alt [(15, .mob 16 (.mob 17 (.alt [(18, .alt [(19, .alt [(20, .alt [(21, .done)])])])])))]), (15, .mob 16 (.mob 17 (.alt [(7, .alt [(18, .alt [(19, .alt [(20, .alt [(21, .done)])])])])])))])]), (7, .alt [(0, .alt [(14, .alt [(15, .mob 16 (.mob 17 (.alt [(18, .alt [(19, .alt [(20, .alt [(21, .done)])])])])))])]), (14, .alt [(0, .alt [(15, .mob 16 (.mob 17 (.alt [(18, .alt [(19, .alt [(20, .alt [(21, .done)])])])])))]), (15, .mob 16 (.mob 17 (.alt [(0, .alt [(18, .alt [(19, .alt [(20, .alt [(21, .done)])])])]), (18, .alt [(0, .alt [(19, .alt [(20, .alt [(21, .done)])])]), (19, .alt [(0, .alt [(20, .alt [(21, .done)])])])])])))])]), (14, .alt [(0, .alt [(7, .alt [(15, .mob 16 (.mob 17 (.alt [(18, .alt [(19, .alt [(20, .alt [(21, .done)])])])])))]), (15, .mob 16 (.mob 17 (.alt [(7, .alt [(18, .alt [(19, .alt [(20, .alt [(21, .done)])])])])])))]), (7, .alt [(0, .alt [(15, .mob 16 (.mob 17 (.alt [(18, .alt [(19, .alt [(20, .alt [(21, .done)])])])])))]), (15, .mob 16 (.mob 17 (.alt [(0, .alt [(18, .alt [(19, .alt [(20, .alt [(21, .done)])])])]), (18, .alt [(0, .alt [(19, .alt [(20, .alt [(21, .done)])])]), (19, .alt [(0, .alt [(20, .alt [(21, .done)])])])])])))]), (15, .mob 16 (.mob 17 (.alt [(0, .alt [(7, .alt [(18, .alt [(19, .alt [(20, .alt [(21, .done)])])])])]), (7, .alt [(0, .alt [(18, .alt [(19, .alt [(20, .alt [(21, .done)])])])]), (18, .alt [(0, .alt [(19, .alt [(20, .alt [(21, .done)])])]), (19, .alt [(0, .alt [(20, .alt [(21, .done)])])])])])])))])]))))]))))))))) (by kernel_rfl) ?_; conv => whnf)
    | (refine WP.sch (id := 46) tabOK hmix (.mob 1 (.mob 6 (.mob 7 (.alt [(0, .mob 2 (.mob 3 (.mob 4 (.alt [(5, .mob 8 (.mob 9 (.mob 10 (.mob 11 (.alt [(12, .done)])))))]))))])))) (by kernel_rfl) ?_; conv => whnf)
    | exact ⟨rfl, rfl⟩
    | (refine Fin.bool ?_ rfl)
    | (refine Fin.int ?_ rfl)
    | (refine Fin.str ?_ rfl)
    | (refine Fin.sl ?_ rfl)
    | exact trivial)
          refine ⟨(i + 1, l.set k nf, []), ⟨hi1, len3, hrun, hwf'⟩, by dsimp only; omega, ?_⟩
          conv => whnf
          repeat (first | exact True.intro | (refine Need.mk ?_ ?_; (focus ((first | rfl | assumption | omega | (simp only [List.length_map, List.length_append, List.length_take, List.length_drop, List.length_cons, List.length_nil, List.length_replicate, List.length_set, List.length_reverse, nds_len, numsD_length, shutF_len]; omega) | simp [es]); done)); conv => whnf) | ((conv => whnf); exact True.intro))
        · obtain ⟨nw, hnw⟩ : ∃ nw : Fl, nw = (⟨p, [], [], t.text, true⟩, false) := ⟨_, rfl⟩
          have hat : addTxF l p t.text = l ++ [nw] := by
            rw [hnw]
            unfold addTxF
            rw [hq]
            split
            · rename_i f hf
              rw [if_neg]
              rintro ⟨h1, h2⟩
              exact hset ⟨q.toNat, f, by omega, hf, h2⟩
            · rfl
          have hn2 : flD nw = [.int .i64 p, .str [], .sl [], .str t.text, .sl [], .bool false, .bool true] := by rw [hnw]; rfl
          have hwf' : WfF ((i + 1) * 2199023255552) (esF (l ++ [nw])) := by
            have : esF (l ++ [nw]) = esF l ++ [⟨p, [], [], t.text, true⟩] := by rw [hnw]; simp [esF]
            rw [this]
            exact (hwf.up (bnd i)).snoc (by rw [esF_len]; exact hlb.2) (bnd2 i _ hz2)
          have len4 : (l ++ [nw]).length = l.length + 1 := by simp
          rw [hat] at hrun
          by_cases hlen : (l ++ [nw]).length > 150
          · rw [if_pos hlen] at hrun
            have hrb : rbuild ts = ([], 1) := by
              unfold rbuild
              rw [if_neg hbig, ← hrun]
              rfl
            rw [hrb]
            by_cases q0 : 0 ≤ q
            · obtain ⟨k, rfl⟩ : ∃ k : Nat, q = (k : Int) := ⟨q.toNat, by omega⟩
              obtain ⟨f, hf⟩ : ∃ y, l[k]? = some y := ⟨_, List.getElem?_eq_getElem (by omega)⟩
              have hft : f.1.tx = false := by
                cases h : f.1.tx with
                | false => rfl
                | true => exact absurd ⟨k, f, rfl, hf, h⟩ hset
              conv => whnf
              repeat' (first
    | (refine Br.tt ?_; conv => whnf)
    | (refine Br.ff ?_; conv => whnf)
    | (refine Both.mk ?_ ?_ <;> conv => whnf)
    | (refine Br.not ?_)
    | (refine Need.mk ?_ ?_; (focus ((first | omega | exact ⟨by omega, by omega⟩ | rfl | exact trivial | assumption | (simp only [List.length_map, List.length_append, List.length_take, List.length_drop, List.length_cons, List.length_nil, List.length_replicate, List.length_set, List.length_reverse, nds_len, numsD_length, shutF_len]; omega) | (simp only [List.length_map, List.length_append, List.length_take, List.length_drop, List.length_cons, List.length_nil, List.length_replicate, List.length_set, List.length_reverse, nds_len, numsD_length, shutF_len]; exact ⟨by omega, by omega⟩) | exact nds_each | (refine map_each ?_; intro x; rfl) | (refine first_map ?_; intro x; rfl) | exact first_nds | simp | (simp; omega)); done)); conv => whnf)
    | (refine Br.t (by assumption) ?_; conv => whnf)
    | (refine Br.f (by assumption) ?_; conv => whnf)
    | (refine Br.self ?_; conv => whnf)
    | (refine Br.decT (by assumption) ?_; conv => whnf)
    | (refine Br.decF (by assumption) ?_; conv => whnf)
    | (refine Br.eqT (by assumption) ?_; conv => whnf)
    | (refine Br.eqF (by assumption) ?_; conv => whnf)
    | (refine Br.dec (fun hc => ?_) (fun hc => ?_) <;> (try simp only [List.length_map, List.length_append, List.length_take, List.length_drop, List.length_cons, List.length_nil, List.length_replicate, List.length_set, List.length_reverse, nds_len, numsD_length, shutF_len] at hc) <;> first | (exfalso; omega) | exact absurd trivial hc | exact absurd rfl hc | conv => whnf)
    | (refine Br.eq (fun hc => ?_) (fun hc => ?_) <;> first | (exfalso; omega) | exact absurd trivial hc | exact absurd rfl hc | conv => whnf)
    | (refine Br.ne (fun hc => ?_) (fun hc => ?_) <;> first | (exfalso; omega) | exact absurd trivial hc | exact absurd rfl hc | conv => whnf)
    | (with_reducible refine Br.and ?_)
    | (with_reducible refine Br.or ?_)
    | (refine Br.any (fun hc => ?_) (fun hc => ?_) <;> conv => whnf)
    | (refine Fit.inl ?_ ?_; (focus ((first | omega | exact ⟨by omega, by omega⟩ | rfl | exact trivial | assumption | (simp only [List.length_map, List.length_append, List.length_take, List.length_drop, List.length_cons, List.length_nil, List.length_replicate, List.length_set, List.length_reverse, nds_len, numsD_length, shutF_len]; omega) | (simp only [List.length_map, List.length_append, List.length_take, List.length_drop, List.length_cons, List.length_nil, List.length_replicate, List.length_set, List.length_reverse, nds_len, numsD_length, shutF_len]; exact ⟨by omega, by omega⟩) | exact nds_each | (refine map_each ?_; intro x; rfl) | (refine first_map ?_; intro x; rfl) | exact first_nds | simp | (simp; omega)); done)); conv => whnf)
    | (refine Each.mapAt (by assumption) ?_; conv => whnf)
    | (refine Each.ndsAt (by assumption) ?_; conv => whnf)
    | (refine Each.at (by assumption) ?_; conv => whnf)
    | (refine Each.map (fun x hx => ?_); (try simp only [Int.toNat_natCast, Int.toNat_zero, Int.toNat_one, Int.toNat_natCast_add_one] at hx); conv => whnf)
    | (refine Each.nds (fun a b c ps hx => ?_); (try simp only [Int.toNat_natCast, Int.toNat_zero, Int.toNat_one, Int.toNat_natCast_add_one] at hx); conv => whnf)
    | (refine Each.rep ?_; conv => whnf)
    | (refine Each.drop ?_)
    | (refine Each.take (fun hi => ?_))
    | (refine Each.any (fun x hx => ?_); (try simp only [Int.toNat_natCast, Int.toNat_zero, Int.toNat_one, Int.toNat_natCast_add_one] at hx); conv => whnf)
    | (refine NilB.any (fun hn => ?_) ?_ <;> conv => whnf)
    | (refine ⟨_, bytesOfD_nums _, ?_⟩; conv => whnf)
    | (refine WP.sch (id := 30) tabOK hmix (.mob 1 (.mob 2 (.mob 3 (.mob 4 (.mob 5 (.mob 8 (.mob 9 (.mob 10 (.alt [(0, .alt [(6, .mob 11 (.mob 12 (.mob 13 (.alt [(7, .alt [(14, .alt [(15, .mob 16 (.mob 17 (.alt [(18, .alt [(19, .alt [(20, .alt [(21, .done)])])])])))])]), (14, .alt [(7, .alt [(15, .mob 16 (.mob 17 (.alt [(18, .alt [(19, .alt [(20, .alt [(21, .done)])])])])))]), (15, .mob 16 (.mob 17 (.alt [(7, .alt [(18, .alt [(19, .alt [(20, .alt [(21, .done)])])])])])))])]))))]), (6, .mob 11 (.mob 12 (.mob 13 (.alt [(0, .alt [(7, .alt [(14, .alt [(15, .mob 16 (.mob 17 (.alt [(18, .alt [(19, .alt [(20, .alt [(21, .done)])])])])))])]), (14, .alt [(7, .alt [(15, .mob 16 (.mob 17 (.alt [(18, .alt [(19, .alt [(20, .alt [(21, .done)])])])])))]), (15, .mob 16 (.mob 17 (.alt [(7, .alt [(18, .alt [(19, .alt [(20, .alt [(21, .done)])])])])])))])]), (7, .alt [(0, .alt [(14, .alt [(15, .mob 16 (.mob 17 (.alt [(18, .alt [(19, .alt [(20, .alt [(21, .done)])])])])))])]), (14, .alt [(0, .alt [(15, .mob 16 (.mob 17 (.alt [(18, .alt [(19, .alt [(20, .alt [(21, .done)])])])])))]), (15, .mob 16 (.mob 17 (.alt [(0, .alt [(18, .alt [(19, .alt [(20, .alt [(21, .done)])])])]), (18, .alt [(0, .alt [(19, .alt [(20, .alt [(21, .done)])])]), (19, .alt [(0, .alt [(20, .alt [(21, .done)])])])])])))])]), (14, .alt [(0, .alt [(7, .alt [(15, .mob 16 (.mob 17 (.alt [(18, .alt [(19, .alt [(20, .alt [(21, .done)])])])])))]), (15, .mob 16 (.mob 17 (.alt [(7, .alt [(18, .alt [(19, .alt [(20, .alt [(21, .done)])])])])])))]), (7, .alt [(0, .alt [(15, .mob 16 (.mob 17 (.alt [(18, .alt [(19, .alt [(20, .alt [(21, .done)])])])])))]), (15, .mob 16 (.mob 17 (.alt [(0, .alt [(18, .alt [(19, .alt [(20, .alt [(21, .done)])])])]), (18, .alt [(0, .alt [(19, .alt [(20, .alt [(21, .done)])])]), (19, .alt [(0, .alt [(20, .alt [(21, .done)])])])])])))]), (15, .mob 16 (.mob 17 (.alt [(0, .alt [(7, .alt [(18, .alt [(19, .alt [(20, .alt [(21, .done)])])])])]), (7, .alt [(0, .alt [(18, .alt [(19, .alt [(20, .alt [(21, .done)])])])]), (18, .alt [(0, .alt [(19, .alt [(20, .alt [(21, .done)])])]), (19, .alt [(0, .alt [(20, .alt [(21, .done)])])])])])])))])]))))]))))))))) (by kernel_rfl) ?_; conv => whnf)
    | (refine WP.sch (id := 46) tabOK hmix (.mob 1 (.mob 6 (.mob 7 (.alt [(0, .mob 2 (.mob 3 (.mob 4 (.alt [(5, .mob 8 (.mob 9 (.mob 10 (.mob 11 (.alt [(12, .done)])))))]))))])))) (by kernel_rfl) ?_; conv => whnf)
    | exact ⟨rfl, rfl⟩
    | (refine Fin.bool ?_ rfl)
    | (refine Fin.int ?_ rfl)
    | (refine Fin.str ?_ rfl)
    | (refine Fin.sl ?_ rfl)
    | exact trivial)
              all_goals exact .inl ⟨rfl, rfl, rfl⟩
            · conv => whnf
              repeat' (first
    | (refine Br.tt ?_; conv => whnf)
    | (refine Br.ff ?_; conv => whnf)
    | (refine Both.mk ?_ ?_ <;> conv => whnf)
    | (refine Br.not ?_)
    | (refine Need.mk ?_ ?_; (focus ((first | omega | exact ⟨by omega, by omega⟩ | rfl | exact trivial | assumption | (simp only [List.length_map, List.length_append, List.length_take, List.length_drop, List.length_cons, List.length_nil, List.length_replicate, List.length_set, List.length_reverse, nds_len, numsD_length, shutF_len]; omega) | (simp only [List.length_map, List.length_append, List.length_take, List.length_drop, List.length_cons, List.length_nil, List.length_replicate, List.length_set, List.length_reverse, nds_len, numsD_length, shutF_len]; exact ⟨by omega, by omega⟩) | exact nds_each | (refine map_each ?_; intro x; rfl) | (refine first_map ?_; intro x; rfl) | exact first_nds | simp | (simp; omega)); done)); conv => whnf)
    | (refine Br.t (by assumption) ?_; conv => whnf)
    | (refine Br.f (by assumption) ?_; conv => whnf)
    | (refine Br.self ?_; conv => whnf)
    | (refine Br.decT (by assumption) ?_; conv => whnf)
    | (refine Br.decF (by assumption) ?_; conv => whnf)
    | (refine Br.eqT (by assumption) ?_; conv => whnf)
    | (refine Br.eqF (by assumption) ?_; conv => whnf)
    | (refine Br.dec (fun hc => ?_) (fun hc => ?_) <;> (try simp only [List.length_map, List.length_append, List.length_take, List.length_drop, List.length_cons, List.length_nil, List.length_replicate, List.length_set, List.length_reverse, nds_len, numsD_length, shutF_len] at hc) <;> first | (exfalso; omega) | exact absurd trivial hc | exact absurd rfl hc | conv => whnf)
    | (refine Br.eq (fun hc => ?_) (fun hc => ?_) <;> first | (exfalso; omega) | exact absurd trivial hc | exact absurd rfl hc | conv => whnf)
    | (refine Br.ne (fun hc => ?_) (fun hc => ?_) <;> first | (exfalso; omega) | exact absurd trivial hc | exact absurd rfl hc | conv => whnf)
    | (with_reducible refine Br.and ?_)
    | (with_reducible refine Br.or ?_)
    | (refine Br.any (fun hc => ?_) (fun hc => ?_) <;> conv => whnf)
    | (refine Fit.inl ?_ ?_; (focus ((first | omega | exact ⟨by omega, by omega⟩ | rfl | exact trivial | assumption | (simp only [List.length_map, List.length_append, List.length_take, List.length_drop, List.length_cons, List.length_nil, List.length_replicate, List.length_set, List.length_reverse, nds_len, numsD_length, shutF_len]; omega) | (simp only [List.length_map, List.length_append, List.length_take, List.length_drop, List.length_cons, List.length_nil, List.length_replicate, List.length_set, List.length_reverse, nds_len, numsD_length, shutF_len]; exact ⟨by omega, by omega⟩) | exact nds_each | (refine map_each ?_; intro x; rfl) | (refine first_map ?_; intro x; rfl) | exact first_nds | simp | (simp; omega)); done)); conv => whnf)
    | (refine Each.mapAt (by assumption) ?_; conv => whnf)
    | (refine Each.ndsAt (by assumption) ?_; conv => whnf)
    | (refine Each.at (by assumption) ?_; conv => whnf)
    | (refine Each.map (fun x hx => ?_); (try simp only [Int.toNat_natCast, Int.toNat_zero, Int.toNat_one, Int.toNat_natCast_add_one] at hx); conv => whnf)
    | (refine Each.nds (fun a b c ps hx => ?_); (try simp only [Int.toNat_natCast, Int.toNat_zero, Int.toNat_one, Int.toNat_natCast_add_one] at hx); conv => whnf)
    | (refine Each.rep ?_; conv => whnf)
    | (refine Each.drop ?_)
    | (refine Each.take (fun hi => ?_))
    | (refine Each.any (fun x hx => ?_); (try simp only [Int.toNat_natCast, Int.toNat_zero, Int.toNat_one, Int.toNat_natCast_add_one] at hx); conv => whnf)
    | (refine NilB.any (fun hn => ?_) ?_ <;> conv => whnf)
    | (refine ⟨_, bytesOfD_nums _, ?_⟩; conv => whnf)
    | (refine WP.sch (id := 30) tabOK hmix (.mob 1 (.mob 2 (.mob 3 (.mob 4 (.mob 5 (.mob 8 (.mob 9 (.mob 10 (.alt [(0, .alt [(6, .mob 11 (.mob 12 (.mob 13 (.alt [(7, .alt [(14, .alt [(15, .mob 16 (.mob 17 (.alt [(18, .alt [(19, .alt [(20, .alt [(21, .done)])])])])))])]), (14, .alt [(7, .alt [(15, .mob 16 (.mob 17 (.alt [(18, .alt [(19, .alt [(20, .alt [(21, .done)])])])])))]), (15, .mob 16 (.mob 17 (.alt [(7, .alt [(18, .alt [(19, .alt [(20, .alt [(21, .done)])])])])])))])]))))]), (6, .mob 11 (.mob 12 (.mob 13 (.alt [(0, .alt [(7, .alt [(14, .alt [(15, .mob 16 (.mob 17 (.alt [(18, .alt [(19, .alt [(20, .alt [(21, .done)])])])])))])]), (14, .alt [(7, .alt [(15, .mob 16 (.mob 17 (.alt [(18, .alt [(19, .alt [(20, .alt [(21, .done)])])])])))]), (15, .mob 16 (.mob 17 (.alt [(7, .alt [(18, .alt [(19, .alt [(20, .alt [(21, .done)])])])])])))])]), (7, .alt [(0, .alt [(14, .alt [(15, .mob 16 (.mob 17 (.alt [(18, .alt [(19, .alt [(20, .alt [(21, .done)])])])])))])]), (14, .alt [(0, .alt [(15, .mob 16 (.mob 17 (.alt [(18, .alt [(19, .alt [(20, .alt [(21, .done)])])])])))]), (15, .mob 16 (.mob 17 (.alt [(0, .alt [(18, .alt [(19, .alt [(20, .alt [(21, .done)])])])]), (18, .alt [(0, .alt [(19, .alt [(20, .alt [(21, .done)])])]), (19, .alt [(0, .alt [(20, .alt [(21, .done)])])])])])))])]), (14, .alt [(0, .alt [(7, .alt [(15, .mob 16 (.mob 17 (.alt [(18, .alt [(19, .alt [(20, .alt [(21, .done)])])])])))]), (15, .mob 16 (.mob 17 (.alt [(7, .alt [(18, .alt [(19, .alt [(20, .alt [(21, .done)])])])])])))]), (7, .alt [(0, .alt [(15, .mob 16 (.mob 17 (.alt [(18, .alt [(19, .alt [(20, .alt [(21, .done)])])])])))]), (15, .mob 16 (.mob 17 (.alt [(0, .alt [(18, .alt [(19, .alt [(20, .alt [(21, .done)])])])]), (18, .alt [(0, .alt [(19, .alt [(20, .alt [(21, .done)])])]), (19, .alt [(0, .alt [(20, .alt [(21, .done)])])])])])))]), (15, .mob 16 (.mob 17 (.alt [(0, .alt [(7, .alt [(18, .alt [(19, .alt [(20, .alt [(21, .done)])])])])]), (7, .alt [(0, .alt [(18, .alt [(19, .alt [(20, .alt [(21, .done)])])])]), (18, .alt [(0, .alt [(19, .alt [(20, .alt [(21, .done)])])]), (19, .alt [(0, .alt [(20, .alt [(21, .done)])])])])])])))])]))))]))))))))) (by kernel_rfl) ?_; conv => whnf)
    | (refine WP.sch (id := 46) tabOK hmix (.mob 1 (.mob 6 (.mob 7 (.alt [(0, .mob 2 (.mob 3 (.mob 4 (.alt [(5, .mob 8 (.mob 9 (.mob 10 (.mob 11 (.alt [(12, .done)])))))]))))])))) (by kernel_rfl) ?_; conv => whnf)
    | exact ⟨rfl, rfl⟩
    | (refine Fin.bool ?_ rfl)
    | (refine Fin.int ?_ rfl)
    | (refine Fin.str ?_ rfl)
    | (refine Fin.sl ?_ rfl)
    | exact trivial)
              all_goals exact .inl ⟨rfl, rfl, rfl⟩
          · rw [if_neg hlen] at hrun
            have len5 : (l ++ [nw]).length ≤ 150 := by omega
            by_cases q0 : 0 ≤ q
            · obtain ⟨k, rfl⟩ : ∃ k : Nat, q = (k : Int) := ⟨q.toNat, by omega⟩
              obtain ⟨f, hf⟩ : ∃ y, l[k]? = some y := ⟨_, List.getElem?_eq_getElem (by omega)⟩
              have hft : f.1.tx = false := by
                cases h : f.1.tx with
                | false => rfl
                | true => exact absurd ⟨k, f, rfl, hf, h⟩ hset
              conv => whnf
              repeat' (first
    | (refine Br.tt ?_; conv => whnf)
    | (refine Br.ff ?_; conv => whnf)
    | (refine Both.mk ?_ ?_ <;> conv => whnf)
    | (refine Br.not ?_)
    | (refine Need.mk ?_ ?_; (focus ((first | omega | exact ⟨by omega, by omega⟩ | rfl | exact trivial | assumption | (simp only [List.length_map, List.length_append, List.length_take, List.length_drop, List.length_cons, List.length_nil, List.length_replicate, List.length_set, List.length_reverse, nds_len, numsD_length, shutF_len]; omega) | (simp only [List.length_map, List.length_append, List.length_take, List.length_drop, List.length_cons, List.length_nil, List.length_replicate, List.length_set, List.length_reverse, nds_len, numsD_length, shutF_len]; exact ⟨by omega, by omega⟩) | exact nds_each | (refine map_each ?_; intro x; rfl) | (refine first_map ?_; intro x; rfl) | exact first_nds | simp | (simp; omega)); done)); conv => whnf)
    | (refine Br.t (by assumption) ?_; conv => whnf)
    | (refine Br.f (by assumption) ?_; conv => whnf)
    | (refine Br.self ?_; conv => whnf)
    | (refine Br.decT (by assumption) ?_; conv => whnf)
    | (refine Br.decF (by assumption) ?_; conv => whnf)
    | (refine Br.eqT (by assumption) ?_; conv => whnf)
    | (refine Br.eqF (by assumption) ?_; conv => whnf)
    | (refine Br.dec (fun hc => ?_) (fun hc => ?_) <;> (try simp only [List.length_map, List.length_append, List.length_take, List.length_drop, List.length_cons, List.length_nil, List.length_replicate, List.length_set, List.length_reverse, nds_len, numsD_length, shutF_len] at hc) <;> first | (exfalso; omega) | exact absurd trivial hc | exact absurd rfl hc | conv => whnf)
    | (refine Br.eq (fun hc => ?_) (fun hc => ?_) <;> first | (exfalso; omega) | exact absurd trivial hc | exact absurd rfl hc | conv => whnf)
    | (refine Br.ne (fun hc => ?_) (fun hc => ?_) <;> first | (exfalso; omega) | exact absurd trivial hc | exact absurd rfl hc | conv => whnf)
    | (with_reducible refine Br.and ?_)
    | (with_reducible refine Br.or ?_)
    | (refine Br.any (fun hc => ?_) (fun hc => ?_) <;> conv => whnf)
    | (refine Fit.inl ?_ ?_; (focus ((first | omega | exact ⟨by omega, by omega⟩ | rfl | exact trivial | assumption | (simp only [List.length_map, List.length_append, List.length_take, List.length_drop, List.length_cons, List.length_nil, List.length_replicate, List.length_set, List.length_reverse, nds_len, numsD_length, shutF_len]; omega) | (simp only [List.length_map, List.length_append, List.length_take, List.length_drop, List.length_cons, List.length_nil, List.length_replicate, List.length_set, List.length_reverse, nds_len, numsD_length, shutF_len]; exact ⟨by omega, by omega⟩) | exact nds_each | (refine map_each ?_; intro x; rfl) | (refine first_map ?_; intro x; rfl) | exact first_nds | simp | (simp; omega)); done)); conv => whnf)
    | (refine Each.mapAt (by assumption) ?_; conv => whnf)
    | (refine Each.ndsAt (by assumption) ?_; conv => whnf)
    | (refine Each.at (by assumption) ?_; conv => whnf)
    | (refine Each.map (fun x hx => ?_); (try simp only [Int.toNat_natCast, Int.toNat_zero, Int.toNat_one, Int.toNat_natCast_add_one] at hx); conv => whnf)
    | (refine Each.nds (fun a b c ps hx => ?_); (try simp only [Int.toNat_natCast, Int.toNat_zero, Int.toNat_one, Int.toNat_natCast_add_one] at hx); conv => whnf)
    | (refine Each.rep ?_; conv => whnf)
    | (refine Each.drop ?_)
    | (refine Each.take (fun hi => ?_))
    | (refine Each.any (fun x hx => ?_); (try simp only [Int.toNat_natCast, Int.toNat_zero, Int.toNat_one, Int.toNat_natCast_add_one] at hx); conv => whnf)
    | (refine NilB.any (fun hn => ?_) ?_ <;> conv => whnf)
    | (refine ⟨_, bytesOfD_nums _, ?_⟩; conv => whnf)
    | (refine WP.sch (id := 30) tabOK hmix (.mob 1 (.mob 2 (.mob 3 (.mob 4 (.mob 5 (.mob 8 (.mob 9 (.mob 10 (.alt [(0, .alt [(6, .mob 11 (.mob 12 (.mob 13 (.alt [(7, .alt [(14, .alt [(15, .mob 16 (.mob 17 (.alt [(18, .alt [(19, .alt [(20, .alt [(21, .done)])])])])))])]), (14, .alt [(7, .alt [(15, .mob 16 (.mob 17 (.alt [(18, .alt [(19, .alt [(20, .alt [(21, .done)])])])])))]), (15, .mob 16 (.mob 17 (.alt [(7, .alt [(18, .alt [(19, .alt [(20, .alt [(21, .done)])])])])])))])]))))]), (6, .mob 11 (.mob 12 (.mob 13 (.alt [(0, .alt [(7, .alt [(14, .alt [(15, .mob 16 (.mob 17 (.alt [(18, .alt [(19, .alt [(20, .alt [(21, .done)])])])])))])]), (14, .alt [(7, .alt [(15, .mob 16 (.mob 17 (.alt [(18, .alt [(19, .alt [(20, .alt [(21, .done)])])])])))]), (15, .mob 16 (.mob 17 (.alt [(7, .alt [(18, .alt [(19, .alt [(20, .alt [(21, .done)])])])])])))])]), (7, .alt [(0, .alt [(14, .alt [(15, .mob 16 (.mob 17 (.alt [(18, .alt [(19, .alt [(20, .alt [(21, .done)])])])])))])]), (14, .alt [(0, .alt [(15, .mob 16 (.mob 17 (.alt [(18, .alt [(19, .alt [(20, .alt [(21, .done)])])])])))]), (15, .mob 16 (.mob 17 (.alt [(0, .alt [(18, .alt [(19, .alt [(20, .alt [(21, .done)])])])]), (18, .alt [(0, .alt [(19, .alt [(20, .alt [(21, .done)])])]), (19, .alt [(0, .alt [(20, .alt [(21, .done)])])])])])))])]), (14, .alt [(0, .alt [(7, .alt [(15, .mob 16 (.mob 17 (.alt [(18, .alt [(19, .alt [(20, .alt [(21, .done)])])])])))]), (15, .mob 16 (.mob 17 (.alt [(7, .alt [(18, .alt [(19, .alt [(20, .alt [(21, .done)])])])])])))]), (7, .alt [(0, .alt [(15, .mob 16 (.mob 17 (.alt [(18, .alt [(19, .alt [(20, .alt [(21, .done)])])])])))]), (15, .mob 16 (.mob 17 (.alt [(0, .alt [(18, .alt [(19, .alt [(20, .alt [(21, .done)])])])]), (18, .alt [(0, .alt [(19, .alt [(20, .alt [(21, .done)])])]), (19, .alt [(0, .alt [(20, .alt [(21, .done)])])])])])))]), (15, .mob 16 (.mob 17 (.alt [(0, .alt [(7, .alt [(18, .alt [(19, .alt [(20, .alt [(21, .done)])])])])]), (7, .alt [(0, .alt [(18, .alt [(19, .alt [(20, .alt [(21, .done)])])])]), (18, .alt [(0, .alt [(19, .alt [(20, .alt [(21, .done)])])]), (19, .alt [(0, .alt [(20, .alt [(21, .done)])])])])])])))])]))))]))))))))) (by kernel_rfl) ?_; conv => whnf)
    | (refine WP.sch (id := 46) tabOK hmix (.mob 1 (.mob 6 (.mob 7 (.alt [(0, .mob 2 (.mob 3 (.mob 4 (.alt [(5, .mob 8 (.mob 9 (.mob 10 (.mob 11 (.alt [(12, .done)])))))]))))])))) (by kernel_rfl) ?_; conv => whnf)
    | exact ⟨rfl, rfl⟩
    | (refine Fin.bool ?_ rfl)
    | (refine Fin.int ?_ rfl)
    | (refine Fin.str ?_ rfl)
    | (refine Fin.sl ?_ rfl)
    | exact trivial)
              refine ⟨(i + 1, l ++ [nw], []), ⟨hi1, len5, hrun, hwf'⟩, by dsimp only; omega, ?_⟩
              conv => whnf
              repeat (first | exact True.intro | (refine Need.mk ?_ ?_; (focus ((first | rfl | assumption | omega | (simp only [List.length_map, List.length_append, List.length_take, List.length_drop, List.length_cons, List.length_nil, List.length_replicate, List.length_set, List.length_reverse, nds_len, numsD_length, shutF_len]; omega) | simp [hn2]); done)); conv => whnf) | ((conv => whnf); exact True.intro))
            · conv => whnf
              repeat' (first
    | (refine Br.tt ?_; conv => whnf)
    | (refine Br.ff ?_; conv => whnf)
    | (refine Both.mk ?_ ?_ <;> conv => whnf)
    | (refine Br.not ?_)
    | (refine Need.mk ?_ ?_; (focus ((first | omega | exact ⟨by omega, by omega⟩ | rfl | exact trivial | assumption | (simp only [List.length_map, List.length_append, List.length_take, List.length_drop, List.length_cons, List.length_nil, List.length_replicate, List.length_set, List.length_reverse, nds_len, numsD_length, shutF_len]; omega) | (simp only [List.length_map, List.length_append, List.length_take, List.length_drop, List.length_cons, List.length_nil, List.length_replicate, List.length_set, List.length_reverse, nds_len, numsD_length, shutF_len]; exact ⟨by omega, by omega⟩) | exact nds_each | (refine map_each ?_; intro x; rfl) | (refine first_map ?_; intro x; rfl) | exact first_nds | simp | (simp; omega)); done)); conv => whnf)
    | (refine Br.t (by assumption) ?_; conv => whnf)
    | (refine Br.f (by assumption) ?_; conv => whnf)
    | (refine Br.self ?_; conv => whnf)
    | (refine Br.decT (by assumption) ?_; conv => whnf)
    | (refine Br.decF (by assumption) ?_; conv => whnf)
    | (refine Br.eqT (by assumption) ?_; conv => whnf)
    | (refine Br.eqF (by assumption) ?_; conv => whnf)
    | (refine Br.dec (fun hc => ?_) (fun hc => ?_) <;> (try simp only [List.length_map, List.length_append, List.length_take, List.length_drop, List.length_cons, List.length_nil, List.length_replicate, List.length_set, List.length_reverse, nds_len, numsD_length, shutF_len] at hc) <;> first | (exfalso; omega) | exact absurd trivial hc | exact absurd rfl hc | conv => whnf)
    | (refine Br.eq (fun hc => ?_) (fun hc => ?_) <;> first | (exfalso; omega) | exact absurd trivial hc | exact absurd rfl hc | conv => whnf)
    | (refine Br.ne (fun hc => ?_) (fun hc => ?_) <;> first | (exfalso; omega) | exact absurd trivial hc | exact absurd rfl hc | conv => whnf)
    | (with_reducible refine Br.and ?_)
    | (with_reducible refine Br.or ?_)
    | (refine Br.any (fun hc => ?_) (fun hc => ?_) <;> conv => whnf)
    | (refine Fit.inl ?_ ?_; (focus ((first | omega | exact ⟨by omega, by omega⟩ | rfl | exact trivial | assumption | (simp only [List.length_map, List.length_append, List.length_take, List.length_drop, List.length_cons, List.length_nil, List.length_replicate, List.length_set, List.length_reverse, nds_len, numsD_length, shutF_len]; omega) | (simp only [List.length_map, List.length_append, List.length_take, List.length_drop, List.length_cons, List.length_nil, List.length_replicate, List.length_set, List.length_reverse, nds_len, numsD_length, shutF_len]; exact ⟨by omega, by omega⟩) | exact nds_each | (refine map_each ?_; intro x; rfl) | (refine first_map ?_; intro x; rfl) | exact first_nds | simp | (simp; omega)); done)); conv => whnf)
    | (refine Each.mapAt (by assumption) ?_; conv => whnf)
    | (refine Each.ndsAt (by assumption) ?_; conv => whnf)
    | (refine Each.at (by assumption) ?_; conv => whnf)
    | (refine Each.map (fun x hx => ?_); (try simp only [Int.toNat_natCast, Int.toNat_zero, Int.toNat_one, Int.toNat_natCast_add_one] at hx); conv => whnf)
    | (refine Each.nds (fun a b c ps hx => ?_); (try simp only [Int.toNat_natCast, Int.toNat_zero, Int.toNat_one, Int.toNat_natCast_add_one] at hx); conv => whnf)
    | (refine Each.rep ?_; conv => whnf)
    | (refine Each.drop ?_)
    | (refine Each.take (fun hi => ?_))
    | (refine Each.any (fun x hx => ?_); (try simp only [Int.toNat_natCast, Int.toNat_zero, Int.toNat_one, Int.toNat_natCast_add_one] at hx); conv => whnf)
    | (refine NilB.any (fun hn => ?_) ?_ <;> conv => whnf)
    | (refine ⟨_, bytesOfD_nums _, ?_⟩; conv => whnf)
    | (refine WP.sch (id := 30) tabOK hmix (.mob 1 (.mob 2 (.mob 3 (.mob 4 (.mob 5 (.mob 8 (.mob 9 (.mob 10 (.alt [(0, .alt [(6, .mob 11 (.mob 12 (.mob 13 (.alt [(7, .alt [(14, .alt [(15, .mob 16 (.mob 17 (.alt [(18, .alt [(19, .alt [(20, .alt [(21, .done)])])])])))])]), (14, .alt [(7, .alt [(15, .mob 16 (.mob 17 (.alt [(18, .alt [(19, .alt [(20, .alt [(21, .done)])])])])))]), (15, .mob 16 (.mob 17 (.alt [(7, .alt [(18, .alt [(19, .alt [(20, .alt [(21, .done)])])])])])))])]))))]), (6, .mob 11 (.mob 12 (.mob 13 (.alt [(0, .alt [(7, .alt [(14, .alt [(15, .mob 16 (.mob 17 (.alt [(18, .alt [(19, .alt [(20, .alt [(21, .done)])])])])))])]), (14, .alt [(7, .alt [(15, .mob 16 (.mob 17 (.alt [(18, .alt [(19, .alt [(20, .alt [(21, .done)])])])])))]), (15, .mob 16 (.mob 17 (.alt [(7, .alt [(18, .alt [(19, .alt [(20, .alt [(21, .done)])])])])])))])]), (7, .alt [(0, .alt [(14, .alt [(15, .mob 16 (.mob 17 (.alt [(18, .alt [(19, .alt [(20, .alt [(21, .done)])])])])))])]), (14, .alt [(0, .alt [(15, .mob 16 (.mob 17 (.alt [(18, .alt [(19, .alt [(20, .alt [(21, .done)])])])])))]), (15, .mob 16 (.mob 17 (.alt [(0, .alt [(18, .alt [(19, .alt [(20, .alt [(21, .done)])])])]), (18, .alt [(0, .alt [(19, .alt [(20, .alt [(21, .done)])])]), (19, .alt [(0, .alt [(20, .alt [(21, .done)])])])])])))])]), (14, .alt [(0, .alt [(7, .alt [(15, .mob 16 (.mob 17 (.alt [(18, .alt [(19, .alt [(20, .alt [(21, .done)])])])])))]), (15, .mob 16 (.mob 17 (.alt [(7, .alt [(18, .alt [(19, .alt [(20, .alt [(21, .done)])])])])])))]), (7, .alt [(0, .alt [(15, .mob 16 (.mob 17 (.alt [(18, .alt [(19, .alt [(20, .alt [(21, .done)])])])])))]), (15, .mob 16 (.mob 17 (.alt [(0, .alt [(18, .alt [(19, .alt [(20, .alt [(21, .done)])])])]), (18, .alt [(0, .alt [(19, .alt [(20, .alt [(21, .done)])])]), (19, .alt [(0, .alt [(20, .alt [(21, .done)])])])])])))]), (15, .mob 16 (.mob 17 (.alt [(0, .alt [(7, .alt [(18, .alt [(19, .alt [(20, .alt [(21, .done)])])])])]), (7, .alt [(0, .alt [(18, .alt [(19, .alt [(20, .alt [(21, .done)])])])]), (18, .alt [(0, .alt [(19, .alt [(20, .alt [(21, .done)])])]), (19, .alt [(0, .alt [(20, .alt [(21, .done)])])])])])])))])]))))]))))))))) (by kernel_rfl) ?_; conv => whnf)
    | (refine WP.sch (id := 46) tabOK hmix (.mob 1 (.mob 6 (.mob 7 (.alt [(0, .mob 2 (.mob 3 (.mob 4 (.alt [(5, .mob 8 (.mob 9 (.mob 10 (.mob 11 (.alt [(12, .done)])))))]))))])))) (by kernel_rfl) ?_; conv => whnf)
    | exact ⟨rfl, rfl⟩
    | (refine Fin.bool ?_ rfl)
    | (refine Fin.int ?_ rfl)
    | (refine Fin.str ?_ rfl)
    | (refine Fin.sl ?_ rfl)
    | exact trivial)
              refine ⟨(i + 1, l ++ [nw], []), ⟨hi1, len5, hrun, hwf'⟩, by dsimp only; omega, ?_⟩
              conv => whnf
              repeat (first | exact True.intro | (refine Need.mk ?_ ?_; (focus ((first | rfl | assumption | omega | (simp only [List.length_map, List.length_append, List.length_take, List.length_drop, List.length_cons, List.length_nil, List.length_replicate, List.length_set, List.length_reverse, nds_len, numsD_length, shutF_len]; omega) | simp [hn2]); done)); conv => whnf) | ((conv => whnf); exact True.intro))
    have hps : rstep l mute t = none := by unfold rstep; rw [if_neg k1, if_neg k2, if_neg k3, if_neg k4]
    have hrb : rbuild ts = ([], 3) := by
      unfold rbuild
      rw [if_neg hbig, ← hrun, rrun, hps]
      rfl
    rw [hrb]
    conv => whnf
    repeat' (first
    | (refine Br.tt ?_; conv => whnf)
    | (refine Br.ff ?_; conv => whnf)
    | (refine Both.mk ?_ ?_ <;> conv => whnf)
    | (refine Br.not ?_)
    | (refine Need.mk ?_ ?_; (focus ((first | omega | exact ⟨by omega, by omega⟩ | rfl | exact trivial | assumption | (simp only [List.length_map, List.length_append, List.length_take, List.length_drop, List.length_cons, List.length_nil, List.length_replicate, List.length_set, List.length_reverse, nds_len, numsD_length, shutF_len]; omega) | (simp only [List.length_map, List.length_append, List.length_take, List.length_drop, List.length_cons, List.length_nil, List.length_replicate, List.length_set, List.length_reverse, nds_len, numsD_length, shutF_len]; exact ⟨by omega, by omega⟩) | exact nds_each | (refine map_each ?_; intro x; rfl) | (refine first_map ?_; intro x; rfl) | exact first_nds | simp | (simp; omega)); done)); conv => whnf)
    | (refine Br.t (by assumption) ?_; conv => whnf)
    | (refine Br.f (by assumption) ?_; conv => whnf)
    | (refine Br.self ?_; conv => whnf)
    | (refine Br.decT (by assumption) ?_; conv => whnf)
    | (refine Br.decF (by assumption) ?_; conv => whnf)
    | (refine Br.eqT (by assumption) ?_; conv => whnf)
    | (refine Br.eqF (by assumption) ?_; conv => whnf)
    | (refine Br.dec (fun hc => ?_) (fun hc => ?_) <;> (try simp only [List.length_map, List.length_append, List.length_take, List.length_drop, List.length_cons, List.length_nil, List.length_replicate, List.length_set, List.length_reverse, nds_len, numsD_length, shutF_len] at hc) <;> first | (exfalso; omega) | exact absurd trivial hc | exact absurd rfl hc | conv => whnf)
    | (refine Br.eq (fun hc => ?_) (fun hc => ?_) <;> first | (exfalso; omega) | exact absurd trivial hc | exact absurd rfl hc | conv => whnf)
    | (refine Br.ne (fun hc => ?_) (fun hc => ?_) <;> first | (exfalso; omega) | exact absurd trivial hc | exact absurd rfl hc | conv => whnf)
    | (with_reducible refine Br.and ?_)
    | (with_reducible refine Br.or ?_)
    | (refine Br.any (fun hc => ?_) (fun hc => ?_) <;> conv => whnf)
    | (refine Fit.inl ?_ ?_; (focus ((first | omega | exact ⟨by omega, by omega⟩ | rfl | exact trivial | assumption | (simp only [List.length_map, List.length_append, List.length_take, List.length_drop, List.length_cons, List.length_nil, List.length_replicate, List.length_set, List.length_reverse, nds_len, numsD_length, shutF_len]; omega) | (simp only [List.length_map, List.length_append, List.length_take, List.length_drop, List.length_cons, List.length_nil, List.length_replicate, List.length_set, List.length_reverse, nds_len, numsD_length, shutF_len]; exact ⟨by omega, by omega⟩) | exact nds_each | (refine map_each ?_; intro x; rfl) | (refine first_map ?_; intro x; rfl) | exact first_nds | simp | (simp; omega)); done)); conv => whnf)
    | (refine Each.mapAt (by assumption) ?_; conv => whnf)
    | (refine Each.ndsAt (by assumption) ?_; conv => whnf)
    | (refine Each.at (by assumption) ?_; conv => whnf)
    | (refine Each.map (fun x hx => ?_); (try simp only [Int.toNat_natCast, Int.toNat_zero, Int.toNat_one, Int.toNat_natCast_add_one] at hx); conv => whnf)
    | (refine Each.nds (fun a b c ps hx => ?_); (try simp only [Int.toNat_natCast, Int.toNat_zero, Int.toNat_one, Int.toNat_natCast_add_one] at hx); conv => whnf)
    | (refine Each.rep ?_; conv => whnf)
    | (refine Each.drop ?_)
    | (refine Each.take (fun hi => ?_))
    | (refine Each.any (fun x hx => ?_); (try simp only [Int.toNat_natCast, Int.toNat_zero, Int.toNat_one, Int.toNat_natCast_add_one] at hx); conv => whnf)
    | (refine NilB.any (fun hn => ?_) ?_ <;> conv => whnf)
    | (refine ⟨_, bytesOfD_nums _, ?_⟩; conv => whnf)
    | (refine WP.sch (id := 30) tabOK hmix (.mob 1 (.mob 2 (.mob 3 (.mob 4 (.mob 5 (.mob 8 (.mob 9 (.mob 10 (.alt [(0, .alt [(6, .mob 11 (.mob 12 (.mob 13 (.alt [(7, .alt [(14, .alt [(15, .mob 16 (.mob 17 (.alt [(18, .alt [(19, .alt [(20, .alt [(21, .done)])])])])))])]), (14, .alt [(7, .alt [(15, .mob 16 (.mob 17 (.alt [(18, .alt [(19, .alt [(20, .alt [(21, .done)])])])])))]), (15, .mob 16 (.mob 17 (.alt [(7, .alt [(18, .alt [(19, .alt [(20, .alt [(21, .done)])])])])])))])]))))]), (6, .mob 11 (.mob 12 (.mob 13 (.alt [(0, .alt [(7, .alt [(14, .alt [(15, .mob 16 (.mob 17 (.alt [(18, .alt [(19, .alt [(20, .alt [(21, .done)])])])])))])]), (14, .alt [(7, .alt [(15, .mob 16 (.mob 17 (.alt [(18, .alt [(19, .alt [(20, .alt [(21, .done)])])])])))]), (15, .mob 16 (.mob 17 (.alt [(7, .alt [(18, .alt [(19, .alt [(20, .alt [(21, .done)])])])])])))])]), (7, .alt [(0, .alt [(14, .alt [(15, .mob 16 (.mob 17 (.alt [(18, .alt [(19, .alt [(20, .alt [(21, .done)])])])])))])]), (14, .alt [(0, .alt [(15, .mob 16 (.mob 17 (.alt [(18, .alt [(19, .alt [(20, .alt [(21, .done)])])])])))]), (15, .mob 16 (.mob 17 (.alt [(0, .alt [(18, .alt [(19, .alt [(20, .alt [(21, .done)])])])]), (18, .alt [(0, .alt [(19, .alt [(20, .alt [(21, .done)])])]), (19, .alt [(0, .alt [(20, .alt [(21, .done)])])])])])))])]), (14, .alt [(0, .alt [(7, .alt [(15, .mob 16 (.mob 17 (.alt [(18, .alt [(19, .alt [(20, .alt [(21, .done)])])])])))]), (15, .mob 16 (.mob 17 (.alt [(7, .alt [(18, .alt [(19, .alt [(20, .alt [(21, .done)])])])])])))]), (7, .alt [(0, .alt [(15, .mob 16 (.mob 17 (.alt [(18, .alt [(19, .alt [(20, .alt [(21, .done)])])])])))]), (15, .mob 16 (.mob 17 (.alt [(0, .alt [(18, .alt [(19, .alt [(20, .alt [(21, .done)])])])]), (18, .alt [(0, .alt [(19, .alt [(20, .alt [(21, .done)])])]), (19, .alt [(0, .alt [(20, .alt [(21, .done)])])])])])))]), (15, .mob 16 (.mob 17 (.alt [(0, .alt [(7, .alt [(18, .alt [(19, .alt [(20, .alt [(21, .done)])])])])]), (7, .alt [(0, .alt [(18, .alt [(19, .alt [(20, .alt [(21, .done)])])])]), (18, .alt [(0, .alt [(19, .alt [(20, .alt [(21, .done)])])]), (19, .alt [(0, .alt [(20, .alt [(21, .done)])])])])])])))])]))))]))))))))) (by kernel_rfl) ?_; conv => whnf)
    | (refine WP.sch (id := 46) tabOK hmix (.mob 1 (.mob 6 (.mob 7 (.alt [(0, .mob 2 (.mob 3 (.mob 4 (.alt [(5, .mob 8 (.mob 9 (.mob 10 (.mob 11 (.alt [(12, .done)])))))]))))])))) (by kernel_rfl) ?_; conv => whnf)
    | exact ⟨rfl, rfl⟩
    | (refine Fin.bool ?_ rfl)
    | (refine Fin.int ?_ rfl)
    | (refine Fin.str ?_ rfl)
    | (refine Fin.sl ?_ rfl)
    | exact trivial)
    exact .inl ⟨rfl, rfl, rfl⟩
  · have hie : i = ts.length := by omega
    subst hie
    rw [List.drop_of_length_le (Nat.le_refl _), rrun] at hrun
    have hrb : rbuild ts = (nodesK (esF l) (l.length + 1) (-1), 0) := by
      unfold rbuild
      rw [if_neg hbig, ← hrun]
      rfl
    have hw := within_ l (by omega) hwf.par (l.length + 1) (-1) (by omega) (by omega) (by omega)
    rw [hrb]
    conv => whnf
    repeat' (first
    | (refine Br.tt ?_; conv => whnf)
    | (refine Br.ff ?_; conv => whnf)
    | (refine Both.mk ?_ ?_ <;> conv => whnf)
    | (refine Br.not ?_)
    | (refine Need.mk ?_ ?_; (focus ((first | omega | exact ⟨by omega, by omega⟩ | rfl | exact trivial | assumption | (simp only [List.length_map, List.length_append, List.length_take, List.length_drop, List.length_cons, List.length_nil, List.length_replicate, List.length_set, List.length_reverse, nds_len, numsD_length, shutF_len]; omega) | (simp only [List.length_map, List.length_append, List.length_take, List.length_drop, List.length_cons, List.length_nil, List.length_replicate, List.length_set, List.length_reverse, nds_len, numsD_length, shutF_len]; exact ⟨by omega, by omega⟩) | exact nds_each | (refine map_each ?_; intro x; rfl) | (refine first_map ?_; intro x; rfl) | exact first_nds | simp | (simp; omega)); done)); conv => whnf)
    | (refine Br.t (by assumption) ?_; conv => whnf)
    | (refine Br.f (by assumption) ?_; conv => whnf)
    | (refine Br.self ?_; conv => whnf)
    | (refine Br.decT (by assumption) ?_; conv => whnf)
    | (refine Br.decF (by assumption) ?_; conv => whnf)
    | (refine Br.eqT (by assumption) ?_; conv => whnf)
    | (refine Br.eqF (by assumption) ?_; conv => whnf)
    | (refine Br.dec (fun hc => ?_) (fun hc => ?_) <;> (try simp only [List.length_map, List.length_append, List.length_take, List.length_drop, List.length_cons, List.length_nil, List.length_replicate, List.length_set, List.length_reverse, nds_len, numsD_length, shutF_len] at hc) <;> first | (exfalso; omega) | exact absurd trivial hc | exact absurd rfl hc | conv => whnf)
    | (refine Br.eq (fun hc => ?_) (fun hc => ?_) <;> first | (exfalso; omega) | exact absurd trivial hc | exact absurd rfl hc | conv => whnf)
    | (refine Br.ne (fun hc => ?_) (fun hc => ?_) <;> first | (exfalso; omega) | exact absurd trivial hc | exact absurd rfl hc | conv => whnf)
    | (with_reducible refine Br.and ?_)
    | (with_reducible refine Br.or ?_)
    | (refine Br.any (fun hc => ?_) (fun hc => ?_) <;> conv => whnf)
    | (refine Fit.inl ?_ ?_; (focus ((first | omega | exact ⟨by omega, by omega⟩ | rfl | exact trivial | assumption | (simp only [List.length_map, List.length_append, List.length_take, List.length_drop, List.length_cons, List.length_nil, List.length_replicate, List.length_set, List.length_reverse, nds_len, numsD_length, shutF_len]; omega) | (simp only [List.length_map, List.length_append, List.length_take, List.length_drop, List.length_cons, List.length_nil, List.length_replicate, List.length_set, List.length_reverse, nds_len, numsD_length, shutF_len]; exact ⟨by omega, by omega⟩) | exact nds_each | (refine map_each ?_; intro x; rfl) | (refine first_map ?_; intro x; rfl) | exact first_nds | simp | (simp; omega)); done)); conv => whnf)
    | (refine Each.mapAt (by assumption) ?_; conv => whnf)
    | (refine Each.ndsAt (by assumption) ?_; conv => whnf)
    | (refine Each.at (by assumption) ?_; conv => whnf)
    | (refine Each.map (fun x hx => ?_); (try simp only [Int.toNat_natCast, Int.toNat_zero, Int.toNat_one, Int.toNat_natCast_add_one] at hx); conv => whnf)
    | (refine Each.nds (fun a b c ps hx => ?_); (try simp only [Int.toNat_natCast, Int.toNat_zero, Int.toNat_one, Int.toNat_natCast_add_one] at hx); conv => whnf)
    | (refine Each.rep ?_; conv => whnf)
    | (refine Each.drop ?_)
    | (refine Each.take (fun hi => ?_))
    | (refine Each.any (fun x hx => ?_); (try simp only [Int.toNat_natCast, Int.toNat_zero, Int.toNat_one, Int.toNat_natCast_add_one] at hx); conv => whnf)
    | (refine NilB.any (fun hn => ?_) ?_ <;> conv => whnf)
    | (refine CallWP.mono (hw) ?_; rintro r h ⟨rfl, rfl⟩; conv => whnf)
    | (refine ⟨_, bytesOfD_nums _, ?_⟩; conv => whnf)
    | (refine WP.sch (id := 30) tabOK hmix (.mob 1 (.mob 2 (.mob 3 (.mob 4 (.mob 5 (.mob 8 (.mob 9 (.mob 10 (.alt [(0, .alt [(6, .mob 11 (.mob 12 (.mob 13 (.alt [(7, .alt [(14, .alt [(15, .mob 16 (.mob 17 (.alt [(18, .alt [(19, .alt [(20, .alt [(21, .done)])])])])))])]), (14, .alt [(7, .alt [(15, .mob 16 (.mob 17 (.alt [(18, .alt [(19, .alt [(20, .alt [(21, .done)])])])])))]), (15, .mob 16 (.mob 17 (.alt [(7, .alt [(18, .alt [(19, .alt [(20, .alt [(21, .done)])])])])])))])]))))]), (6, .mob 11 (.mob 12 (.mob 13 (.alt [(0, .alt [(7, .alt [(14, .alt [(15, .mob 16 (.mob 17 (.alt [(18, .alt [(19, .alt [(20, .alt [(21, .done)])])])])))])]), (14, .alt [(7, .alt [(15, .mob 16 (.mob 17 (.alt [(18, .alt [(19, .alt [(20, .alt [(21, .done)])])])])))]), (15, .mob 16 (.mob 17 (.alt [(7, .alt [(18, .alt [(19, .alt [(20, .alt [(21, .done)])])])])])))])]), (7, .alt [(0, .alt [(14, .alt [(15, .mob 16 (.mob 17 (.alt [(18, .alt [(19, .alt [(20, .alt [(21, .done)])])])])))])]), (14, .alt [(0, .alt [(15, .mob 16 (.mob 17 (.alt [(18, .alt [(19, .alt [(20, .alt [(21, .done)])])])])))]), (15, .mob 16 (.mob 17 (.alt [(0, .alt [(18, .alt [(19, .alt [(20, .alt [(21, .done)])])])]), (18, .alt [(0, .alt [(19, .alt [(20, .alt [(21, .done)])])]), (19, .alt [(0, .alt [(20, .alt [(21, .done)])])])])])))])]), (14, .alt [(0, .alt [(7, .alt [(15, .mob 16 (.mob 17 (.alt [(18, .alt [(19, .alt [(20, .alt [(21, .done)])])])])))]), (15, .mob 16 (.mob 17 (.alt [(7, .alt [(18, .alt [(19, .alt [(20, .alt [(21, .done)])])])])])))]), (7, .alt [(0, .alt [(15, .mob 16 (.mob 17 (.alt [(18, .alt [(19, .alt [(20, .alt [(21, .done)])])])])))]), (15, .mob 16 (.mob 17 (.alt [(0, .alt [(18, .alt [(19, .alt [(20, .alt [(21, .done)])])])]), (18, .alt [(0, .alt [(19, .alt [(20, .alt [(21, .done)])])]), (19, .alt [(0, .alt [(20, .alt [(21, .done)])])])])])))]), (15, .mob 16 (.mob 17 (.alt [(0, .alt [(7, .alt [(18, .alt [(19, .alt [(20, .alt [(21, .done)])])])])]), (7, .alt [(0, .alt [(18, .alt [(19, .alt [(20, .alt [(21, .done)])])])]), (18, .alt [(0, .alt [(19, .alt [(20, .alt [(21, .done)])])]), (19, .alt [(0, .alt [(20, .alt [(21, .done)])])])])])])))])]))))]))))))))) (by kernel_rfl) ?_; conv => whnf)
    | (refine WP.sch (id := 46) tabOK hmix (.mob 1 (.mob 6 (.mob 7 (.alt [(0, .mob 2 (.mob 3 (.mob 4 (.alt [(5, .mob 8 (.mob 9 (.mob 10 (.mob 11 (.alt [(12, .done)])))))]))))])))) (by kernel_rfl) ?_; conv => whnf)
    | exact ⟨rfl, rfl⟩
    | (refine Fin.bool ?_ rfl)
    | (refine Fin.int ?_ rfl)
    | (refine Fin.str ?_ rfl)
    | (refine Fin.sl ?_ rfl)
    | exact trivial)
    exact .inr ⟨rfl, rfl⟩
end Go.VL.TreeR3
