/- The law MarksNests. -/
import Derived.Test.YtpdieheihbdogaaDoorNestLaw
set_option linter.unusedVariables false
set_option linter.unusedSimpArgs false
namespace Go.VL.MarksNests
open Go Go.Proofs Go.VL Go.VL.MarksNorm Go.VL.MarksRef Go.VL.NestLaw Go.VL.NestP Go.VL.Nodes
set_option maxRecDepth 100000
def szN (ns : List Str) : Nat := (ns.map fun n => n.length + 4).sum
theorem nds_one (a : Str) (b : List Attr) (c : Str) (ps : List Nd) : szLL (nds [.mk a b c ps]) = a.length + c.length + szLL (b.map Attr.d) + szLL (nds ps) + 4 := by
  simp [nds, Nd.d, szLL, szL, szD]; omega
theorem addNd_sz : ∀ (es : List Nd) (ns : List Str) (tx : Str) (o : Nat), szLL (nds (addNd es ns tx o)) ≤ szLL (nds es) + szN ns + tx.length + 4
  | es, [], tx, o => by
    have : szLL (nds (addNd es [] tx o)) = szLL (nds es) + tx.length + 4 := by
      rw [addNd, nds_app, szLL_app, nds_one]; simp [nds, szLL]; omega
    omega
  | es, n :: ns, tx, 0 => by
    have ih := addNd_sz [] ns tx 0
    rw [addNd, nds_app, szLL_app, nds_one]
    simp [nds, szLL, szN] at ih ⊢
    omega
  | es, n :: ns, tx, o + 1 => by
    rcases List.eq_nil_or_concat es with rfl | ⟨pre, nd, rfl⟩
    · simp [addNd, nds, szLL]
    · obtain ⟨a, b, c, ps⟩ := nd
      have ih := addNd_sz ps ns tx o
      rw [List.concat_eq_append, addNd_last, nds_app, szLL_app, nds_one, nds_app, szLL_app, nds_one]
      simp [szN] at ih ⊢
      omega
theorem nstF_sz (d : Nat) : ∀ (l : List Run) (a : List Nd × List Str), szLL (nds (nstF d a l).1) ≤ szLL (nds a.1) + (l.map fun r => szN (r.marks.drop d) + r.text.length + 4).sum
  | [], a => by simp [nstF]
  | r :: l, a => by
    have ih := nstF_sz d l (nstS d a r)
    have h := addNd_sz a.1 (r.marks.drop d) r.text (cpl a.2 r.marks - d)
    unfold nstF at *
    rw [List.foldl_cons]
    simp only [List.map_cons, List.sum_cons]
    rw [nstS] at ih ⊢
    dsimp only at ih
    omega
theorem sum_le (M : Nat) : ∀ (l : List Run), (∀ r ∈ l, szN r.marks ≤ M) → (l.map fun r => szN (r.marks.drop 0) + r.text.length + 4).sum ≤ l.length * (M + 4) + totM l
  | [], _ => by simp
  | r :: l, h => by
    have ih := sum_le M l (fun q hq => h q (by simp [hq]))
    have := h r (by simp)
    simp only [List.map_cons, List.sum_cons, List.drop_zero, totM, List.length_cons] at ih ⊢
    rw [Nat.add_mul]
    omega
theorem szN_filter (f : Str → Bool) : ∀ l : List Str, szN (l.filter f) ≤ szN l
  | [] => by simp [szN]
  | x :: l => by
    have ih := szN_filter f l
    rw [List.filter_cons]
    split <;> simp [szN] at ih ⊢ <;> omega
theorem norm_facts {marks : List Str} {l : List Run} (h : (normA marks l).2 = 0) : marks.length ≤ 4 ∧ (normA marks l).1.length ≤ 60 ∧ totM (normA marks l).1 ≤ totM l ∧ ∀ r ∈ (normA marks l).1, szN r.marks ≤ szN marks ∧ r.marks.length ≤ 4 := by
  obtain ⟨s1, s2⟩ := normA_small marks l
  by_cases h0 : fltM marks l = 0
  · obtain ⟨c1, c2⟩ := fltM_zero h0
    have c3 := (chkM_nodup c1).1
    refine ⟨c3, by omega, ?_, fun r hr => ⟨?_, by have := s2 r hr; omega⟩⟩
    · rw [normA_ok h0]
      unfold normF
      split
      · have := normM_tot marks l l.length (Nat.le_refl _)
        rw [List.take_length] at this
        dsimp only; omega
      · simp [totM]
    · rw [normA_ok h0] at hr
      unfold normF at hr
      split at hr
      · have h2 := normM_marks marks l l.length (Nat.le_refl _)
        rw [List.take_length] at h2
        obtain ⟨ms, e⟩ := h2 r hr
        rw [e]; exact szN_filter _ _
      · simp at hr
  · rw [normA_bad h0] at h
    exact absurd h h0
theorem wtN_le : ∀ (l : List Run), (∀ q ∈ l, q.marks.length ≤ 4) → wtN 0 l ≤ l.length * 5
  | [], _ => by simp [wtN]
  | r :: l, h => by
    have ih := wtN_le l (fun q hq => h q (by simp [hq]))
    have := h r (by simp)
    rw [wtN_cons]; simp; omega
theorem szN_le (ms : List Str) (h : ms.length ≤ 4) : szN ms ≤ szLL (ms.map iS) + 12 := by
  have : ∀ ms : List Str, szN ms = szLL (ms.map iS) + 3 * ms.length := by
    intro ms
    induction ms with
    | nil => simp [szN, szLL]
    | cons a l ih => simp [szN, szLL, iS, szL, szD] at ih ⊢; omega
  rw [this]; omega
attribute [local irreducible] CallWP WP Need Br Each NilB fit Both nstV
theorem nestTop (marks : List Str) (l : List Run) (hm : marks.length < 2 ^ 39) (hmn : ∀ m ∈ marks, m.length < 2 ^ 40) (hl : l.length < 2 ^ 39) (ht : totM l < 2 ^ 40) (hn : ∀ r ∈ l, r.marks.length < 2 ^ 40) :
    CallWP Tryd.prog 4 [(.d (.sl (marks.map iS))), (.d (.sl (l.map Run.d)))] [] (fun r h => r = .tup [(.d (.sl (nds (nstV 0 (normA marks l).1)))), (.d (.int .i64 ((normA marks l).2)))] ∧ h = []) := by
  have hN := NormC marks l (by omega) hmn (by omega) ht hn
  by_cases h0 : (normA marks l).2 = 0
  · obtain ⟨f1, f2, f3, f4⟩ := norm_facts h0
    have hw := wtN_le _ (fun q hq => (f4 q hq).2)
    have hC := nestC (wtN 0 (normA marks l).1 + 1) [] (normA marks l).1 (Nat.lt_succ_self _) (by omega) (by omega) (by simp) (fun q hq => ⟨⟨q.marks, rfl⟩, by have := (f4 q hq).2; omega⟩)
    have hC2 : CallWP Tryd.prog 8 [(.d (.sl ((normA marks l).1.map Run.d))), (.d (.int .i64 (0)))] [] (fun r h => r = (.d (.sl (nds (nstV 0 (normA marks l).1)))) ∧ h = []) := hC
    rw [h0] at hN ⊢
    (refine CallWP.go tabOK Tryd.func4 0 19 rfl rfl rfl rfl ?_; conv => whnf)
    repeat' (first
    | (refine Br.tt ?_; conv => whnf)
    | (refine Br.ff ?_; conv => whnf)
    | (refine Both.mk ?_ ?_ <;> conv => whnf)
    | (refine Br.not ?_)
    | (refine Need.mk ?_ ?_; (focus ((first | omega | exact ⟨by omega, by omega⟩ | rfl | exact trivial | assumption | (simp only [List.length_map, List.length_append, List.length_take, List.length_drop, List.length_cons, List.length_nil, List.length_replicate, List.length_set, List.length_reverse, nds_len, numsD_length]; omega) | (simp only [List.length_map, List.length_append, List.length_take, List.length_drop, List.length_cons, List.length_nil, List.length_replicate, List.length_set, List.length_reverse, nds_len, numsD_length]; exact ⟨by omega, by omega⟩) | exact nds_each | (refine map_each ?_; intro x; rfl) | (refine first_map ?_; intro x; rfl) | exact first_nds | simp | (simp; omega)); done)); conv => whnf)
    | (refine Br.t (by assumption) ?_; conv => whnf)
    | (refine Br.f (by assumption) ?_; conv => whnf)
    | (refine Br.self ?_; conv => whnf)
    | (refine Br.decT (by assumption) ?_; conv => whnf)
    | (refine Br.decF (by assumption) ?_; conv => whnf)
    | (refine Br.eqT (by assumption) ?_; conv => whnf)
    | (refine Br.eqF (by assumption) ?_; conv => whnf)
    | (refine Br.dec (fun hc => ?_) (fun hc => ?_) <;> (try simp only [List.length_map, List.length_append, List.length_take, List.length_drop, List.length_cons, List.length_nil, List.length_replicate, List.length_set, List.length_reverse, nds_len, numsD_length] at hc) <;> first | (exfalso; omega) | exact absurd trivial hc | exact absurd rfl hc | conv => whnf)
    | (refine Br.eq (fun hc => ?_) (fun hc => ?_) <;> first | (exfalso; omega) | exact absurd trivial hc | exact absurd rfl hc | conv => whnf)
    | (refine Br.ne (fun hc => ?_) (fun hc => ?_) <;> first | (exfalso; omega) | exact absurd trivial hc | exact absurd rfl hc | conv => whnf)
    | (with_reducible refine Br.and ?_)
    | (with_reducible refine Br.or ?_)
    | (refine Br.any (fun hc => ?_) (fun hc => ?_) <;> conv => whnf)
    | (refine Fit.inl ?_ ?_; (focus ((first | omega | exact ⟨by omega, by omega⟩ | rfl | exact trivial | assumption | (simp only [List.length_map, List.length_append, List.length_take, List.length_drop, List.length_cons, List.length_nil, List.length_replicate, List.length_set, List.length_reverse, nds_len, numsD_length]; omega) | (simp only [List.length_map, List.length_append, List.length_take, List.length_drop, List.length_cons, List.length_nil, List.length_replicate, List.length_set, List.length_reverse, nds_len, numsD_length]; exact ⟨by omega, by omega⟩) | exact nds_each | (refine map_each ?_; intro x; rfl) | (refine first_map ?_; intro x; rfl) | exact first_nds | simp | (simp; omega)); done)); conv => whnf)
    | (refine Each.mapAt (by assumption) ?_; conv => whnf)
    | (refine Each.ndsAt (by assumption) ?_; conv => whnf)
    | (refine Each.at (by assumption) ?_; conv => whnf)
    | (refine Each.map (fun x hx => ?_); (try simp only [Int.toNat_natCast, Int.toNat_zero, Int.toNat_one, Int.toNat_natCast_add_one] at hx); conv => whnf)
    | (refine Each.nds (fun a b c ps hx => ?_); (try simp only [Int.toNat_natCast, Int.toNat_zero, Int.toNat_one, Int.toNat_natCast_add_one] at hx); conv => whnf)
    | (refine Each.rep ?_; conv => whnf)
    | (refine Each.drop ?_)
    | (refine Each.take (fun hi => ?_))
    | (refine Each.any (fun x hx => ?_); (try simp only [Int.toNat_natCast, Int.toNat_zero, Int.toNat_one, Int.toNat_natCast_add_one] at hx); conv => whnf)
    | (refine NilB.any (fun hn => ?_) ?_ <;> conv => whnf)
    | (refine CallWP.mono (hN) ?_; rintro r h ⟨rfl, rfl⟩; conv => whnf)
    | (refine CallWP.mono (hC2) ?_; rintro r h ⟨rfl, rfl⟩; conv => whnf)
    | (refine ⟨_, bytesOfD_nums _, ?_⟩; conv => whnf)
    | exact ⟨rfl, rfl⟩
    | (refine Fin.bool ?_ rfl)
    | (refine Fin.int ?_ rfl)
    | (refine Fin.str ?_ rfl)
    | (refine Fin.sl ?_ rfl)
    | exact trivial)
  · have e := normA_zero h0
    rw [e] at hN ⊢
    rw [nstV_nil]
    generalize (normA marks l).2 = c at *
    refine CallWP.val (Q := fun r h => r = .tup [.nils, (.d (.int .i64 (c)))] ∧ h = []) ?_ (by rintro r h ⟨rfl, rfl⟩; exact ⟨rfl, rfl⟩)
    (refine CallWP.go tabOK Tryd.func4 0 19 rfl rfl rfl rfl ?_; conv => whnf)
    repeat' (first
    | (refine Br.tt ?_; conv => whnf)
    | (refine Br.ff ?_; conv => whnf)
    | (refine Both.mk ?_ ?_ <;> conv => whnf)
    | (refine Br.not ?_)
    | (refine Need.mk ?_ ?_; (focus ((first | omega | exact ⟨by omega, by omega⟩ | rfl | exact trivial | assumption | (simp only [List.length_map, List.length_append, List.length_take, List.length_drop, List.length_cons, List.length_nil, List.length_replicate, List.length_set, List.length_reverse, nds_len, numsD_length]; omega) | (simp only [List.length_map, List.length_append, List.length_take, List.length_drop, List.length_cons, List.length_nil, List.length_replicate, List.length_set, List.length_reverse, nds_len, numsD_length]; exact ⟨by omega, by omega⟩) | exact nds_each | (refine map_each ?_; intro x; rfl) | (refine first_map ?_; intro x; rfl) | exact first_nds | simp | (simp; omega)); done)); conv => whnf)
    | (refine Br.t (by assumption) ?_; conv => whnf)
    | (refine Br.f (by assumption) ?_; conv => whnf)
    | (refine Br.self ?_; conv => whnf)
    | (refine Br.decT (by assumption) ?_; conv => whnf)
    | (refine Br.decF (by assumption) ?_; conv => whnf)
    | (refine Br.eqT (by assumption) ?_; conv => whnf)
    | (refine Br.eqF (by assumption) ?_; conv => whnf)
    | (refine Br.dec (fun hc => ?_) (fun hc => ?_) <;> (try simp only [List.length_map, List.length_append, List.length_take, List.length_drop, List.length_cons, List.length_nil, List.length_replicate, List.length_set, List.length_reverse, nds_len, numsD_length] at hc) <;> first | (exfalso; omega) | exact absurd trivial hc | exact absurd rfl hc | conv => whnf)
    | (refine Br.eq (fun hc => ?_) (fun hc => ?_) <;> first | (exfalso; omega) | exact absurd trivial hc | exact absurd rfl hc | conv => whnf)
    | (refine Br.ne (fun hc => ?_) (fun hc => ?_) <;> first | (exfalso; omega) | exact absurd trivial hc | exact absurd rfl hc | conv => whnf)
    | (with_reducible refine Br.and ?_)
    | (with_reducible refine Br.or ?_)
    | (refine Br.any (fun hc => ?_) (fun hc => ?_) <;> conv => whnf)
    | (refine Fit.inl ?_ ?_; (focus ((first | omega | exact ⟨by omega, by omega⟩ | rfl | exact trivial | assumption | (simp only [List.length_map, List.length_append, List.length_take, List.length_drop, List.length_cons, List.length_nil, List.length_replicate, List.length_set, List.length_reverse, nds_len, numsD_length]; omega) | (simp only [List.length_map, List.length_append, List.length_take, List.length_drop, List.length_cons, List.length_nil, List.length_replicate, List.length_set, List.length_reverse, nds_len, numsD_length]; exact ⟨by omega, by omega⟩) | exact nds_each | (refine map_each ?_; intro x; rfl) | (refine first_map ?_; intro x; rfl) | exact first_nds | simp | (simp; omega)); done)); conv => whnf)
    | (refine Each.mapAt (by assumption) ?_; conv => whnf)
    | (refine Each.ndsAt (by assumption) ?_; conv => whnf)
    | (refine Each.at (by assumption) ?_; conv => whnf)
    | (refine Each.map (fun x hx => ?_); (try simp only [Int.toNat_natCast, Int.toNat_zero, Int.toNat_one, Int.toNat_natCast_add_one] at hx); conv => whnf)
    | (refine Each.nds (fun a b c ps hx => ?_); (try simp only [Int.toNat_natCast, Int.toNat_zero, Int.toNat_one, Int.toNat_natCast_add_one] at hx); conv => whnf)
    | (refine Each.rep ?_; conv => whnf)
    | (refine Each.drop ?_)
    | (refine Each.take (fun hi => ?_))
    | (refine Each.any (fun x hx => ?_); (try simp only [Int.toNat_natCast, Int.toNat_zero, Int.toNat_one, Int.toNat_natCast_add_one] at hx); conv => whnf)
    | (refine NilB.any (fun hn => ?_) ?_ <;> conv => whnf)
    | (refine CallWP.mono (hN) ?_; rintro r h ⟨rfl, rfl⟩; conv => whnf)
    | (refine ⟨_, bytesOfD_nums _, ?_⟩; conv => whnf)
    | exact ⟨rfl, rfl⟩
    | (refine Fin.bool ?_ rfl)
    | (refine Fin.int ?_ rfl)
    | (refine Fin.str ?_ rfl)
    | (refine Fin.sl ?_ rfl)
    | exact trivial)
theorem out_ok (marks : List Str) (l : List Run) (hs : szLL (marks.map iS) ≤ 1048576) (ht : totM l ≤ 1048576) : attrsOk (nstV 0 (normA marks l).1) := by
  unfold attrsOk
  by_cases h0 : (normA marks l).2 = 0
  · obtain ⟨f1, f2, f3, f4⟩ := norm_facts h0
    have h1 := nstF_sz 0 (normA marks l).1 ([], [])
    have h2 := sum_le (szN marks) (normA marks l).1 (fun r hr => (f4 r hr).1)
    have h3 := szN_le marks f1
    have h4 : szLL (nds (nstV 0 (normA marks l).1)) = szLL (nds (nstF 0 ([], []) (normA marks l).1).1) := by unfold nstV; rfl
    have h5 : (normA marks l).1.length * (szN marks + 4) ≤ 60 * (1048588 + 4) := Nat.mul_le_mul f2 (by omega)
    have h6 : szLL (nds ([] : List Nd)) = 0 := rfl
    dsimp only at h1
    omega
  · rw [normA_zero h0, nstV_nil]
    simp [nds, szLL]
theorem law (marks : List Str) (l : List Run) (hs : szL [.sl (marks.map iS)] ≤ 1048576) (hs2 : szL [.sl (l.map Run.d)] ≤ 1048576) : CallWP Tryd.prog 3 [(.d (.sl (marks.map iS))), (.d (.sl (l.map Run.d)))] [] (fun r h => r = .d (.bool true)) := by
  simp only [szL, szD] at hs hs2
  have hm : marks.length < 2 ^ 39 := by have := len_iS marks; omega
  have hmn : ∀ m ∈ marks, m.length < 2 ^ 40 := fun m hm => by have := mem_iS hm; omega
  have hl : l.length < 2 ^ 39 := by have := len_run l; omega
  have ht : totM l ≤ 1048576 := by have := totM_sz l; omega
  have hn : ∀ r ∈ l, r.marks.length < 2 ^ 40 := fun r hr => by have := mem_run hr; have := len_iS r.marks; omega
  have hok := out_ok marks l (by omega) ht
  (refine CallWP.go tabOK Tryd.func3 0 29 rfl rfl rfl rfl ?_; conv => whnf)
  repeat' (first
    | (refine Br.tt ?_; conv => whnf)
    | (refine Br.ff ?_; conv => whnf)
    | (refine Both.mk ?_ ?_ <;> conv => whnf)
    | (refine Br.not ?_)
    | (refine Need.mk ?_ ?_; (focus ((first | omega | exact ⟨by omega, by omega⟩ | rfl | exact trivial | assumption | (simp only [List.length_map, List.length_append, List.length_take, List.length_drop, List.length_cons, List.length_nil, List.length_replicate, List.length_set, List.length_reverse, nds_len, numsD_length]; omega) | (simp only [List.length_map, List.length_append, List.length_take, List.length_drop, List.length_cons, List.length_nil, List.length_replicate, List.length_set, List.length_reverse, nds_len, numsD_length]; exact ⟨by omega, by omega⟩) | exact nds_each | (refine map_each ?_; intro x; rfl) | (refine first_map ?_; intro x; rfl) | exact first_nds | simp | (simp; omega)); done)); conv => whnf)
    | (refine Br.t (by assumption) ?_; conv => whnf)
    | (refine Br.f (by assumption) ?_; conv => whnf)
    | (refine Br.self ?_; conv => whnf)
    | (refine Br.decT (by assumption) ?_; conv => whnf)
    | (refine Br.decF (by assumption) ?_; conv => whnf)
    | (refine Br.eqT (by assumption) ?_; conv => whnf)
    | (refine Br.eqF (by assumption) ?_; conv => whnf)
    | (refine Br.dec (fun hc => ?_) (fun hc => ?_) <;> (try simp only [List.length_map, List.length_append, List.length_take, List.length_drop, List.length_cons, List.length_nil, List.length_replicate, List.length_set, List.length_reverse, nds_len, numsD_length] at hc) <;> first | (exfalso; omega) | exact absurd trivial hc | exact absurd rfl hc | conv => whnf)
    | (refine Br.eq (fun hc => ?_) (fun hc => ?_) <;> first | (exfalso; omega) | exact absurd trivial hc | exact absurd rfl hc | conv => whnf)
    | (refine Br.ne (fun hc => ?_) (fun hc => ?_) <;> first | (exfalso; omega) | exact absurd trivial hc | exact absurd rfl hc | conv => whnf)
    | (with_reducible refine Br.and ?_)
    | (with_reducible refine Br.or ?_)
    | (refine Br.any (fun hc => ?_) (fun hc => ?_) <;> conv => whnf)
    | (refine Fit.inl ?_ ?_; (focus ((first | omega | exact ⟨by omega, by omega⟩ | rfl | exact trivial | assumption | (simp only [List.length_map, List.length_append, List.length_take, List.length_drop, List.length_cons, List.length_nil, List.length_replicate, List.length_set, List.length_reverse, nds_len, numsD_length]; omega) | (simp only [List.length_map, List.length_append, List.length_take, List.length_drop, List.length_cons, List.length_nil, List.length_replicate, List.length_set, List.length_reverse, nds_len, numsD_length]; exact ⟨by omega, by omega⟩) | exact nds_each | (refine map_each ?_; intro x; rfl) | (refine first_map ?_; intro x; rfl) | exact first_nds | simp | (simp; omega)); done)); conv => whnf)
    | (refine Each.mapAt (by assumption) ?_; conv => whnf)
    | (refine Each.ndsAt (by assumption) ?_; conv => whnf)
    | (refine Each.at (by assumption) ?_; conv => whnf)
    | (refine Each.map (fun x hx => ?_); (try simp only [Int.toNat_natCast, Int.toNat_zero, Int.toNat_one, Int.toNat_natCast_add_one] at hx); conv => whnf)
    | (refine Each.nds (fun a b c ps hx => ?_); (try simp only [Int.toNat_natCast, Int.toNat_zero, Int.toNat_one, Int.toNat_natCast_add_one] at hx); conv => whnf)
    | (refine Each.rep ?_; conv => whnf)
    | (refine Each.drop ?_)
    | (refine Each.take (fun hi => ?_))
    | (refine Each.any (fun x hx => ?_); (try simp only [Int.toNat_natCast, Int.toNat_zero, Int.toNat_one, Int.toNat_natCast_add_one] at hx); conv => whnf)
    | (refine NilB.any (fun hn => ?_) ?_ <;> conv => whnf)
    | (refine CallWP.mono (nestTop marks l hm hmn hl (by omega) hn) ?_; rintro r h ⟨rfl, rfl⟩; conv => whnf)
    | (refine CallWP.mono (nestR marks l hm hmn hl (by omega) hn) ?_; rintro r h ⟨rfl, rfl⟩; conv => whnf)
    | (refine CallWP.mono (sameNodes _ _ (Nat.lt_succ_self _) hok) ?_; rintro r h ⟨rfl, rfl⟩; conv => whnf)
    | (refine ⟨_, bytesOfD_nums _, ?_⟩; conv => whnf)
    | exact ⟨rfl, rfl⟩
    | (refine Fin.bool ?_ rfl)
    | (refine Fin.int ?_ rfl)
    | (refine Fin.str ?_ rfl)
    | (refine Fin.sl ?_ rfl)
    | exact trivial)
  all_goals simp
end Go.VL.MarksNests
