/- Words of a machine, counted from either end. -/
import Derived.Test.YtohkfdkklphgmaaVTy4
set_option linter.unusedVariables false
set_option linter.unusedSimpArgs false
set_option linter.unusedVariables false
namespace Go.VL
open Go
def gt (v : List Int) (j : Nat) : Int := v.getD j 0
def sumTo (f : Nat → Int) : Nat → Int
  | 0 => 0
  | n + 1 => sumTo f n + f n
theorem gt_set (u : List Int) (j k : Nat) (x : Int) : gt (u.set j x) k = if k = j ∧ j < u.length then x else gt u k := by
  simp only [gt, List.getD_eq_getElem?_getD, List.getElem?_set]
  by_cases h : j = k
  · subst h
    by_cases hl : j < u.length
    · simp [hl]
    · simp [hl, List.getElem?_eq_none (Nat.le_of_not_lt hl)]
  · simp [h, Ne.symm h]
theorem sumTo_congr {f g : Nat → Int} : ∀ {n : Nat}, (∀ j, j < n → f j = g j) → sumTo f n = sumTo g n
  | 0, _ => rfl
  | n + 1, h => by rw [sumTo, sumTo, sumTo_congr fun j hj => h j (by omega), h n (by omega)]
theorem sumTo_le {f g : Nat → Int} : ∀ {n : Nat}, (∀ j, j < n → f j ≤ g j) → sumTo f n ≤ sumTo g n
  | 0, _ => by simp [sumTo]
  | n + 1, h => by have := sumTo_le (f := f) (g := g) (n := n) fun j hj => h j (by omega); have := h n (by omega); simp only [sumTo]; omega
theorem sumTo_nonneg {f : Nat → Int} : ∀ {n : Nat}, (∀ j, j < n → 0 ≤ f j) → 0 ≤ sumTo f n
  | 0, _ => by simp [sumTo]
  | n + 1, h => by have := sumTo_nonneg (f := f) (n := n) fun j hj => h j (by omega); have := h n (by omega); simp only [sumTo]; omega
theorem le_sumTo {f : Nat → Int} {i : Nat} : ∀ {n : Nat}, (∀ j, j < n → 0 ≤ f j) → i < n → f i ≤ sumTo f n
  | 0, _, h => by omega
  | n + 1, h, hi => by
    have hn := h n (by omega)
    simp only [sumTo]
    by_cases he : i = n
    · subst he; have := sumTo_nonneg (f := f) (n := i) fun j hj => h j (by omega); omega
    · have := le_sumTo (f := f) (i := i) (n := n) (fun j hj => h j (by omega)) (by omega); omega
theorem sumTo_one {f g : Nat → Int} {i : Nat} {d : Int} (ho : ∀ j, j ≠ i → f j = g j) (hi : f i = g i + d) : ∀ {n : Nat}, i < n → sumTo f n = sumTo g n + d
  | 0, h => by omega
  | n + 1, h => by
    simp only [sumTo]
    by_cases he : i = n
    · subst he
      rw [sumTo_congr fun j hj => ho j (by omega), hi]; omega
    · rw [sumTo_one ho hi (n := n) (by omega), ho n (Ne.symm he)]; omega
theorem sumTo_mul (c : Int) (f : Nat → Int) : ∀ n, sumTo (fun j => c * f j) n = c * sumTo f n
  | 0 => by simp [sumTo]
  | n + 1 => by simp only [sumTo, sumTo_mul c f n, Int.mul_add]
def addTo (nx : List Int) (to w : Int) : List Int := if to < 0 then nx else nx.set to.toNat (gt nx to.toNat + w)
def rowF (w : Int) (row nx : List Int) : List Int := row.foldl (fun nx to => addTo nx to w) nx
def sB (v : List Int) : List Int → Int
  | [] => 0
  | to :: r => (if to < 0 then 0 else gt v to.toNat) + sB v r
def stF (l : List (List Int)) (u : List Int) : Nat → List Int
  | 0 => List.replicate l.length 0
  | i + 1 => rowF (gt u i) (l.getD i []) (stF l u i)
def dotN (u v : List Int) (n : Nat) : Int := sumTo (fun j => gt u j * gt v j) n
theorem addTo_len (nx : List Int) (to w : Int) : (addTo nx to w).length = nx.length := by unfold addTo; split <;> simp
theorem rowF_len (w : Int) : ∀ (row nx : List Int), (rowF w row nx).length = nx.length
  | [], nx => rfl
  | to :: r, nx => by
    have := rowF_len w r (addTo nx to w)
    simp only [rowF, List.foldl_cons] at this ⊢
    rw [this, addTo_len]
theorem rowF_cons (w to : Int) (r nx : List Int) : rowF w (to :: r) nx = rowF w r (addTo nx to w) := rfl
theorem rowF_snoc (w to : Int) (r nx : List Int) : rowF w (r ++ [to]) nx = addTo (rowF w r nx) to w := by simp [rowF]
theorem stF_len (l : List (List Int)) (u : List Int) : ∀ i, (stF l u i).length = l.length
  | 0 => by simp [stF]
  | i + 1 => by simp only [stF, rowF_len, stF_len l u i]
theorem addTo_dot {nx v : List Int} {to w : Int} {n : Nat} (hn : nx.length = n) (ht : to < n) : dotN (addTo nx to w) v n = dotN nx v n + w * (if to < 0 then 0 else gt v to.toNat) := by
  unfold addTo
  split
  · simp
  · refine sumTo_one (i := to.toNat) (fun j hj => ?_) ?_ (by omega)
    · rw [gt_set, if_neg (by omega)]
    · rw [gt_set, if_pos ⟨rfl, by omega⟩, Int.add_mul]
theorem rowF_dot {v : List Int} {w : Int} {n : Nat} : ∀ (row nx : List Int), nx.length = n → (∀ to ∈ row, to < (n : Int)) → dotN (rowF w row nx) v n = dotN nx v n + w * sB v row
  | [], nx, _, _ => by simp [rowF, sB]
  | to :: r, nx, hn, hr => by
    rw [rowF_cons, rowF_dot r _ (by rw [addTo_len]; exact hn) (fun t ht => hr t (by simp [ht])), addTo_dot hn (hr to (by simp)), sB, Int.mul_add]
    omega
theorem stF_dot {l : List (List Int)} {u v : List Int} (hr : ∀ (i : Nat) (row : List Int), l[i]? = some row → ∀ to ∈ row, to < (l.length : Int)) : ∀ i, i ≤ l.length → dotN (stF l u i) v l.length = sumTo (fun j => gt u j * sB v (l.getD j [])) i
  | 0, _ => by
    have : sumTo (fun j => gt (stF l u 0) j * gt v j) l.length = sumTo (fun j => (0 : Int) * 0) l.length := sumTo_congr fun j hj => by
      have : gt (stF l u 0) j = 0 := by simp [stF, gt, List.getD_eq_getElem?_getD, List.getElem?_replicate, hj]
      rw [this]; simp
    rw [dotN, this, sumTo_mul]; simp [sumTo]
  | i + 1, hi => by
    have hrow : l[i]? = some (l.getD i []) := by simp [List.getD_eq_getElem?_getD, List.getElem?_eq_getElem (show i < l.length by omega)]
    rw [stF, rowF_dot _ _ (stF_len l u i) (hr i _ hrow), stF_dot hr i (by omega), sumTo]
def stB (l : List (List Int)) (v : List Int) : List Int := l.map (sB v)
theorem stB_gt {l : List (List Int)} {v : List Int} {j : Nat} (h : j < l.length) : gt (stB l v) j = sB v (l.getD j []) := by
  simp [gt, stB, List.getD_eq_getElem?_getD, List.getElem?_map, List.getElem?_eq_getElem h]
theorem adj {l : List (List Int)} {u v : List Int} (hr : ∀ (i : Nat) (row : List Int), l[i]? = some row → ∀ to ∈ row, to < (l.length : Int)) : dotN (stF l u l.length) v l.length = dotN u (stB l v) l.length := by
  rw [stF_dot hr l.length (Nat.le_refl _)]
  exact sumTo_congr fun j hj => by rw [stB_gt hj]
def fw (l : List (List Int)) : Nat → List Int
  | 0 => (List.replicate l.length 0).set 0 1
  | n + 1 => stF l (fw l n) l.length
def bw (l : List (List Int)) (b : List Bool) : Nat → List Int
  | 0 => b.map fun x => if x then 1 else 0
  | n + 1 => stB l (bw l b n)
theorem fw_len (l : List (List Int)) : ∀ n, (fw l n).length = l.length
  | 0 => by simp [fw]
  | n + 1 => stF_len _ _ _
theorem bw_len {l : List (List Int)} {b : List Bool} (h : b.length = l.length) : ∀ n, (bw l b n).length = l.length
  | 0 => by simp [bw, h]
  | n + 1 => by simp [bw, stB]
theorem shift {l : List (List Int)} {b : List Bool} (hr : ∀ (i : Nat) (row : List Int), l[i]? = some row → ∀ to ∈ row, to < (l.length : Int)) : ∀ n m, dotN (fw l n) (bw l b m) l.length = dotN (fw l 0) (bw l b (n + m)) l.length
  | 0, m => by simp
  | n + 1, m => by
    have h1 : dotN (fw l (n + 1)) (bw l b m) l.length = dotN (fw l n) (bw l b (m + 1)) l.length := adj hr
    rw [h1, shift hr n (m + 1), show n + (m + 1) = n + 1 + m by omega]
theorem fw0 {l : List (List Int)} {v : List Int} (h : 1 ≤ l.length) : dotN (fw l 0) v l.length = gt v 0 := by
  have h1 : sumTo (fun j => gt (fw l 0) j * gt v j) l.length = sumTo (fun j => (0 : Int) * 0) l.length + gt v 0 := by
    refine sumTo_one (i := 0) (fun j hj => ?_) ?_ (by omega)
    · rw [fw, gt_set, if_neg (by omega)]
      have : gt (List.replicate l.length (0 : Int)) j = 0 := by
        simp only [gt, List.getD_eq_getElem?_getD, List.getElem?_replicate]; split <;> simp
      rw [this]; simp
    · rw [fw, gt_set, if_pos ⟨rfl, by simp; omega⟩]; simp
  rw [dotN, h1, sumTo_mul]; simp
theorem count {l : List (List Int)} {b : List Bool} (h : 1 ≤ l.length) (hr : ∀ (i : Nat) (row : List Int), l[i]? = some row → ∀ to ∈ row, to < (l.length : Int)) (n : Nat) : dotN (fw l n) (bw l b 0) l.length = gt (bw l b n) 0 := by
  rw [shift hr, fw0 h]; simp
def nonneg (v : List Int) : Prop := ∀ j, 0 ≤ gt v j
def tot (v : List Int) (n : Nat) : Int := sumTo (gt v) n
theorem addTo_nonneg {nx : List Int} {to w : Int} (h : nonneg nx) (hw : 0 ≤ w) : nonneg (addTo nx to w) := fun j => by
  unfold addTo
  split
  · exact h j
  · rw [gt_set]; split
    · have := h to.toNat; omega
    · exact h j
theorem addTo_tot {nx : List Int} {to w : Int} {n : Nat} (hw : 0 ≤ w) (hn : nx.length = n) (ht : to < n) : tot (addTo nx to w) n ≤ tot nx n + w := by
  unfold addTo
  split
  · unfold tot; omega
  · refine Int.le_of_eq (sumTo_one (i := to.toNat) (fun j hj => ?_) ?_ (by omega))
    · rw [gt_set, if_neg (by omega)]
    · rw [gt_set, if_pos ⟨rfl, by omega⟩]
theorem rowF_nonneg {w : Int} (hw : 0 ≤ w) : ∀ (row nx : List Int), nonneg nx → nonneg (rowF w row nx)
  | [], nx, h => h
  | to :: r, nx, h => by rw [rowF_cons]; exact rowF_nonneg hw r _ (addTo_nonneg h hw)
theorem rowF_tot {w : Int} {n : Nat} (hw : 0 ≤ w) : ∀ (row nx : List Int), nx.length = n → (∀ to ∈ row, to < (n : Int)) → tot (rowF w row nx) n ≤ tot nx n + row.length * w
  | [], nx, _, _ => by simp [rowF]
  | to :: r, nx, hn, hr => by
    have h1 := rowF_tot hw r (addTo nx to w) (by rw [addTo_len]; exact hn) (fun t ht => hr t (by simp [ht]))
    have h2 := addTo_tot hw hn (hr to (by simp))
    rw [rowF_cons]
    simp only [List.length_cons, Int.natCast_add, Int.add_mul]
    simp only [Int.natCast_one, Int.one_mul]
    omega
theorem stF_nonneg {l : List (List Int)} {u : List Int} (h : nonneg u) : ∀ i, nonneg (stF l u i)
  | 0 => fun j => by simp only [stF, gt, List.getD_eq_getElem?_getD, List.getElem?_replicate]; split <;> simp
  | i + 1 => rowF_nonneg (h i) _ _ (stF_nonneg h i)
theorem stF_tot {l : List (List Int)} {u : List Int} (h : nonneg u) (hr : ∀ (i : Nat) (row : List Int), l[i]? = some row → row.length = 8 ∧ ∀ to ∈ row, to < (l.length : Int)) : ∀ i, i ≤ l.length → tot (stF l u i) l.length ≤ 8 * sumTo (gt u) i
  | 0, _ => by
    have : sumTo (gt (stF l u 0)) l.length = sumTo (fun j => (0 : Int) * 0) l.length := sumTo_congr fun j hj => by
      simp [stF, gt, List.getD_eq_getElem?_getD, hj]
    rw [tot, this, sumTo_mul]; simp [sumTo]
  | i + 1, hi => by
    have hrow : l[i]? = some (l.getD i []) := by simp [List.getD_eq_getElem?_getD, List.getElem?_eq_getElem (show i < l.length by omega)]
    obtain ⟨h8, hlt⟩ := hr i _ hrow
    have h1 := rowF_tot (h i) (l.getD i []) (stF l u i) (stF_len l u i) hlt
    have h2 := stF_tot h hr i (by omega)
    rw [h8] at h1
    simp only [stF, sumTo]
    omega
theorem sum_take {u : List Int} (h : nonneg u) {i n : Nat} (hi : i ≤ n) : sumTo (gt u) i ≤ sumTo (gt u) n := by
  induction n with
  | zero => have : i = 0 := by omega
            subst this; omega
  | succ n ih =>
    by_cases he : i = n + 1
    · subst he; omega
    · have := ih (by omega); have := h n; simp only [sumTo]; omega
theorem fw_nonneg (l : List (List Int)) : ∀ n, nonneg (fw l n)
  | 0 => fun j => by
    rw [fw, gt_set]; split
    · omega
    · simp only [gt, List.getD_eq_getElem?_getD, List.getElem?_replicate]; split <;> simp
  | n + 1 => stF_nonneg (fw_nonneg l n) _
theorem fw_tot {l : List (List Int)} (h1 : 1 ≤ l.length) (hr : ∀ (i : Nat) (row : List Int), l[i]? = some row → row.length = 8 ∧ ∀ to ∈ row, to < (l.length : Int)) : ∀ n, tot (fw l n) l.length ≤ 8 ^ n
  | 0 => by
    have h1 : sumTo (gt (fw l 0)) l.length = sumTo (fun j => (0 : Int) * 0) l.length + 1 := by
      refine sumTo_one (i := 0) (fun j hj => ?_) ?_ (by omega)
      · rw [fw, gt_set, if_neg (by omega)]
        simp only [gt, List.getD_eq_getElem?_getD, List.getElem?_replicate]; split <;> simp
      · rw [fw, gt_set, if_pos ⟨rfl, by simp; omega⟩]; simp
    rw [tot, h1, sumTo_mul]; simp
  | n + 1 => by
    have h2 := fw_tot h1 hr n
    have h3 := stF_tot (fw_nonneg l n) hr l.length (Nat.le_refl _)
    rw [fw, Int.pow_succ]
    unfold tot at *
    omega
theorem sB_rng {v : List Int} {B : Int} (h : ∀ j, 0 ≤ gt v j ∧ gt v j ≤ B) : ∀ row : List Int, 0 ≤ sB v row ∧ sB v row ≤ row.length * B
  | [] => by simp [sB]
  | to :: r => by
    have h1 := sB_rng h r
    have h2 := h to.toNat
    have h3 := h 0
    simp only [sB, List.length_cons, Int.natCast_add, Int.add_mul]
    simp only [Int.natCast_one, Int.one_mul]
    split <;> omega
theorem bw_rng {l : List (List Int)} {b : List Bool} (hr : ∀ (i : Nat) (row : List Int), l[i]? = some row → row.length = 8) : ∀ n j, 0 ≤ gt (bw l b n) j ∧ gt (bw l b n) j ≤ 8 ^ n
  | 0, j => by
    simp only [bw, gt, List.getD_eq_getElem?_getD, List.getElem?_map]
    cases b[j]? with
    | none => simp
    | some x => cases x <;> simp
  | n + 1, j => by
    have ih := bw_rng (b := b) hr n
    by_cases hj : j < l.length
    · have hrow : l[j]? = some (l.getD j []) := by simp [List.getD_eq_getElem?_getD, List.getElem?_eq_getElem hj]
      have h8 := hr j _ hrow
      have h1 := sB_rng ih (l.getD j [])
      rw [bw, stB_gt hj, Int.pow_succ]
      rw [h8] at h1
      omega
    · have h0 : gt (bw l b (n + 1)) j = 0 := by simp [bw, stB, gt, List.getD_eq_getElem?_getD, List.getElem?_eq_none (show l.length ≤ j by omega)]
      rw [h0]
      exact ⟨by omega, Int.pow_nonneg (by omega)⟩
def vI (v : List Int) (n i : Nat) (x : Int) : List Int := v.take i ++ x :: List.replicate (n - i - 1) 0
def vS (v : List Int) (n i : Nat) : List Int := v.take i ++ List.replicate (n - i) 0
theorem vS_eq {v : List Int} {n i : Nat} (h : i < n) : vS v n i = vI v n i 0 := by
  unfold vS vI
  obtain ⟨m, hm⟩ : ∃ m, n - i = m + 1 := ⟨n - i - 1, by omega⟩
  rw [hm, List.replicate_succ]; rfl
theorem vS_succ {v : List Int} {n i : Nat} {y : Int} (h : v[i]? = some y) : vI v n i y = vS v n (i + 1) := by
  unfold vS vI
  rw [List.take_add_one, h, show n - (i + 1) = n - i - 1 by omega]; simp
theorem vS_end {v : List Int} {n : Nat} (h : v.length = n) : vS v n n = v := by simp [vS, ← h]
theorem vS_zero (v : List Int) (n : Nat) : vS v n 0 = List.replicate n 0 := by simp [vS]
theorem vI_set {v : List Int} {n i : Nat} {x y : Int} (h : i ≤ v.length) : (vI v n i x).set i y = vI v n i y := by
  unfold vI
  have hl : (v.take i).length = i := by simp; omega
  rw [List.set_append_right _ _ (by omega), hl]; simp
theorem vI_get {v : List Int} {n i : Nat} {x : Int} (h : i ≤ v.length) : (vI v n i x)[i]? = some x := by
  unfold vI
  have hl : (v.take i).length = i := by simp; omega
  rw [List.getElem?_append_right (by omega), hl]; simp
theorem vI_len {v : List Int} {n i : Nat} {x : Int} (h : i ≤ v.length) (hn : i < n) : (vI v n i x).length = n := by
  unfold vI; simp; omega
theorem sB_snoc (v : List Int) (to : Int) : ∀ r : List Int, sB v (r ++ [to]) = sB v r + (if to < 0 then 0 else gt v to.toNat)
  | [] => by simp [sB]
  | x :: r => by simp only [List.cons_append, sB, sB_snoc v to r]; omega
end Go.VL
