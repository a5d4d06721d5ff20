/- tree.open's nodes, walked. -/
import Derived.Test.YtefgchjjnobhjaaDoorBtStart
set_option linter.unusedVariables false
set_option linter.unusedSimpArgs false
namespace Go.VL.BtNodes
open Go Go.Proofs Go.VL Go.RowKit Go.VL.BtA Go.VL.BtFind Go.VL.BtB Go.VL.BtChars Go.VL.BtClone Go.VL.BtStart
set_option maxRecDepth 100000
def NN (N0 : Nat → Prop) (v : Value) (b : Nat) : Prop := N0 b ∨ v.ownBlock = some b
def cellsD (l : List Nd) : List D := (nds l).flatten
/-- Nodes that were put into a row of one's own. -/
def Out (n0 : Nat) (N0 : Nat → Prop) (W : World) (v : Value) (l : List Nd) : Prop := ∃ xs, W.ownsRow n0 47 4 v l.length xs ∧ ∀ (j : Nat) (x : D), (cellsD l)[j]? = some x → ∃ u, xs[j]? = some u ∧ RepD W (NN N0 v) u x
theorem cellsD_snoc (l : List Nd) (a : Str) (b : List Attr) (c : Str) (ps : List Nd) : cellsD (l ++ [.mk a b c ps]) = cellsD l ++ [.str a, .sl (b.map Attr.d), .str c, .sl (nds ps)] := by
  unfold cellsD
  induction l with
  | nil => simp [nds, Nd.d]
  | cons n l ih =>
    rw [List.cons_append, nds, nds, List.flatten_cons, List.flatten_cons, ih, List.append_assoc]
theorem cellsD_len (l : List Nd) : (cellsD l).length = l.length * 4 := by
  unfold cellsD
  induction l with
  | nil => simp [nds]
  | cons n l ih =>
    obtain ⟨a, b, c, ps⟩ := n
    rw [nds, List.flatten_cons, List.length_append, ih]
    simp [Nd.d]; omega
theorem cellsD_at : ∀ {l : List Nd} {i j : Nat} {x : D}, ((nds l)[i]?).bind (·[j]?) = some x → (cellsD l)[i * 4 + j]? = some x ∧ j < 4
  | [], i, j, x, h => by simp [nds] at h
  | .mk a b c ps :: l, 0, j, x, h => by
    simp only [nds, Nd.d, List.getElem?_cons_zero, Option.bind_some] at h
    have hj := (List.getElem?_eq_some_iff.1 h).1
    simp at hj
    refine ⟨?_, hj⟩
    unfold cellsD
    rw [nds, List.flatten_cons, Nat.zero_mul, Nat.zero_add, List.getElem?_append_left (by simpa [Nd.d] using hj)]
    exact h
  | .mk a b c ps :: l, i + 1, j, x, h => by
    simp only [nds, List.getElem?_cons_succ] at h
    obtain ⟨ih, hj⟩ := cellsD_at h
    refine ⟨?_, hj⟩
    unfold cellsD at ih ⊢
    rw [nds, List.flatten_cons, List.getElem?_append_right (by simp [Nd.d]; omega), ← ih]
    congr 1
    simp [Nd.d]; omega
theorem nds_four {l : List Nd} {e : List D} (h : e ∈ nds l) : e.length = 4 := by
  induction l with
  | nil => simp [nds] at h
  | cons n l ih =>
    obtain ⟨a, b, c, ps⟩ := n
    rw [nds] at h
    rcases List.mem_cons.1 h with rfl | h
    · simp [Nd.d]
    · exact ih h
theorem nds_len' (l : List Nd) : (nds l).length = l.length := by
  induction l with
  | nil => rfl
  | cons n l ih => rw [nds, List.length_cons, ih, List.length_cons]
section
variable {n0 : Nat} {N0 : Nat → Prop} {W W' : World} {v : Value} {l : List Nd}
theorem Out.start (W : World) : Out n0 N0 W (.slice none 0 0) [] := ⟨[], World.ownsRow_nil _ _ _ _, fun j x h => by simp [cellsD, nds] at h⟩
theorem Out.below (h : Out n0 N0 W v l) (hb : Below W.heap.size W W') : Out n0 N0 W' v l := by
  obtain ⟨xs, h1, h2⟩ := h
  refine ⟨xs, h1.kept (grown_of_below hb none) (by cases v.ownBlock <;> simp), fun j x hx => ?_⟩
  obtain ⟨u, hu, hr⟩ := h2 j x hx
  exact ⟨u, hu, hr.ext ⟨hb.size, fun b hb2 hn => ⟨hn, hb.block b hb2⟩⟩⟩
/-- One more. -/
theorem Out.snoc (h : Out n0 N0 W v l) {W3 : World} {o : Obj} {v' : Value} {a : Str} {b : List Attr} {c : Str} {ps : List Nd} {ua up : Value} {xs : List Value} (hxs : W.ownsRow n0 47 4 v l.length xs) (hr : W3.ownsRow n0 47 4 v' (l.length + 1) (xs ++ [strV a, ua, strV c, up])) (hg : (W.alloc o).grownBy W3 v.ownBlock)
    (hv : v'.ownBlock = v.ownBlock ∨ ∃ b, v'.ownBlock = some b ∧ W.heap.size < b) (ra : RepD W (NN N0 v) ua (.sl (b.map Attr.d))) (rp : RepD W (NN N0 v) up (.sl (nds ps))) : Out n0 N0 W3 v' (l ++ [.mk a b c ps]) := by
  obtain ⟨xs2, h1, h2⟩ := h
  obtain rfl : xs2 = xs := by
    rcases h1.2 with ⟨e1, e2⟩ | ⟨g, cap, cur, rfl, k1, k2, k3, k4, k5, k6⟩
    · have q1 := h1.1
      have q2 := hxs.1
      rw [e2] at q1 q2
      rw [List.length_eq_zero_iff.1 (by omega : xs2.length = 0), List.length_eq_zero_iff.1 (by omega : xs.length = 0)]
    · rcases hxs.2 with ⟨e1, _⟩ | ⟨g', cap', cur', e1, _, k2', _, _, _, k6'⟩
      · cases e1
      · simp only [Value.slice.injEq, Option.some.injEq, Addr.mk.injEq] at e1
        obtain ⟨⟨rfl, _⟩, _, rfl⟩ := e1
        rw [k2] at k2'
        cases k2'
        rw [← k6, ← k6']
  have hE : Ext W (NN N0 v) W3 (NN N0 v') := by
    have hs := hg.size
    simp at hs
    refine ⟨by omega, fun b hb hn => ⟨fun hn' => ?_, ?_⟩⟩
    · rcases hn' with hn' | hn'
      · exact hn (.inl hn')
      · rcases hv with hv | ⟨b', hv, hlt⟩
        · exact hn (.inr (by rw [← hv]; exact hn'))
        · rw [hv] at hn'; cases hn'; omega
    · exact (hg.block b (by simp; omega) (fun e => hn (.inr e.symm))).trans (Below.heap_alloc W o b hb)
  refine ⟨_, by rw [List.length_append, List.length_singleton]; exact hr, fun j x hx => ?_⟩
  rw [cellsD_snoc] at hx
  have hl := h1.1
  by_cases hj : j < (cellsD l).length
  · rw [List.getElem?_append_left hj] at hx
    obtain ⟨u, hu, hr2⟩ := h2 j x hx
    exact ⟨u, by rw [List.getElem?_append_left (List.getElem?_eq_some_iff.1 hu).1]; exact hu, hr2.ext hE⟩
  · rw [List.getElem?_append_right (by omega)] at hx
    rw [cellsD_len] at hx hj
    have ej : j - xs2.length = j - l.length * 4 := by rw [hl]
    rw [List.getElem?_append_right (by rw [hl]; omega), ej]
    generalize j - l.length * 4 = i at hx
    match i, hx with
    | 0, hx => cases hx; exact ⟨_, rfl, .str _⟩
    | 1, hx => cases hx; exact ⟨_, rfl, ra.ext hE⟩
    | 2, hx => cases hx; exact ⟨_, rfl, .str _⟩
    | 3, hx => cases hx; exact ⟨_, rfl, rp.ext hE⟩
/-- Where all are told: by value. -/
theorem Out.rep (h : Out n0 N0 W v l) (hN : ∀ b, n0 ≤ b → ¬ N0 b) : RepD W N0 v (.sl (nds l)) := by
  obtain ⟨xs, h1, h2⟩ := h
  rcases h1.2 with ⟨rfl, h0⟩ | ⟨g, cap, cur, rfl, k1, k2, k3, k4, k5, k6⟩
  · obtain rfl := List.length_eq_zero_iff.1 h0
    exact .nil
  · have hlt := lt_of k2
    have hcur : ∀ k u, xs[k]? = some u → cur[k]? = some u := fun k u hk => by
      rw [← k6, List.getElem?_take] at hk
      split at hk
      · simpa using hk
      · cases hk
    have := RepD.sl (w := W) (N := N0) ⟨g, 0, none⟩ (nds l) cap 4 (fun i j => cur.getD (i * 4 + j) undef) (by rw [nds_len']; exact k3) (fun _ => ⟨rfl, hN g k1, hlt⟩) (fun e he => nds_four he) (fun i j x hx => by
      obtain ⟨hx2, _⟩ := cellsD_at hx
      obtain ⟨u, hu, _⟩ := h2 _ x hx2
      simp [cellAt, World.cell?, k2, hcur _ _ hu]) (fun i j x hx => by
      obtain ⟨hx2, _⟩ := cellsD_at hx
      obtain ⟨u, hu, hr⟩ := h2 _ x hx2
      have : cur.getD (i * 4 + j) undef = u := by simp [hcur _ _ hu]
      simp only [this]
      exact hr.ext ⟨Nat.le_refl _, fun b _ hn => ⟨fun h => hn (.inl h), rfl⟩⟩)
    rw [nds_len'] at this
    exact this
end
theorem rep_attrs {W : World} {N : Nat → Prop} {base : Nat} {v : Value} {l : List Attr} (h : W.ownsRow base 59 2 v l.length (acs l)) (hN : ∀ b, v.ownBlock = some b → ¬ N b) : RepD W N v (.sl (l.map Attr.d)) := by
  rcases h.2 with ⟨rfl, h0⟩ | ⟨g, cap, cur, rfl, h1, h2, h3, h4, h5, h6⟩
  · obtain rfl := List.length_eq_zero_iff.1 h0
    exact .nil
  · have hlt := lt_of h2
    have hcur : ∀ k u, (acs l)[k]? = some u → cur[k]? = some u := fun k u hk => by
      rw [← h6, List.getElem?_take] at hk
      split at hk
      · simpa using hk
      · cases hk
    have hat : ∀ {l : List Attr} {i : Nat} {a : Attr}, l[i]? = some a → (acs l)[i * 2]? = some (strV a.name) ∧ (acs l)[i * 2 + 1]? = some (strV a.value) := fun {l i a} => by
      induction l generalizing i with
      | nil => intro h; simp at h
      | cons b l ih =>
        intro h
        cases i with
        | zero => simp at h; subst h; exact ⟨rfl, rfl⟩
        | succ i =>
          simp at h
          obtain ⟨q1, q2⟩ := ih h
          have e : acs (b :: l) = [strV b.name, strV b.value] ++ acs l := rfl
          rw [e, List.getElem?_append_right (by simp; omega), List.getElem?_append_right (by simp; omega)]
          simp only [List.length_cons, List.length_nil]
          rw [show (i + 1) * 2 - (0 + 1 + 1) = i * 2 by omega, show (i + 1) * 2 + 1 - (0 + 1 + 1) = i * 2 + 1 by omega]
          exact ⟨q1, q2⟩
    have key : ∀ (i j : Nat) (x : D), (((l.map Attr.d)[i]?).bind (·[j]?)) = some x → ∃ u, cur[i * 2 + j]? = some u ∧ RepD W N u x := by
      intro i j x hx
      rw [List.getElem?_map] at hx
      cases hp : l[i]? with
      | none => rw [hp] at hx; cases hx
      | some p =>
        rw [hp] at hx
        have hx : (Attr.d p)[j]? = some x := hx
        match j, hx with
        | 0, hx => cases hx; exact ⟨_, hcur _ _ (hat hp).1, .str _⟩
        | 1, hx => cases hx; exact ⟨_, hcur _ _ (hat hp).2, .str _⟩
    have := RepD.sl (w := W) (N := N) ⟨g, 0, none⟩ (l.map Attr.d) cap 2 (fun i j => cur.getD (i * 2 + j) undef) (by simpa using h3) (fun _ => ⟨rfl, hN g rfl, hlt⟩) (fun e he => by
      obtain ⟨a, _, rfl⟩ := List.mem_map.1 he; rfl) (fun i j x hx => by
      obtain ⟨u, hu, _⟩ := key i j x hx
      simp [cellAt, World.cell?, h2, hu]) (fun i j x hx => by
      obtain ⟨u, hu, hr⟩ := key i j x hx
      simpa [hu] using hr)
    rw [List.length_map] at this
    exact this
theorem rep_form {W : World} {N : Nat → Prop} {v : Value} {es : List (List D)} (h : RepD W N v (.sl es)) : ∃ a n c, v = .slice a n c := by
  cases h with
  | nil => exact ⟨_, _, _, rfl⟩
  | sl ad es cap sz c hl hb hs hc hr => exact ⟨_, _, _, rfl⟩
theorem infoN : (Tryd.prog.info? 47).map (fun i => (i.zero, i.size, i.bytes)) = some (some (.agg #[.string ByteArray.empty, .slice none 0 0, .string ByteArray.empty, .slice none 0 0]), 4, 80) := by kernel_rfl
theorem app_n {ops : Array Oper} {rest : List Oper} {o : Oper} {a : Act} {Q : Exit → Act → World → Prop} (hgd : o.guard = none) (s x : Operand)
    (hop : o.op = .call { callee := .builtin .append, args := #[s, x], argTypes := #[23, 23] }) {WX : World} {n0 : Nat} {v : Value} {n : Nat} {xs : List Value} (hown : WX.ownsRow n0 47 4 v n xs) (hs : a.eval s = v)
    (ys : List Value) (hy : ys.length = 4) (h1 : ∀ u ∈ ys, u.oneCell' = true) {bx : Nat} (hx : a.eval x = .slice (some ⟨bx, 0, none⟩) 1 1) (hbx : bx = WX.heap.size) (hn : n < 2 ^ 30) (hn0 : n0 ≤ WX.heap.size)
    (hK : ∀ g cap w', w'.ownsRow n0 47 4 (.slice (some ⟨g, 0, none⟩) (n + 1) cap) (n + 1) (xs ++ ys) → (WX.alloc (.cells ys.toArray 47)).grownBy w' v.ownBlock → (v.ownBlock = some g ∨ g = WX.heap.size + 1) →
      wpList Tryd.prog ops Q rest (a.put o.dst (.slice (some ⟨g, 0, none⟩) (n + 1) cap)) w') :
    wpList Tryd.prog ops Q (o :: rest) a (WX.alloc (.cells ys.toArray 47)) := by
  subst hbx
  obtain ⟨i0, hi, hz0, hz1, hz2⟩ := info_parts infoN
  refine wpList_append_lies _ hgd s x 23 hop n0 47 i0 _ 4 80 Tryd.underlying23 hi hz0 hz1 hz2 rfl (by decide) v n xs hs (hown.alloc _) ⟨WX.heap.size, 0, none⟩ 1 1 ys hx (by rw [hy]) (World.news_of_block (World.alloc_heap_new WX _)) h1 (by omega) ?_ (by omega) (by simp; omega) (WX.heap.size + 1) (by simp) (fun g cap w' k1 k2 k3 k4 => hK g cap w' k1 k2 k3)
  have : maxLen = 9223372036854775807 := rfl
  omega
section
variable {w : World} {bb : Nat} {Q : List Rec} {s : List Nat} {vs : Value} {c : Int} {mute : Str}
set_option maxHeartbeats 2000000 in
theorem nodes_raw : ∀ (n k : Nat) (r : Rec) (W : World) (N0 : Nat → Prop), Q[k]? = some r → (esQ Q).length + 1 ≤ n + k → Bt w bb Q s vs c mute W → (∀ b, N0 b → b < W.heap.size) → (∀ (j : Nat) (rj : Rec), Q[j]? = some rj → rj.e.tx = false → ∀ b, rj.va.ownBlock = some b → ¬ N0 b) →
    Calls Tryd.prog 11 #[.pointer (some ⟨r.o, 0, none⟩)] W fun e W' => ∃ v, e = .returned v ∧ RepD W' N0 v (.sl (nds (nodesK (esQ Q) n ((k : Int) - 1)))) ∧ Below W.heap.size W W' := by
  intro n
  induction n with
  | zero =>
    intro k r W N0 hk hn hB hN hA
    have := (List.getElem?_eq_some_iff.1 hk).1
    have := esQ_len (Q := Q) (by rintro rfl; cases hk)
    omega
  | succ n ih =>
    intro k r W N0 hk hn hB hN hA
    have hrk := hB.rk k r hk
    have hel := esQ_len (Q := Q) (by rintro rfl; cases hk)
    obtain ⟨m, hm⟩ : ∃ m, (kidV Q k).length = m := ⟨_, rfl⟩
    have hm2 : (kidE (esQ Q) ((k : Int) - 1)).length = m := by rw [← hm]; simp [kidV]
    have hkl := kidV_len hB (k := k)
    rw [hm] at hkl
    obtain ⟨a0, cap0, hvp⟩ := vp_form hrk.row
    rw [hm] at hvp
    obtain ⟨ns, hns⟩ : ∃ ns, nodesK (esQ Q) (n + 1) ((k : Int) - 1) = ns := ⟨_, rfl⟩
    have hnl : ns.length = m := by rw [← hns, nodesK, List.length_map, hm2]
    rw [hns]
    have d1 : W.cell? ⟨r.o, 1, none⟩ = some (.slice a0 m cap0) := by simp [World.cell?, hrk.o, hvp]
    go_enter Tryd.func11, Tryd.ntmps11
    go_wp2
    go_loopg [3, 12] m (fun g vo vi W' => ∃ i : Nat, i ≤ m ∧ g = m - i ∧ vi = .int .i64 i ∧ Out W.heap.size N0 W' vo (ns.take i) ∧ Below W.heap.size W W')
    case atStart => exact ⟨0, Nat.zero_le _, rfl, rfl, Out.start W, Below.refl _ _⟩
    case round =>
      obtain ⟨i, hi, rfl, rfl, hO, hb⟩ := hrel
      by_cases hlt : i < m
      case neg =>
        have hie : i = m := by omega
        subst hie
        go_wp2
        go_ret
        rw [List.take_of_length_le (by omega)] at hO
        exact ⟨_, rfl, hO.rep (fun b hb hn => by have := hN b hn; omega), hb⟩
      have hlt2 : (i : Int) < m := by omega
      have hBw := hB.below hb
      obtain ⟨j, hj⟩ : ∃ j, (kidE (esQ Q) ((k : Int) - 1))[i]? = some j := ⟨_, List.getElem?_eq_getElem (by omega)⟩
      obtain ⟨hjl, e, he, hep⟩ := kidE_lt (List.mem_of_getElem? hj)
      obtain ⟨rj, hrj, rfl⟩ := esQ_at (Q := Q) (x := j + 1) (by omega) he
      have hrkj := hBw.rk _ rj hrj
      have hkv : (kidV Q k)[i]? = some (.pointer (some ⟨rj.o, 0, none⟩)) := by unfold kidV; rw [List.getElem?_map, hj]; simp [ptrQ_at hrj]
      obtain ⟨xs, hxs, _⟩ := id hO
      have htl : (ns.take i).length = i := by simp; omega
      rw [htl] at hxs
      obtain ⟨a1, cap1, rfl⟩ := own_form hxs
      obtain ⟨g, gc, hsl, hg1, hg2⟩ := (hBw.rk k r hk).row.form (by omega)
      rw [hvp] at hsl
      simp only [Value.slice.injEq] at hsl
      obtain ⟨rfl, -, rfl⟩ := hsl
      have c1 : wr.cell? ⟨g, i, none⟩ = some (.pointer (some ⟨rj.o, 0, none⟩)) := by
        have hro := (hBw.rk k r hk).row
        rw [hvp, hm] at hro
        rw [hro.cellAt _ (by omega)]; exact hkv
      have c3 : wr.cell? ⟨rj.o, 3, none⟩ = some (.bool (!rj.e.tx)) := by simp [World.cell?, hrkj.o]
      have hnd : ns[i]? = some (.mk rj.e.name rj.e.attrs rj.e.text (nodesK (esQ Q) n j)) := by
        rw [← hns, nodesK, List.getElem?_map, hj]
        simp only [Option.map_some, nodeAt, he]
      have htk : ns.take (i + 1) = ns.take i ++ [.mk rj.e.name rj.e.attrs rj.e.text (nodesK (esQ Q) n j)] := by rw [List.take_add_one, hnd]; rfl
      have hsz := hb.size
      cases htx : rj.e.tx with
      | true =>
        rw [htx] at c3
        have c2 : wr.cell? ⟨rj.o, 2, none⟩ = some (.string ⟨rj.e.text.toArray⟩) := by simp [World.cell?, hrkj.o, strV]
        obtain ⟨t1, t2⟩ := hBw.wf.text j rj.e he htx
        have hleaf : nodesK (esQ Q) n j = [] := by
          cases n with
          | zero => rfl
          | succ n => rw [nodesK, hBw.wf.leaf he htx]; rfl
        rw [t1, t2, hleaf] at htk
        go_wp2_with (at_builtin; go_loud (refine app_n rfl _ _ rfl hxs rfl [.string ⟨#[]⟩, .slice none 0 0, .string ⟨rj.e.text.toArray⟩, .slice none 0 0] rfl (by simp [Value.oneCell']) rfl rfl (by omega) hsz ?_); intro g2 cap2 W3 hown' hgrow hor)
        go_roundg (m - (i + 1))
        case measure => omega
        case rel =>
          have hOs := hO.snoc (o := .cells #[.string ⟨#[]⟩, .slice none 0 0, .string ⟨rj.e.text.toArray⟩, .slice none 0 0] 47) (a := []) (b := []) (c := rj.e.text) (ps := []) (ua := .slice none 0 0) (up := .slice none 0 0) (xs := xs) (v' := .slice (some ⟨g2, 0, none⟩) (i + 1) cap2) (by rw [htl]; exact hxs) (by rw [htl]; exact hown') hgrow (by
            rcases hor with h2 | h2
            · exact .inl h2.symm
            · exact .inr ⟨g2, rfl, by omega⟩) .nil .nil
          rw [← htk] at hOs
          exact ⟨i + 1, by omega, rfl, rfl, hOs, (hb.alloc hsz _).grown hgrow (by simp; omega) (fun k e => (hxs.lt k e).1)⟩
      | false =>
        rw [htx] at c3
        have c0 : wr.cell? ⟨rj.o, 0, none⟩ = some (.pointer (some ⟨rj.nb, 0, none⟩)) := by simp [World.cell?, hrkj.o, npV, htx, ptrV]
        obtain ⟨hnc, hna⟩ := hrkj.nod htx
        obtain ⟨a5, cap5, hva⟩ := own_form hna
        have n0c : wr.cell? ⟨rj.nb, 0, none⟩ = some (.string ⟨rj.e.name.toArray⟩) := by simp [World.cell?, hnc, strV]
        have n1c : wr.cell? ⟨rj.nb, 1, none⟩ = some (.slice a5 rj.e.attrs.length cap5) := by simp [World.cell?, hnc, hva]
        have n2c : wr.cell? ⟨rj.nb, 2, none⟩ = some (.string ⟨#[]⟩) := by simp [World.cell?, hnc, strV]
        have n3c : wr.cell? ⟨rj.nb, 3, none⟩ = some (.slice none 0 0) := by simp [World.cell?, hnc]
        have hkj := (hBw.wf.par j rj.e he).2
        rw [hep] at hkj
        have hnob : ∀ (j' : Nat) (rj' : Rec), Q[j']? = some rj' → rj'.e.tx = false → ∀ b, rj'.va.ownBlock = some b → ¬ (NN N0 (.slice a1 i cap1) b ∨ b = wr.heap.size) := fun j' rj' hj' ht' b hb' hx => by
          have hrow' := ((hBw.rk j' rj' hj').nod ht').2
          rcases hx with (hx | hx) | hx
          · exact hA j' rj' hj' ht' b hb' hx
          · obtain ⟨cs1, h1⟩ := own_typ hxs hx
            obtain ⟨cs2, h2⟩ := own_typ hrow' hb'
            exact typ_ne h1 h2 (by decide) rfl
          · have := (hrow'.lt b hb').2
            omega
        have hih := ih (j + 1) rj (wr.alloc (.cells #[.string ⟨rj.e.name.toArray⟩, .slice a5 rj.e.attrs.length cap5, .string ⟨#[]⟩, .slice none 0 0] 47)) (fun b => NN N0 (.slice a1 i cap1) b ∨ b = wr.heap.size) hrj (by omega) (hBw.alloc _) (fun b hx => by
          simp
          rcases hx with (hx | hx) | hx
          · have := hN b hx; omega
          · have := (hxs.lt b hx).2; omega
          · omega) hnob
        rw [show (((j + 1 : Nat) : Int) - 1) = (j : Int) by omega] at hih
        have hH0 := World.alloc_heap_new wr (.cells #[.string ⟨rj.e.name.toArray⟩, .slice a5 rj.e.attrs.length cap5, .string ⟨#[]⟩, .slice none 0 0] 47)
        have hBA : Below wr.heap.size wr (wr.alloc (.cells #[.string ⟨rj.e.name.toArray⟩, .slice a5 rj.e.attrs.length cap5, .string ⟨#[]⟩, .slice none 0 0] 47)) := (Below.refl _ wr).alloc (Nat.le_refl _) _
        have mk : ∀ {W5 : World} (x : Value), Below (wr.alloc (.cells #[.string ⟨rj.e.name.toArray⟩, .slice a5 rj.e.attrs.length cap5, .string ⟨#[]⟩, .slice none 0 0] 47)).heap.size (wr.alloc (.cells #[.string ⟨rj.e.name.toArray⟩, .slice a5 rj.e.attrs.length cap5, .string ⟨#[]⟩, .slice none 0 0] 47)) W5 →
            (W5.cell? ⟨wr.heap.size, 3, none⟩ = some (.slice none 0 0) ∧ W5.frozen? ⟨wr.heap.size, 3, none⟩ = false) ∧ Below wr.heap.size wr (W5.setCell ⟨wr.heap.size, 3, none⟩ x) ∧ (W5.setCell ⟨wr.heap.size, 3, none⟩ x).cell? ⟨wr.heap.size, 0, none⟩ = some (.string ⟨rj.e.name.toArray⟩) ∧ (W5.setCell ⟨wr.heap.size, 3, none⟩ x).cell? ⟨wr.heap.size, 1, none⟩ = some (.slice a5 rj.e.attrs.length cap5) ∧
            (W5.setCell ⟨wr.heap.size, 3, none⟩ x).cell? ⟨wr.heap.size, 2, none⟩ = some (.string ⟨#[]⟩) ∧ (W5.setCell ⟨wr.heap.size, 3, none⟩ x).cell? ⟨wr.heap.size, 3, none⟩ = some x := fun {W5} x hb5 => by
          have hH := (hb5.block wr.heap.size (by simp)).trans hH0
          have hH2 := setCell_at (n := 3) (v := x) hH
          have hs5 := hb5.size
          simp at hs5
          refine ⟨⟨by simp [World.cell?, hH], by simp [World.frozen?, hH]⟩, ?_, by simp [World.cell?, hH2], by simp [World.cell?, hH2], by simp [World.cell?, hH2], by simp [World.cell?, hH2]⟩
          have hw5 : Below wr.heap.size wr W5 := ⟨hb5.os.trans hBA.os, hb5.tape.trans hBA.tape, hb5.output.trans hBA.output, by omega, fun k hk => (hb5.block k (by simp; omega)).trans (hBA.block k hk)⟩
          exact hw5.grown (setCell_grown W5 _ _) hw5.size (fun k e => by cases e; exact Nat.le_refl _)
        go_wp2_with (first
          | (go_at_call 11; refine hih.mono ?_; rintro e W5 ⟨v5, rfl, hr5, hb5⟩; obtain ⟨a6, n6, c6, rfl⟩ := rep_form hr5; obtain ⟨⟨z1, z2⟩, z3, z4, z5, z6, z7⟩ := mk (.slice a6 n6 c6) hb5)
          | (at_builtin; go_loud (refine app_n rfl _ _ rfl (hxs.kept (grown_of_below z3 none) (by cases (Value.slice a1 i cap1).ownBlock <;> simp)) rfl [.string ⟨rj.e.name.toArray⟩, .slice a5 rj.e.attrs.length cap5, .string ⟨#[]⟩, .slice a6 n6 c6] rfl (by simp [Value.oneCell']) rfl (by simp) (by omega) (Nat.le_trans hsz z3.size) ?_); intro g2 cap2 W3 hown' hgrow hor))
        go_roundg (m - (i + 1))
        case measure => omega
        case rel =>
          have hg6 := setCell_grown W5 ⟨wr.heap.size, 3, none⟩ (.slice a6 n6 c6)
          have hna6 := (((hBw.below z3).rk _ rj hrj).nod htx).2
          rw [hva] at hna6
          have hno2 := hnob _ rj hrj htx
          rw [hva] at hno2
          have hOs := (hO.below z3).snoc (o := .cells #[.string ⟨rj.e.name.toArray⟩, .slice a5 rj.e.attrs.length cap5, .string ⟨#[]⟩, .slice a6 n6 c6] 47) (a := rj.e.name) (b := rj.e.attrs) (c := []) (ps := nodesK (esQ Q) n j) (ua := .slice a5 rj.e.attrs.length cap5) (up := .slice a6 n6 c6) (xs := xs) (v' := .slice (some ⟨g2, 0, none⟩) (i + 1) cap2)
            (by rw [htl]; exact hxs.kept (grown_of_below z3 none) (by cases (Value.slice a1 i cap1).ownBlock <;> simp)) (by rw [htl]; exact hown') hgrow (by
            rcases hor with h2 | h2
            · exact .inl h2.symm
            · exact .inr ⟨g2, rfl, by omega⟩) (rep_attrs hna6 (fun b hb hx => hno2 b hb (.inl hx))) (hr5.ext ⟨hg6.size, fun b hb hx => ⟨fun h => hx (.inl h), hg6.block b hb (fun e => by cases e; exact hx (.inr rfl))⟩⟩)
          have htxt := hBw.wf.elem j rj.e he htx
          rw [htxt] at htk
          rw [← htk] at hOs
          have hw6 : Below W.heap.size W (W5.setCell ⟨wr.heap.size, 3, none⟩ (.slice a6 n6 c6)) := ⟨z3.os.trans hb.os, z3.tape.trans hb.tape, z3.output.trans hb.output, Nat.le_trans hsz z3.size, fun k hk => (z3.block k (by omega)).trans (hb.block k hk)⟩
          exact ⟨i + 1, by omega, rfl, rfl, hOs, (hw6.alloc hw6.size _).grown hgrow (by have := hw6.size; simp at this ⊢; omega) (fun k e => (hxs.lt k e).1)⟩
end
end Go.VL.BtNodes
