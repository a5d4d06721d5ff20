/- tree.builder's chars, walked. -/
import Derived.Test.YtefgchjjnobhjaaDoorBtB
set_option linter.unusedVariables false
set_option linter.unusedSimpArgs false
namespace Go.VL.BtChars
open Go Go.Proofs Go.VL Go.RowKit Go.VL.BtA Go.VL.BtFind Go.VL.BtB
set_option maxRecDepth 100000
section
variable {w W : World} {bb : Nat} {Q : List Rec} {s : List Nat} {vs : Value} {c : Int} {mute : Str}
theorem infoP : (Tryd.prog.info? 30).map (fun i => (i.zero, i.size, i.bytes)) = some (some (.pointer none), 1, 8) := by kernel_rfl
theorem app_o {ops : Array Oper} {rest : List Oper} {o : Oper} {a : Act} {Q : Exit → Act → World → Prop} (hgd : o.guard = none) (s x : Operand)
    (hop : o.op = .call { callee := .builtin .append, args := #[s, x], argTypes := #[32, 32] }) {WX : World} {n0 : Nat} {v : Value} {n : Nat} {xs : List Value} (hown : WX.ownsRow n0 30 1 v n xs) (hs : a.eval s = v)
    (y : Value) (h1 : y.oneCell' = true) {bx : Nat} (hx : a.eval x = .slice (some ⟨bx, 0, none⟩) 1 1) (hbx : bx = WX.heap.size) (hn : n < 2 ^ 30) (hn0 : n0 ≤ WX.heap.size)
    (hK : ∀ g cap w', w'.ownsRow n0 30 1 (.slice (some ⟨g, 0, none⟩) (n + 1) cap) (n + 1) (xs ++ [y]) → (WX.alloc (.cells #[y] 30)).grownBy w' v.ownBlock → (v.ownBlock = some g ∨ g = WX.heap.size + 1) →
      wpList Tryd.prog ops Q rest (a.put o.dst (.slice (some ⟨g, 0, none⟩) (n + 1) cap)) w') :
    wpList Tryd.prog ops Q (o :: rest) a (WX.alloc (.cells #[y] 30)) := by
  subst hbx
  obtain ⟨i0, hi, hz0, hz1, hz2⟩ := info_parts infoP
  refine wpList_append_lies _ hgd s x 32 hop n0 30 i0 _ 1 8 Tryd.underlying32 hi hz0 hz1 hz2 rfl (by decide) v n xs hs (hown.alloc _) ⟨WX.heap.size, 0, none⟩ 1 1 [y] hx (by simp) (World.news_of_block (World.alloc_heap_new WX _)) (by simpa using h1) (by omega) ?_ (by omega) (by simp; omega) (WX.heap.size + 1) (by simp) (fun g cap w' k1 k2 k3 k4 => hK g cap w' k1 k2 k3)
  have : maxLen = 9223372036854775807 := rfl
  omega
theorem _root_.Go.VL.BtA.Bt.top (h : Bt w bb Q s vs c mute W) : ∃ ra, Q[topS s]? = some ra ∧ ((topS s = 0 ∧ ra.e.tx = true) ∨ (1 ≤ topS s ∧ ra.e.tx = false ∧ nameE (esQ Q) (topS s) = ra.e.name)) := by
  rcases topS_wf h.ws with h0 | ⟨h1, e, he, ht⟩
  · obtain ⟨r, hr, ht⟩ := h.root
    exact ⟨r, by rw [h0]; exact hr, .inl ⟨h0, ht⟩⟩
  · obtain ⟨r, hr, rfl⟩ := esQ_at h1 he
    exact ⟨r, hr, .inr ⟨h1, ht, by simp [nameE, he]⟩⟩
/-- The last one within the one at place k. -/
theorem _root_.Go.VL.BtA.Bt.last (h : Bt w bb Q s vs c mute W) {k : Nat} : (lastIx (inE ((k : Int) - 1)) (esQ Q) = -1 ∧ kidV Q k = []) ∨
    ∃ (j : Nat) (rl : Rec), lastIx (inE ((k : Int) - 1)) (esQ Q) = (j : Int) ∧ Q[j + 1]? = some rl ∧ 1 ≤ (kidV Q k).length ∧ (kidV Q k)[(kidV Q k).length - 1]? = some (.pointer (some ⟨rl.o, 0, none⟩)) := by
  rcases kidE_last (esQ Q) ((k : Int) - 1) with ⟨h1, h2⟩ | ⟨j, h1, h2, h3⟩
  · exact .inl ⟨h1, by unfold kidV; rw [h2]; rfl⟩
  · right
    have hq : Q ≠ [] := by rintro rfl; simp [esQ] at h3
    have hel := esQ_len hq
    obtain ⟨rl, hrl⟩ : ∃ r, Q[j + 1]? = some r := ⟨_, List.getElem?_eq_getElem (by omega)⟩
    have hne : kidE (esQ Q) ((k : Int) - 1) ≠ [] := by intro e; rw [e] at h2; cases h2
    have hl := List.length_pos_iff.mpr hne
    refine ⟨j, rl, h1, hrl, by unfold kidV; rw [List.length_map]; omega, ?_⟩
    rw [← ptrQ_at hrl]
    unfold kidV
    rw [List.length_map, List.getElem?_map, ← List.getLast?_eq_getElem?, h2]
    rfl
theorem kidV_len (h : Bt w bb Q s vs c mute W) {k : Nat} : (kidV Q k).length ≤ 152 := by
  unfold kidV kidE
  rw [List.length_map]
  have h1 := List.length_filter_le (parIs (esQ Q) ((k : Int) - 1)) (List.range (esQ Q).length)
  have h2 := h.len
  have h3 : (esQ Q).length ≤ Q.length := by unfold esQ; simp
  simp at h1
  omega
theorem vp_form {base n : Nat} {v : Value} {xs : List Value} (h : W.ownsRow base 30 1 v n xs) : ∃ a cap, v = .slice a n cap := by
  rcases h.2 with ⟨rfl, rfl⟩ | ⟨g, cap, cur, rfl, _⟩
  · exact ⟨none, 0, rfl⟩
  · exact ⟨_, _, rfl⟩
/-- A new text. -/
theorem _root_.Go.VL.BtA.Bt.newText (hB : Bt w bb Q s vs c mute W) {k m : Nat} {ra : Rec} (hra : Q[k]? = some ra) (hka : 1 ≤ k → ra.e.tx = false) (hQ : Q.length ≤ 151) (tx : Str) {W3 : World} {g cap2 : Nat} {v : Value} (hm : (kidV Q k).length = m) (hvp : ra.vp = v)
    (hr : W3.ownsRow w.heap.size 30 1 (.slice (some ⟨g, 0, none⟩) (m + 1) cap2) (m + 1) (kidV Q k ++ [.pointer (some ⟨W.heap.size, 0, none⟩)]))
    (hg : ((W.alloc (.cells #[.pointer none, .slice none 0 0, .string ⟨tx.toArray⟩, .bool false] 34)).alloc (.cells #[.pointer (some ⟨W.heap.size, 0, none⟩)] 30)).grownBy W3 v.ownBlock)
    (hor : v.ownBlock = some g ∨ g = (W.alloc (.cells #[.pointer none, .slice none 0 0, .string ⟨tx.toArray⟩, .bool false] 34)).heap.size + 1) :
    (W3.cell? ⟨ra.o, 1, none⟩ = some v ∧ W3.frozen? ⟨ra.o, 1, none⟩ = false) ∧ ∃ Q', esQ Q' = esQ Q ++ [⟨(k : Int) - 1, [], [], tx, true⟩] ∧ Q'.length = Q.length + 1 ∧ Bt w bb Q' s vs c mute (W3.setCell ⟨ra.o, 1, none⟩ (.slice (some ⟨g, 0, none⟩) (m + 1) cap2)) := by
  subst hm hvp
  have hA := hB.alloc (.cells #[.pointer none, .slice none 0 0, .string ⟨tx.toArray⟩, .bool false] 34)
  have hrk := (hA.alloc (.cells #[.pointer (some ⟨W.heap.size, 0, none⟩)] 30)).rk k ra hra
  have ho : W3.heap[ra.o]? = _ := keepO hg hrk.o (fun e => by
    obtain ⟨cs, h2⟩ := own_typ hrk.row e
    exact typ_ne hrk.o h2 (by decide) rfl)
  refine ⟨⟨by simp [World.cell?, ho], by simp [World.frozen?, ho]⟩, Q.set k { ra with vp := .slice (some ⟨g, 0, none⟩) ((kidV Q k).length + 1) cap2 } ++ [{ o := W.heap.size, vp := .slice none 0 0, nb := 0, va := .slice none 0 0, e := ⟨(k : Int) - 1, [], [], tx, true⟩ }], esQ_more (ra' := { ra with vp := .slice (some ⟨g, 0, none⟩) ((kidV Q k).length + 1) cap2 }) hra rfl, by simp, ?_⟩
  refine hA.part (o := .cells #[.pointer (some ⟨W.heap.size, 0, none⟩)] 30) hra rfl hka ⟨fun _ => ⟨rfl, rfl⟩, fun h2 => by cases h2⟩ hQ rfl (World.alloc_heap_new W _) hB.bel.size (fun j r hj e => ?_) (fun h2 => by cases h2) hr hg ?_
  · have := lt_of (hB.rk j r hj).o
    rw [e] at this
    exact Nat.lt_irrefl _ this
  · rcases hor with h2 | h2
    · exact .inl h2.symm
    · exact .inr ⟨g, rfl, by rw [h2]; simp⟩
theorem cnt {n : Nat} (h : n ≤ 200) : wrap64 ((n : Int) - 1 + 1) = n := by unfold wrap64; omega
theorem nameN {es : List Ent} {k : Nat} {nm : Str} (h : quietE es k = false) (h1 : 1 ≤ k) (hn : nameE es k = nm) : (nm == [115, 99, 114, 105, 112, 116]) = false ∧ (nm == [115, 116, 121, 108, 101]) = false := by
  have h0 : k ≠ 0 := by omega
  simp [quietE, h0, hn, sScript, sStyle] at h
  exact ⟨by simpa using h.1, by simpa using h.2⟩
theorem charsQ (h : Bt w bb Q s vs ((Q.length : Int) - 1) mute W) (tx : Str) (hq : quietE (esQ Q) (topS s) = true ∨ tx = [] ∨ mute ≠ []) : Calls Tryd.prog 10 #[.pointer (some ⟨bb, 0, none⟩), .string ⟨tx.toArray⟩] W fun e W' => e = .returned (.tuple #[]) ∧ Bt w bb Q s vs ((Q.length : Int) - 1) mute W' := by
  obtain ⟨ra, hra, hc⟩ := h.top
  have hl := last_raw h
  rw [ptrQ_at hra] at hl
  have hm2 : ∀ {l : Str}, l ≠ [] → List.isEmpty l = false := fun {l} hx => by cases l with | nil => exact absurd rfl hx | cons => rfl
  go_enter Tryd.func10, Tryd.ntmps10
  rcases hc with ⟨h0, ht⟩ | ⟨h1, ht, hnm⟩
  · have hq2 : tx = [] ∨ mute ≠ [] := by
      rcases hq with hq | hq
      · simp [quietE, h0] at hq
      · exact hq
    by_cases htx : tx = []
    · subst htx
      go_wp2_with (refine hl.mono ?_; rintro e W2 ⟨rfl, hB, -⟩; have hrk := hB.rk _ ra hra; have d3 : W2.cell? ⟨ra.o, 3, none⟩ = some (.bool false) := (by simp [World.cell?, hrk.o, ht]); have dm := hB.b3; unfold strV at dm)
      exact bodyPost_ret (results_none rfl _ _ _) rfl ⟨rfl, hB⟩
    · have hmu : mute ≠ [] := by
        rcases hq2 with hq2 | hq2
        · exact absurd hq2 htx
        · exact hq2
      have k1 := hm2 htx
      have k2 := hm2 hmu
      go_wp2_with (refine hl.mono ?_; rintro e W2 ⟨rfl, hB, -⟩; have hrk := hB.rk _ ra hra; have d3 : W2.cell? ⟨ra.o, 3, none⟩ = some (.bool false) := (by simp [World.cell?, hrk.o, ht]); have dm := hB.b3; unfold strV at dm)
      exact bodyPost_ret (results_none rfl _ _ _) rfl ⟨rfl, hB⟩
  · by_cases n1 : (ra.e.name == [115, 99, 114, 105, 112, 116]) = true
    · go_wp2_with (refine hl.mono ?_; rintro e W2 ⟨rfl, hB, -⟩; have hrk := hB.rk _ ra hra; have d3 : W2.cell? ⟨ra.o, 3, none⟩ = some (.bool true) := (by simp [World.cell?, hrk.o, ht]); have dm := hB.b3; unfold strV at dm; have dn : W2.cell? ⟨ra.o, 0, none⟩ = some (.pointer (some ⟨ra.nb, 0, none⟩)) := (by simp [World.cell?, hrk.o, npV, ht, ptrV]); have dnn : W2.cell? ⟨ra.nb, 0, none⟩ = some (.string ⟨ra.e.name.toArray⟩) := (by simp [World.cell?, (hrk.nod ht).1, strV]))
      exact bodyPost_ret (results_none rfl _ _ _) rfl ⟨rfl, hB⟩
    have n1 : (ra.e.name == [115, 99, 114, 105, 112, 116]) = false := by simpa using n1
    by_cases n2 : (ra.e.name == [115, 116, 121, 108, 101]) = true
    · go_wp2_with (refine hl.mono ?_; rintro e W2 ⟨rfl, hB, -⟩; have hrk := hB.rk _ ra hra; have d3 : W2.cell? ⟨ra.o, 3, none⟩ = some (.bool true) := (by simp [World.cell?, hrk.o, ht]); have dm := hB.b3; unfold strV at dm; have dn : W2.cell? ⟨ra.o, 0, none⟩ = some (.pointer (some ⟨ra.nb, 0, none⟩)) := (by simp [World.cell?, hrk.o, npV, ht, ptrV]); have dnn : W2.cell? ⟨ra.nb, 0, none⟩ = some (.string ⟨ra.e.name.toArray⟩) := (by simp [World.cell?, (hrk.nod ht).1, strV]))
      exact bodyPost_ret (results_none rfl _ _ _) rfl ⟨rfl, hB⟩
    have n2 : (ra.e.name == [115, 116, 121, 108, 101]) = false := by simpa using n2
    have hq2 : tx = [] ∨ mute ≠ [] := by
      rcases hq with hq | hq
      · simp [quietE, hnm, sScript, sStyle] at hq
        simp at n1 n2
        rcases hq.2 with h2 | h2
        · exact absurd h2 n1
        · exact absurd h2 n2
      · exact hq
    by_cases htx : tx = []
    · subst htx
      go_wp2_with (refine hl.mono ?_; rintro e W2 ⟨rfl, hB, -⟩; have hrk := hB.rk _ ra hra; have d3 : W2.cell? ⟨ra.o, 3, none⟩ = some (.bool true) := (by simp [World.cell?, hrk.o, ht]); have dm := hB.b3; unfold strV at dm; have dn : W2.cell? ⟨ra.o, 0, none⟩ = some (.pointer (some ⟨ra.nb, 0, none⟩)) := (by simp [World.cell?, hrk.o, npV, ht, ptrV]); have dnn : W2.cell? ⟨ra.nb, 0, none⟩ = some (.string ⟨ra.e.name.toArray⟩) := (by simp [World.cell?, (hrk.nod ht).1, strV]))
      exact bodyPost_ret (results_none rfl _ _ _) rfl ⟨rfl, hB⟩
    · have hmu : mute ≠ [] := by
        rcases hq2 with hq2 | hq2
        · exact absurd hq2 htx
        · exact hq2
      have k1 := hm2 htx
      have k2 := hm2 hmu
      go_wp2_with (refine hl.mono ?_; rintro e W2 ⟨rfl, hB, -⟩; have hrk := hB.rk _ ra hra; have d3 : W2.cell? ⟨ra.o, 3, none⟩ = some (.bool true) := (by simp [World.cell?, hrk.o, ht]); have dm := hB.b3; unfold strV at dm; have dn : W2.cell? ⟨ra.o, 0, none⟩ = some (.pointer (some ⟨ra.nb, 0, none⟩)) := (by simp [World.cell?, hrk.o, npV, ht, ptrV]); have dnn : W2.cell? ⟨ra.nb, 0, none⟩ = some (.string ⟨ra.e.name.toArray⟩) := (by simp [World.cell?, (hrk.nod ht).1, strV]))
      exact bodyPost_ret (results_none rfl _ _ _) rfl ⟨rfl, hB⟩
set_option maxHeartbeats 8000000 in
theorem chars_raw (h : Bt w bb Q s vs ((Q.length : Int) - 1) mute W) (hQ : Q.length ≤ 151) (tx : Str) (hlen : ∀ e ∈ esQ Q, e.text.length + tx.length ≤ 9223372036854775807) : Calls Tryd.prog 10 #[.pointer (some ⟨bb, 0, none⟩), .string ⟨tx.toArray⟩] W fun e W' => e = .returned (.tuple #[]) ∧ ∃ Q', esQ Q' = pchars (esQ Q) s mute tx ∧ Bt w bb Q' s vs ((Q'.length : Int) - 1) mute W' := by
  by_cases hq : quietE (esQ Q) (topS s) = true ∨ tx = [] ∨ mute ≠ []
  case pos =>
    have e : pchars (esQ Q) s mute tx = esQ Q := by unfold pchars; rw [if_pos hq]
    rw [e]
    exact (charsQ h tx hq).mono fun e W' ⟨h1, h2⟩ => ⟨h1, Q, rfl, h2⟩
  obtain ⟨ra, hra, hc⟩ := h.top
  have hl := last_raw h
  rw [ptrQ_at hra] at hl
  have hqf : quietE (esQ Q) (topS s) = false := by cases hb : quietE (esQ Q) (topS s) with | false => rfl | true => exact absurd (.inl hb) hq
  have htx : tx ≠ [] := fun e => hq (.inr (.inl e))
  obtain rfl : mute = [] := by
    cases mute with
    | nil => rfl
    | cons a l => exact absurd (.inr (.inr (by simp))) hq
  have htx2 : List.isEmpty tx = false := by cases tx with | nil => exact absurd rfl htx | cons => rfl
  have e : pchars (esQ Q) s [] tx = addTx (esQ Q) ((topS s : Int) - 1) tx := by unfold pchars; rw [if_neg hq]
  rw [e]
  obtain ⟨a, cap, hvp⟩ := vp_form (h.rk _ ra hra).row
  have hkl := kidV_len h (k := topS s)
  have hka : 1 ≤ topS s → ra.e.tx = false := fun h2 => by rcases hc with ⟨h0, _⟩ | ⟨_, ht, _⟩; omega; exact ht
  have hcn := cnt (n := Q.length) (by omega)
  have hbase : ∀ {W2 : World}, Bt w bb Q s vs ((Q.length : Int) - 1) [] W2 → ∀ o, w.heap.size ≤ (W2.alloc o).heap.size := fun hB o => by have := hB.bel.size; simp; omega
  obtain ⟨m, hm⟩ : ∃ m, (kidV Q (topS s)).length = m := ⟨_, rfl⟩
  rw [hm] at hvp hkl
  have hrow : ∀ {W2 : World}, Bt w bb Q s vs ((Q.length : Int) - 1) [] W2 → ∀ o, (W2.alloc o).ownsRow w.heap.size 30 1 (.slice a m cap) m (kidV Q (topS s)) := fun hB o => by
    have := (hB.rk _ ra hra).row
    rw [hm, hvp] at this
    exact this.alloc o
  have hnames : ∀ {nm : Str}, 1 ≤ topS s → nameE (esQ Q) (topS s) = nm → (nm == [115, 99, 114, 105, 112, 116]) = false ∧ (nm == [115, 116, 121, 108, 101]) = false := fun h1 hn => nameN hqf h1 hn
  rcases h.last (k := topS s) with ⟨e1, e2⟩ | ⟨j, rl, e1, hrl, e3, e4⟩
  · have e5 : addTx (esQ Q) ((topS s : Int) - 1) tx = esQ Q ++ [⟨(topS s : Int) - 1, [], [], tx, true⟩] := by
      unfold addTx
      rw [e1]
      split
      · rw [if_neg (by omega)]
      · rfl
    rw [e5]
    obtain rfl : m = 0 := by rw [← hm, e2]; rfl
    go_enter Tryd.func10, Tryd.ntmps10
    rcases hc with ⟨h0, ht⟩ | ⟨h1, ht, hnm⟩
    · go_wp2_with (first
        | (refine hl.mono ?_; rintro e W2 ⟨rfl, hB, -⟩; have hrk := hB.rk _ ra hra; have d3 : W2.cell? ⟨ra.o, 3, none⟩ = some (.bool false) := (by simp [World.cell?, hrk.o, ht]); have dm := hB.b3; unfold strV at dm; have d1 : W2.cell? ⟨ra.o, 1, none⟩ = some (.slice a 0 cap) := (by simp [World.cell?, hrk.o, hvp]))
        | (at_builtin; go_loud (refine app_o rfl _ _ rfl (hrow hB _) rfl _ rfl rfl (by simp) (by omega) (hbase hB _) ?_); intro g2 cap2 W3 hown' hgrow hor; obtain ⟨⟨f1, f2⟩, Q', q1, q2, hP⟩ := hB.newText hra hka hQ tx hm hvp hown' hgrow hor; have p1 := hP.b2; have p2 := hP.bf 2))
      go_end0
      exact ⟨rfl, Q', q1, by rw [show ((Q'.length : Int) - 1) = Q.length by omega]; exact hP.setCount _⟩
    · obtain ⟨n1, n2⟩ := hnames h1 hnm
      go_wp2_with (first
        | (refine hl.mono ?_; rintro e W2 ⟨rfl, hB, -⟩; have hrk := hB.rk _ ra hra; have d3 : W2.cell? ⟨ra.o, 3, none⟩ = some (.bool true) := (by simp [World.cell?, hrk.o, ht]); have dm := hB.b3; unfold strV at dm; have d1 : W2.cell? ⟨ra.o, 1, none⟩ = some (.slice a 0 cap) := (by simp [World.cell?, hrk.o, hvp]); have dn : W2.cell? ⟨ra.o, 0, none⟩ = some (.pointer (some ⟨ra.nb, 0, none⟩)) := (by simp [World.cell?, hrk.o, npV, ht, ptrV]); have dnn : W2.cell? ⟨ra.nb, 0, none⟩ = some (.string ⟨ra.e.name.toArray⟩) := (by simp [World.cell?, (hrk.nod ht).1, strV]))
        | (at_builtin; go_loud (refine app_o rfl _ _ rfl (hrow hB _) rfl _ rfl rfl (by simp) (by omega) (hbase hB _) ?_); intro g2 cap2 W3 hown' hgrow hor; obtain ⟨⟨f1, f2⟩, Q', q1, q2, hP⟩ := hB.newText hra hka hQ tx hm hvp hown' hgrow hor; have p1 := hP.b2; have p2 := hP.bf 2))
      go_end0
      exact ⟨rfl, Q', q1, by rw [show ((Q'.length : Int) - 1) = Q.length by omega]; exact hP.setCount _⟩
  · obtain ⟨m, rfl⟩ : ∃ m', m = m' + 1 := ⟨m - 1, by omega⟩
    obtain ⟨g, c2, hsl, hg1, hg2⟩ := (hrow h (.cells #[] 0)).form (by omega)
    simp only [Value.slice.injEq] at hsl
    obtain ⟨rfl, -, rfl⟩ := hsl
    have eq1 : (esQ Q)[j]? = some rl.e := esQ_of hrl
    have hlr : ∀ {W2 : World}, Bt w bb Q s vs ((Q.length : Int) - 1) [] W2 → W2.cell? ⟨g, m, none⟩ = some (.pointer (some ⟨rl.o, 0, none⟩)) ∧ W2.cell? ⟨rl.o, 3, none⟩ = some (.bool (!rl.e.tx)) ∧ W2.cell? ⟨rl.o, 2, none⟩ = some (.string ⟨rl.e.text.toArray⟩) ∧ W2.frozen? ⟨rl.o, 2, none⟩ = false := fun hB => by
      have hro := (hB.rk _ ra hra).row
      rw [hm, hvp] at hro
      have hrk2 := hB.rk _ rl hrl
      refine ⟨?_, by simp [World.cell?, hrk2.o], by simp [World.cell?, hrk2.o, strV], by simp [World.frozen?, hrk2.o]⟩
      rw [hro.cellAt _ (by omega)]
      rw [hm] at e4
      exact e4
    have hmi : ((m : Nat) : Int) < ((m + 1 : Nat) : Int) := by omega
    have hm0 : (0 : Int) < ((m + 1 : Nat) : Int) := by omega
    cases hrt : rl.e.tx with
    | false =>
      have e5 : addTx (esQ Q) ((topS s : Int) - 1) tx = esQ Q ++ [⟨(topS s : Int) - 1, [], [], tx, true⟩] := by
        unfold addTx
        rw [e1]
        simp only [Int.toNat_natCast]
        rw [eq1]
        simp [hrt]
      rw [e5]
      go_enter Tryd.func10, Tryd.ntmps10
      rcases hc with ⟨h0, ht⟩ | ⟨h1, ht, hnm⟩
      · go_wp2_with (first
          | (refine hl.mono ?_; rintro e W2 ⟨rfl, hB, -⟩; have hrk := hB.rk _ ra hra; have d3 : W2.cell? ⟨ra.o, 3, none⟩ = some (.bool false) := (by simp [World.cell?, hrk.o, ht]); have dm := hB.b3; unfold strV at dm; have d1 : W2.cell? ⟨ra.o, 1, none⟩ = some (.slice (some ⟨g, 0, none⟩) (m + 1) cap) := (by simp [World.cell?, hrk.o, hvp]); obtain ⟨l1, l2, l3, l4⟩ := hlr hB; rw [hrt] at l2)
          | (at_builtin; go_loud (refine app_o rfl _ _ rfl (hrow hB _) rfl _ rfl rfl (by simp) (by omega) (hbase hB _) ?_); intro g2 cap2 W3 hown' hgrow hor; obtain ⟨⟨f1, f2⟩, Q', q1, q2, hP⟩ := hB.newText hra hka hQ tx hm hvp hown' hgrow hor; have p1 := hP.b2; have p2 := hP.bf 2))
        go_end0
        exact ⟨rfl, Q', q1, by rw [show ((Q'.length : Int) - 1) = Q.length by omega]; exact hP.setCount _⟩
      · obtain ⟨n1, n2⟩ := hnames h1 hnm
        go_wp2_with (first
          | (refine hl.mono ?_; rintro e W2 ⟨rfl, hB, -⟩; have hrk := hB.rk _ ra hra; have d3 : W2.cell? ⟨ra.o, 3, none⟩ = some (.bool true) := (by simp [World.cell?, hrk.o, ht]); have dm := hB.b3; unfold strV at dm; have d1 : W2.cell? ⟨ra.o, 1, none⟩ = some (.slice (some ⟨g, 0, none⟩) (m + 1) cap) := (by simp [World.cell?, hrk.o, hvp]); have dn : W2.cell? ⟨ra.o, 0, none⟩ = some (.pointer (some ⟨ra.nb, 0, none⟩)) := (by simp [World.cell?, hrk.o, npV, ht, ptrV]); have dnn : W2.cell? ⟨ra.nb, 0, none⟩ = some (.string ⟨ra.e.name.toArray⟩) := (by simp [World.cell?, (hrk.nod ht).1, strV]); obtain ⟨l1, l2, l3, l4⟩ := hlr hB; rw [hrt] at l2)
          | (at_builtin; go_loud (refine app_o rfl _ _ rfl (hrow hB _) rfl _ rfl rfl (by simp) (by omega) (hbase hB _) ?_); intro g2 cap2 W3 hown' hgrow hor; obtain ⟨⟨f1, f2⟩, Q', q1, q2, hP⟩ := hB.newText hra hka hQ tx hm hvp hown' hgrow hor; have p1 := hP.b2; have p2 := hP.bf 2))
        go_end0
        exact ⟨rfl, Q', q1, by rw [show ((Q'.length : Int) - 1) = Q.length by omega]; exact hP.setCount _⟩
    | true =>
      have e5 : addTx (esQ Q) ((topS s : Int) - 1) tx = (esQ Q).set j { rl.e with text := rl.e.text ++ tx } := by
        unfold addTx
        rw [e1]
        simp only [Int.toNat_natCast]
        rw [eq1]
        simp [hrt]
      rw [e5]
      have hlt := hlen rl.e (List.mem_of_getElem? eq1)
      go_enter Tryd.func10, Tryd.ntmps10
      rcases hc with ⟨h0, ht⟩ | ⟨h1, ht, hnm⟩
      · go_wp2_with (refine hl.mono ?_; rintro e W2 ⟨rfl, hB, -⟩; have hrk := hB.rk _ ra hra; have d3 : W2.cell? ⟨ra.o, 3, none⟩ = some (.bool false) := (by simp [World.cell?, hrk.o, ht]); have dm := hB.b3; unfold strV at dm; have d1 : W2.cell? ⟨ra.o, 1, none⟩ = some (.slice (some ⟨g, 0, none⟩) (m + 1) cap) := (by simp [World.cell?, hrk.o, hvp]); obtain ⟨l1, l2, l3, l4⟩ := hlr hB; rw [hrt] at l2)
        exact bodyPost_ret (results_none rfl _ _ _) rfl ⟨rfl, Q.set (j + 1) { rl with e := { rl.e with text := rl.e.text ++ tx } }, esQ_set, by rw [List.length_set]; exact hB.text hrl hrt _⟩
      · obtain ⟨n1, n2⟩ := hnames h1 hnm
        go_wp2_with (refine hl.mono ?_; rintro e W2 ⟨rfl, hB, -⟩; have hrk := hB.rk _ ra hra; have d3 : W2.cell? ⟨ra.o, 3, none⟩ = some (.bool true) := (by simp [World.cell?, hrk.o, ht]); have dm := hB.b3; unfold strV at dm; have d1 : W2.cell? ⟨ra.o, 1, none⟩ = some (.slice (some ⟨g, 0, none⟩) (m + 1) cap) := (by simp [World.cell?, hrk.o, hvp]); have dn : W2.cell? ⟨ra.o, 0, none⟩ = some (.pointer (some ⟨ra.nb, 0, none⟩)) := (by simp [World.cell?, hrk.o, npV, ht, ptrV]); have dnn : W2.cell? ⟨ra.nb, 0, none⟩ = some (.string ⟨ra.e.name.toArray⟩) := (by simp [World.cell?, (hrk.nod ht).1, strV]); obtain ⟨l1, l2, l3, l4⟩ := hlr hB; rw [hrt] at l2)
        exact bodyPost_ret (results_none rfl _ _ _) rfl ⟨rfl, Q.set (j + 1) { rl with e := { rl.e with text := rl.e.text ++ tx } }, esQ_set, by rw [List.length_set]; exact hB.text hrl hrt _⟩
end
end Go.VL.BtChars
