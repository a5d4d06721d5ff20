/- auto.pairs, walked. -/
import Derived.Test.YtkjiccficfcaeaaPairsC
import Derived.Deep.RegionLaw
import Derived.Deep.CutRange
import Derived.Shelf.RegionOpenPlain
import Derived.WalkSpells
import Derived.Calls
import Derived.Lib.Hide
set_option linter.unusedVariables false
set_option linter.unusedSimpArgs false
namespace Go.VL.PairsRaw
open Go Go.Proofs Go.VL Go.RowKit Go.Maps Go.VL.MapPair Go.VL.PairStep Go.VL.PairsA Go.VL.PairsB Go.VL.PairsC
set_option maxRecDepth 100000
theorem dA_in {l : List (List Int)} {p : Int} {c : Nat} (h : ∀ r ∈ l, r.length = 8 ∧ ∀ x ∈ r, -1 ≤ x ∧ x < (l.length : Int)) (hc : c < 8) (h1 : -1 ≤ p) (h2 : p < l.length) : -1 ≤ dA l p c ∧ dA l p c < l.length := by
  unfold dA
  split
  · obtain ⟨r, hr⟩ : ∃ r, l[p.toNat]? = some r := ⟨_, List.getElem?_eq_getElem (by omega)⟩
    obtain ⟨h8, hx⟩ := h r (List.mem_of_getElem? hr)
    obtain ⟨y, hy⟩ : ∃ y, r[c]? = some y := ⟨_, List.getElem?_eq_getElem (by omega)⟩
    rw [hr]
    simp only [Option.getD_some, hy]
    exact hx y (List.mem_of_getElem? hy)
  · exact ⟨by omega, by omega⟩
theorem infoP : (Try.prog.info? 37).map (fun i => (i.zero, i.size, i.bytes)) = some (some (.agg #[.int .i64 0, .int .i64 0]), 2, 16) := by kernel_rfl
theorem info8 : (Try.prog.info? 51).map (fun i => (i.zero, i.size, i.bytes)) = some (some (.agg #[.int .i64 0, .int .i64 0, .int .i64 0, .int .i64 0, .int .i64 0, .int .i64 0, .int .i64 0, .int .i64 0]), 8, 64) := by kernel_rfl
theorem zI (w : World) : (zeroValue 3).run Try.prog w = .ok (.int .i64 0) w := by kernel_rfl
theorem app_8 {ops : Array Oper} {rest : List Oper} {o : Oper} {a : Act} {Q : Exit → Act → World → Prop} (hgd : o.guard = none) (s x : Operand)
    (hop : o.op = .call { callee := .builtin .append, args := #[s, x], argTypes := #[32, 32] }) {WX : World} {n0 : Nat} {v : Value} {n : Nat} {xs : List Value} (hown : WX.ownsRow n0 51 8 v n xs) (hs : a.eval s = v)
    (ys : List Value) (hy : ys.length = 8) (h1 : ∀ u ∈ ys, u.oneCell' = true) {bx : Nat} (hx : a.eval x = .slice (some ⟨bx, 0, none⟩) 1 1) (hbx : bx = WX.heap.size) (hn : n < 2 ^ 30) (hn0 : n0 ≤ WX.heap.size)
    (hK : ∀ g cap w', w'.ownsRow n0 51 8 (.slice (some ⟨g, 0, none⟩) (n + 1) cap) (n + 1) (xs ++ ys) → (WX.alloc (.cells ys.toArray 51)).grownBy w' v.ownBlock →
      wpList Try.prog ops Q rest (a.put o.dst (.slice (some ⟨g, 0, none⟩) (n + 1) cap)) w') :
    wpList Try.prog ops Q (o :: rest) a (WX.alloc (.cells ys.toArray 51)) := by
  subst hbx
  obtain ⟨i0, hi, hz0, hz1, hz2⟩ := info_parts info8
  refine wpList_append_lies _ hgd s x 32 hop n0 51 i0 _ 8 64 Try.underlying32 hi hz0 hz1 hz2 rfl (by decide) v n xs hs (hown.alloc _) ⟨WX.heap.size, 0, none⟩ 1 1 ys hx (by rw [hy]) (World.news_of_block (World.alloc_heap_new WX _)) h1 (by omega) ?_ (by omega) (by simp; omega) (WX.heap.size + 1) (by simp) (fun g cap w' k1 k2 k3 k4 => hK g cap w' k1 k2)
  have : maxLen = 9223372036854775807 := rfl
  omega
theorem app_p {ops : Array Oper} {rest : List Oper} {o : Oper} {a : Act} {Q : Exit → Act → World → Prop} (hgd : o.guard = none) (s x : Operand)
    (hop : o.op = .call { callee := .builtin .append, args := #[s, x], argTypes := #[31, 31] }) {WX : World} {n0 : Nat} {v : Value} {n : Nat} {xs : List Value} (hown : WX.ownsRow n0 37 2 v n xs) (hs : a.eval s = v)
    (ys : List Value) (hy : ys.length = 2) (h1 : ∀ u ∈ ys, u.oneCell' = true) {bx : Nat} (hx : a.eval x = .slice (some ⟨bx, 0, none⟩) 1 1) (hbx : bx = WX.heap.size) (hn : n < 2 ^ 30) (hn0 : n0 ≤ WX.heap.size)
    (hK : ∀ g cap w', w'.ownsRow n0 37 2 (.slice (some ⟨g, 0, none⟩) (n + 1) cap) (n + 1) (xs ++ ys) → (WX.alloc (.cells ys.toArray 37)).grownBy w' v.ownBlock →
      wpList Try.prog ops Q rest (a.put o.dst (.slice (some ⟨g, 0, none⟩) (n + 1) cap)) w') :
    wpList Try.prog ops Q (o :: rest) a (WX.alloc (.cells ys.toArray 37)) := by
  subst hbx
  obtain ⟨i0, hi, hz0, hz1, hz2⟩ := info_parts infoP
  refine wpList_append_lies _ hgd s x 31 hop n0 37 i0 _ 2 16 Try.underlying31 hi hz0 hz1 hz2 rfl (by decide) v n xs hs (hown.alloc _) ⟨WX.heap.size, 0, none⟩ 1 1 ys hx (by rw [hy]) (World.news_of_block (World.alloc_heap_new WX _)) h1 (by omega) ?_ (by omega) (by simp; omega) (WX.heap.size + 1) (by simp) (fun g cap w' k1 k2 k3 k4 => hK g cap w' k1 k2)
  have : maxLen = 9223372036854775807 := rfl
  omega
theorem wrap_n {x : Nat} (h : x < 2 ^ 40) : wrap64 (x : Int) = x := by unfold wrap64; omega
theorem me8 (j c : Nat) (h : j < c) : c - (intOf (.int .i64 ((j : Int) + 1))).toNat < c - (intOf (.int .i64 (j : Int))).toNat := by simp [intOf]; omega
theorem va1 (k : Nat) : Value.int .i64 ((k : Int) + 1) = .int .i64 ((k + 1 : Nat) : Int) := rfl
set_option maxHeartbeats 8000000 in
theorem pairs_raw (la lb : List (List Int)) (x1 y1 x2 y2 : Value) (w : World) (hla : 1 ≤ la.length ∧ la.length ≤ 40) (hlb : 1 ≤ lb.length ∧ lb.length ≤ 40) (ha : ∀ r ∈ la, r.length = 8 ∧ ∀ x ∈ r, -1 ≤ x ∧ x < (la.length : Int)) (hb : ∀ r ∈ lb, r.length = 8 ∧ ∀ x ∈ r, -1 ≤ x ∧ x < (lb.length : Int))
    (hstep : ∀ (W : World) (p : Int × Int) (c : Nat), Below w.heap.size w W → inR la.length lb.length p → c < 8 → Calls Try.prog 18 #[pv p, .agg #[x1, y1], .agg #[x2, y2], .int .i64 c] W fun e W' => e = .returned (pv (dA la p.1 c, dA lb p.2 c)) ∧ Below W.heap.size W W') :
    Calls Try.prog 7 #[.agg #[x1, y1], .agg #[x2, y2]] w fun e W => ∃ all va vn, e = .returned (.tuple #[va, vn]) ∧ Pv w #[x1, y1] #[x2, y2] la lb all.length 0 all va vn W := by
  have hmm := @run_makeMap Try.prog
  have hsm0 : small (0, 0) := ⟨⟨by omega, by omega⟩, by omega, by omega⟩
  have hb1 := Boxed.new w 25 (.agg #[x1, y1])
  obtain ⟨W2, hW2⟩ : ∃ W2, (w.alloc (.cells #[x1, y1] 25)).alloc (.cells #[x2, y2] 25) = W2 := ⟨_, rfl⟩
  have hsz2 : W2.heap.size = w.heap.size + 1 + 1 := by rw [← hW2]; simp
  have hmade := World.ownsMap_made W2 Try.prog 37 (plainElem (H := Unit) Try.prog 3)
  rw [hsz2] at hmade
  obtain ⟨W4, hup, hm4, hg4⟩ := hmade.update law Try.underlying50 (by decide) (keyOf_pair (0, 0) hsm0) (plainElem_int (H := Unit) Try.underlying3 (q := .i64) (a := 0) (by decide))
  unfold pv at hup
  dsimp only at hup
  go_enter Try.func7, Try.ntmps7
  go_wp2
  have hs4 : w.heap.size + 3 ≤ W4.heap.size := by have := hg4.size; simp at this; omega
  have hP0 : Pv w #[x1, y1] #[x2, y2] la lb 0 0 [(0, 0)] (.slice (some ⟨W4.heap.size, 0, none⟩) 1 1) (.slice none 0 0) (W4.alloc (.cells #[.int .i64 0, .int .i64 0] 37)) := by
    have c1 : W2.heap[w.heap.size]? = some (.cells #[x1, y1] 25 (0, 0)) := by
      rw [← hW2]; exact (Below.heap_alloc _ _ _ (by simp)).trans (World.alloc_heap_new w _)
    have c2 : W2.heap[w.heap.size + 1]? = some (.cells #[x2, y2] 25 (0, 0)) := by
      rw [← hW2]; have := World.alloc_heap_new (w.alloc (.cells #[x1, y1] 25)) (.cells #[x2, y2] 25); rwa [World.size_alloc] at this
    have hlow : ∀ k, k < w.heap.size + 2 → (W4.alloc (.cells #[.int .i64 0, .int .i64 0] 37)).heap[k]? = W2.heap[k]? := fun k hk =>
      (Below.heap_alloc _ _ _ (by omega)).trans ((hg4.block k (by simp; omega) (fun e => by cases e; omega)).trans (Below.heap_alloc _ _ _ (by omega)))
    have hb2 : ∀ k, k < w.heap.size → W2.heap[k]? = w.heap[k]? := fun k hk => by
      rw [← hW2]; exact (Below.heap_alloc _ _ _ (by simp; omega)).trans (Below.heap_alloc _ _ _ hk)
    have hw2 : W2.os = w.os ∧ W2.tape = w.tape ∧ W2.output = w.output := by rw [← hW2]; exact ⟨rfl, rfl, rfl⟩
    refine ⟨(hlow _ (by omega)).trans c1, (hlow _ (by omega)).trans c2, ⟨1, _, hm4.kept (World.grownBy_alloc W4 _ none) (by simp), by simp, knows_nil.put hsm0 _⟩, World.ownsRow_lit W4 _ 1 (by omega) (by decide) rfl, ⟨_, World.ownsRow_nil _ _ _ _⟩, Met.start, by simp, ?_,
      ⟨hg4.os.trans hw2.1, hg4.tape.trans hw2.2.1, hg4.output.trans hw2.2.2, by simp; omega, fun k hk => (hlow k (by omega)).trans (hb2 k hk)⟩⟩
    intro x hx
    simp at hx; subst hx
    exact ⟨⟨by decide, by simp; omega⟩, by decide, by simp; omega⟩
  clear hm4 hmade hup hb1
  go_loopw [7, 8, 9] (fun va vn vi wr => ∃ (i : Nat) (all : List (Int × Int)), vi = .int .i64 i ∧ i ≤ all.length ∧ Pv w #[x1, y1] #[x2, y2] la lb i 0 all va vn wr)
    (fun _ _ i _ => 1700 - (intOf i).toNat)
  case atStart => exact ⟨0, [(0, 0)], rfl, by simp, hP0⟩
  case round =>
    obtain ⟨i, all, rfl, hi, hP⟩ := hrel
    obtain ⟨sa, sl, rfl⟩ : ∃ a c, u7 = .slice a all.length c := by
      rcases hP.row.2 with ⟨rfl, h0⟩ | ⟨g, cap, cur, rfl, _⟩
      · exact ⟨none, 0, by rw [h0]⟩
      · exact ⟨_, _, rfl⟩
    by_cases hlt : i < all.length
    case neg =>
      have hlt2 : ¬ ((i : Int) < all.length) := by omega
      have hie : i = all.length := by omega
      subst hie
      go_wp2
      go_ret2
      exact ⟨all, _, _, rfl, hP⟩
    have hlt2 : ((i : Int) < all.length) := by omega
    go_wp2
    obtain ⟨p, hp⟩ : ∃ p, all[i]? = some p := ⟨_, List.getElem?_eq_getElem hlt⟩
    obtain ⟨B, hB⟩ : ∃ B, B = wr.heap.size := ⟨_, rfl⟩
    obtain ⟨nxs, hnx⟩ := hP.nxt
    have hvB : u8.ownBlock ≠ some B := fun e => by have := (hnx.lt B e).2; omega
    have hBn : w.heap.size + 2 < B := by
      obtain ⟨cnt, D, m1, _⟩ := hP.map
      have := m1.lt; omega
    obtain ⟨WA, hWA⟩ : ∃ WA, wr.alloc (.cells #[.int .i64 0, .int .i64 0, .int .i64 0, .int .i64 0, .int .i64 0, .int .i64 0, .int .i64 0, .int .i64 0] 51) = WA := ⟨_, rfl⟩
    have hPA : Pv w #[x1, y1] #[x2, y2] la lb i 0 all (.slice sa all.length sl) u8 WA := by rw [← hWA]; exact hP.alloc _
    have hAB : WA.heap[B]? = some (.cells (([0, 0, 0, 0, 0, 0, 0, 0] : List Int).map (Value.int .i64)).toArray 51 (0, 0)) := by rw [← hWA, hB]; exact World.alloc_heap_new wr _
    rw [hWA, ← hB]
    clear hB hWA hP hnx
    go_loopw [7, 26] (fun va vj w3 => ∃ (n : Nat) (all2 : List (Int × Int)) (sa2 : Option Addr) (sl2 : Nat) (cs : List Int), n ≤ 8 ∧ vj = .int .i64 n ∧ all2[i]? = some p ∧ va = .slice sa2 all2.length sl2 ∧ Pv w #[x1, y1] #[x2, y2] la lb i n all2 va u8 w3 ∧
        cs.length = 8 ∧ w3.heap[B]? = some (.cells (cs.map (Value.int .i64)).toArray 51 (0, 0)))
      (fun _ j _ => 8 - (intOf j).toNat)
    case atStart => exact ⟨0, all, sa, sl, _, by omega, rfl, hp, rfl, hPA, rfl, hAB⟩
    case round =>
      obtain ⟨n, all2, sa2, sl2, cs, hn, rfl, hp2, rfl, hP2, hcs, hcB⟩ := hrel
      by_cases hn8 : n < 8
      case neg =>
        have hn9 : n = 8 := by omega
        subst hn9
        obtain ⟨c0, c1, c2, c3, c4, c5, c6, c7, rfl⟩ : ∃ c0 c1 c2 c3 c4 c5 c6 c7, cs = [c0, c1, c2, c3, c4, c5, c6, c7] := by
          match cs, hcs with
          | [c0, c1, c2, c3, c4, c5, c6, c7], _ => exact ⟨_, _, _, _, _, _, _, _, rfl⟩
        have q0 : wr.cell? ⟨B, 0, none⟩ = some (.int .i64 c0) := by simp [World.cell?, hcB]
        have q1 : wr.cell? ⟨B, 1, none⟩ = some (.int .i64 c1) := by simp [World.cell?, hcB]
        have q2 : wr.cell? ⟨B, 2, none⟩ = some (.int .i64 c2) := by simp [World.cell?, hcB]
        have q3 : wr.cell? ⟨B, 3, none⟩ = some (.int .i64 c3) := by simp [World.cell?, hcB]
        have q4 : wr.cell? ⟨B, 4, none⟩ = some (.int .i64 c4) := by simp [World.cell?, hcB]
        have q5 : wr.cell? ⟨B, 5, none⟩ = some (.int .i64 c5) := by simp [World.cell?, hcB]
        have q6 : wr.cell? ⟨B, 6, none⟩ = some (.int .i64 c6) := by simp [World.cell?, hcB]
        have q7 : wr.cell? ⟨B, 7, none⟩ = some (.int .i64 c7) := by simp [World.cell?, hcB]
        obtain ⟨xs, n1⟩ := hP2.nxt
        have hbd := few hP2.nodup hP2.inr
        have hm1 : (la.length + 1) * (lb.length + 1) ≤ 41 * 41 := Nat.mul_le_mul (by omega) (by omega)
        have hil := (List.getElem?_eq_some_iff.1 hp2).1
        have hi2 : i < 1700 := by omega
        have hi3 : i < 2 ^ 30 := by omega
        have hwi : wrap64 ((i : Int) + 1) = (i : Int) + 1 := wrap_n (x := i + 1) (by omega)
        have hbs := hP2.bel.size
        go_wp2_with (at_builtin; refine app_8 rfl _ _ rfl n1 rfl [.int .i64 c0, .int .i64 c1, .int .i64 c2, .int .i64 c3, .int .i64 c4, .int .i64 c5, .int .i64 c6, .int .i64 c7] rfl (by simp [Value.oneCell']) rfl rfl hi3 hbs ?_; intro g cap2 w' hown' hgrow)
        exact ⟨⟨i + 1, all2, by first | exact va1 i | (rw [hwi]; exact va1 i), hil, hP2.next hown' hgrow⟩, by first | exact me8 _ _ hi2 | (rw [hwi]; exact me8 _ _ hi2)⟩
      have hn2 : (n : Int) < 8 := by omega
      have hil := (List.getElem?_eq_some_iff.1 hp2).1
      have hil2 : (i : Int) < all2.length := by omega
      obtain ⟨g, gc, hsl, hg1, hg2⟩ := hP2.row.form (by omega)
      simp only [Value.slice.injEq] at hsl
      obtain ⟨rfl, -, rfl⟩ := hsl
      have hbd := few hP2.nodup hP2.inr
      have hm1 : (la.length + 1) * (lb.length + 1) ≤ 41 * 41 := Nat.mul_le_mul (by omega) (by omega)
      have hal : all2.length < 2 ^ 30 := by omega
      obtain ⟨pa, pb⟩ := pcs2_at hp2
      have ca : wr.cell? ⟨g, i * 2, none⟩ = some (.int .i64 p.1) := by rw [hP2.row.cellAt _ (by omega)]; exact pa
      have cb : wr.cell? ⟨g, i * 2 + 1, none⟩ = some (.int .i64 p.2) := by rw [hP2.row.cellAt _ (by omega)]; exact pb
      have d1 : wr.cell? ⟨w.heap.size, 0, none⟩ = some x1 := by simp [World.cell?, hP2.box1]
      have d2 : wr.cell? ⟨w.heap.size, 1, none⟩ = some y1 := by simp [World.cell?, hP2.box1]
      have d3 : wr.cell? ⟨w.heap.size + 1, 0, none⟩ = some x2 := by simp [World.cell?, hP2.box2]
      have d4 : wr.cell? ⟨w.heap.size + 1, 1, none⟩ = some y2 := by simp [World.cell?, hP2.box2]
      have hpi := hP2.inr p (List.mem_of_getElem? hp2)
      have bdr : ∀ {W : World}, Below w.heap.size w W → Below w.heap.size w W.drew := fun h => ⟨h.os, h.tape, h.output, h.size, h.block⟩
      have hs := fun (W : World) (hW : Below w.heap.size w W) => hstep W p n hW hpi hn8
      have bw1 : Below w.heap.size w wr.drew := bdr hP2.bel
      have bw2 : Below w.heap.size w (wr.alloc (.cells #[.int .i64 0, .int .i64 0] 37)).drew := bdr (hP2.bel.alloc hP2.bel.size _)
      clear bdr
      obtain ⟨q, hq⟩ : ∃ q, q = (dA la p.1 n, dA lb p.2 n) := ⟨_, rfl⟩
      have hqr : inR la.length lb.length q := by rw [hq]; exact ⟨dA_in ha hn8 hpi.1.1 hpi.1.2, dA_in hb hn8 hpi.2.1 hpi.2.2⟩
      rw [← hq] at hs
      unfold pv at hs
      have hqH := Lib.hid hq
      clear hq
      have k5 : ∀ {W5 : World}, Below (wr.alloc (.cells #[.int .i64 0, .int .i64 0] 37)).drew.heap.size (wr.alloc (.cells #[.int .i64 0, .int .i64 0] 37)).drew W5 → W5.cell? ⟨wr.heap.size, 0, none⟩ = some (.int .i64 0) ∧ W5.cell? ⟨wr.heap.size, 1, none⟩ = some (.int .i64 0) ∧ W5.frozen? ⟨wr.heap.size, 0, none⟩ = false ∧ W5.frozen? ⟨wr.heap.size, 1, none⟩ = false := fun h => by
        have e := (h.block wr.heap.size (by simp [World.drew])).trans (World.alloc_heap_new wr (.cells #[.int .i64 0, .int .i64 0] 37))
        simp [World.cell?, World.frozen?, e]
      have s1 : w.heap.size < wr.heap.size := by have := (Array.getElem?_eq_some_iff.1 hP2.box1).1; omega
      have s2 : w.heap.size + 1 < wr.heap.size := by have := (Array.getElem?_eq_some_iff.1 hP2.box2).1; omega
      go_upto_region 11 with fail
      go_cut [12] from 28 to 57 (fun tv wx => Rel w #[x1, y1] #[x2, y2] la lb i n all2 (.slice (some ⟨g, 0, none⟩) all2.length sl2) u8 B (cs.map (Value.int .i64)).toArray q tv wx)
      case first =>
        go_region_law (first
          | (go_simp; refine (hs _ (by first | exact bw1 | exact bw2)).mono ?_; rintro e W5 ⟨rfl, hb5⟩; try have hk5 := k5 hb5))
        all_goals (go_wp2_with fail; go_meet)
        all_goals (first | exact relA hP2 hcB _ hb5 | exact relB hP2 hcB _ hb5)
      case rest =>
        obtain ⟨H, rfl, hHB, hHl, hHc, hHr, hP3, hcB3⟩ := hcut
        obtain ⟨cnt, Dm, hown, hcnt, hkn⟩ := hP3.map
        have hqs := hqr.small hla.2 hlb.2
        have h0 : wc.cell? ⟨H, 0, none⟩ = some (.int .i64 q.1) := by simp [World.cell?, hHc]
        have h1 : wc.cell? ⟨H, 1, none⟩ = some (.int .i64 q.2) := by simp [World.cell?, hHc]
        have hkq := keyOf_pair q hqs
        unfold pv at hkq
        have hmem := hkn.2 q hqs
        obtain ⟨yv, hyv⟩ : ∃ y, cs[n]? = some y := ⟨_, List.getElem?_eq_getElem (by omega)⟩
        have hBc : wc.cell? ⟨B, n, none⟩ = some (.int .i64 yv) := by simp [World.cell?, hcB3, hyv]
        have hBf : wc.frozen? ⟨B, n, none⟩ = false := by simp [World.frozen?, hcB3]
        cases hhas : Maps.has Dm (kl q) with
        | true =>
          go_wp2_with (at_lookup; go_must (refine wpList_lookup_own_ok_int _ rfl _ _ 50 rfl 37 3 .i64 law Try.underlying50 Try.underlying3 (zI _) _ _ _ rfl hown _ _ rfl hkq ?_); intro c hat hwc; rw [hhas])
          have hP4 := (hP3.known hp2 (by rw [← hqH.out]; exact hmem.1 hhas)).store (a := ⟨B, n, none⟩) (.int .i64 c) hBn hcB3 (by decide) (.inr hvB)
          have hc4 := setCell_at (n := n) (v := .int .i64 c) hcB3
          rw [arr_set] at hc4
          exact ⟨⟨n + 1, all2, _, _, _, hn8, va1 n, hp2, rfl, hP4, by simp [hcs], hc4⟩, me8 _ _ hn8⟩
        | false =>
          have hnin : q ∉ all2 := fun h => by have := hmem.2 h; rw [hhas] at this; cases this
          have hcm : cnt < maxLen := by
            have : maxLen = 9223372036854775807 := rfl
            omega
          have hint : plainElem (H := Unit) Try.prog 3 (.int .i64 (all2.length : Int)) = some (.lit (.int .i64 (all2.length : Int)), []) := plainElem_int Try.underlying3 (by
            have hmin : IntKind.i64.min = -9223372036854775808 := rfl
            have hmax : IntKind.i64.max = 9223372036854775807 := rfl
            simp [Lit.wf, hmin, hmax]; omega)
          have hHl2 := (Array.getElem?_eq_some_iff.1 hHc).1
          have hBl2 := (Array.getElem?_eq_some_iff.1 hcB3).1
          have hvm := map_ne hP3.row hown
          have hvB2 := owns_ne hP3.row hcB3 (by decide)
          have hbs3 := hP3.bel.size
          have hfin : ∀ {W1 : World} {wX : World} {g2 : Nat} {cap2 : Nat}, W1.ownsMap Try.prog 37 (plainElem (H := Unit) Try.prog 3) (w.heap.size + 2) (cnt + 1) (Dm.put (kl q) (.lit (.int .i64 (all2.length : Int)))) → wc.grownBy W1 (some (w.heap.size + 2)) →
              wX.ownsRow w.heap.size 37 2 (.slice (some ⟨g2, 0, none⟩) (all2.length + 1) cap2) (all2.length + 1) (pcs2 all2 ++ [.int .i64 q.1, .int .i64 q.2]) → (W1.alloc (.cells #[.int .i64 q.1, .int .i64 q.2] 37)).grownBy wX (some g) →
              wX.heap[B]? = some (.cells (cs.map (Value.int .i64)).toArray 51 (0, 0)) ∧ Pv w #[x1, y1] #[x2, y2] la lb i (n + 1) (all2 ++ [q]) (.slice (some ⟨g2, 0, none⟩) (all2.length + 1) cap2) u8 wX := by
            intro W1 wX g2 cap2 a1 a2 a3 a4
            have s5 := a2.size
            refine ⟨(a4.block B (by simp; omega) (fun e => hvB2 e.symm)).trans ((Below.heap_alloc _ _ _ (by omega)).trans ((a2.block B hBl2 (fun e => by simp at e; omega)).trans hcB3)), ?_⟩
            have e := hqH.out
            have := hP3.more (o := .cells #[.int .i64 q.1, .int .i64 q.2] 37) hp2 hn8 (by rw [← e]; exact hnin) (by rw [← e]; exact hqr) ⟨hla.2, hlb.2⟩ hcnt hkn (by rw [← e]; exact a1) a2 (va' := .slice (some ⟨g2, 0, none⟩) (all2.length + 1) cap2) (W2 := wX) (by have e1 := congrArg Prod.fst e; have e2 := congrArg Prod.snd e; simp only at e1 e2; rw [← e1, ← e2]; exact a3) a4
            rw [← e] at this
            exact this
          have hmid : ∀ {W1 : World}, wc.grownBy W1 (some (w.heap.size + 2)) → W1.cell? ⟨H, 0, none⟩ = some (.int .i64 q.1) ∧ W1.cell? ⟨H, 1, none⟩ = some (.int .i64 q.2) ∧ W1.ownsRow w.heap.size 37 2 (.slice (some ⟨g, 0, none⟩) all2.length sl2) all2.length (pcs2 all2) ∧ w.heap.size ≤ W1.heap.size := fun a2 => by
            have e := (a2.block H hHl2 (fun e => by simp at e; omega)).trans hHc
            have s5 := a2.size
            exact ⟨by simp [World.cell?, e], by simp [World.cell?, e], hP3.row.kept a2 (.inr hvm), by omega⟩
          go_wp2_with (first
            | (at_lookup; go_must (refine wpList_lookup_own_ok_int _ rfl _ _ 50 rfl 37 3 .i64 law Try.underlying50 Try.underlying3 (zI _) _ _ _ rfl hown _ _ rfl hkq ?_); intro c hat hwc; rw [hhas])
            | (at_mapUpdate; go_must (refine wpList_mapUpdate_own _ rfl _ _ _ 50 rfl 37 3 law Try.underlying50 _ _ _ _ rfl hown hcm _ _ _ rfl rfl hkq _ _ hint ?_); intro W1 hmu hgu; obtain ⟨e7, e8, hrw, hsz7⟩ := hmid hgu)
            | (at_builtin; go_loud (refine app_p rfl _ _ rfl hrw rfl [.int .i64 q.1, .int .i64 q.2] rfl (by simp [Value.oneCell']) rfl rfl hal hsz7 ?_); intro g2 cap2 wX hown' hgrow; obtain ⟨hB8, hP8⟩ := hfin hmu hgu hown' hgrow; have hBc8 : wX.cell? ⟨B, n, none⟩ = some (.int .i64 yv) := (by simp [World.cell?, hB8, hyv]); have hBf8 : wX.frozen? ⟨B, n, none⟩ = false := (by simp [World.frozen?, hB8])))
          have hP4 := hP8.store (a := ⟨B, n, none⟩) (.int .i64 (all2.length : Int)) hBn hB8 (by decide) (.inr hvB)
          have hc4 := setCell_at (n := n) (v := .int .i64 (all2.length : Int)) hB8
          rw [arr_set] at hc4
          have hpa : (all2 ++ [q])[i]? = some p := by rw [List.getElem?_append_left hil]; exact hp2
          exact ⟨⟨n + 1, all2 ++ [q], some ⟨g2, 0, none⟩, cap2, _, hn8, va1 n, hpa, by simp, hP4, by simp [hcs], hc4⟩, me8 _ _ hn8⟩
end Go.VL.PairsRaw
