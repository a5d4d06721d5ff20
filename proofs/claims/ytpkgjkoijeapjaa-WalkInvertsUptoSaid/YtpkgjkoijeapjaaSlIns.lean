/- slices.Insert of nodes, in cells. -/
import Derived.Test.YtpkgjkoijeapjaaSlDel
import Derived.Lib.AppendZerosOnto
import Derived.Lib.Overlaps
import Derived.Laws.Externs
set_option linter.unusedVariables false
set_option linter.unusedSimpArgs false
namespace Go.VL.SlIns
open Go Go.Proofs Go.VL Go.RowKit Go.VL.SlDel
set_option maxRecDepth 1000000
theorem t3 : Try.prog.underlying 3 = some (.int .i64) := by kernel_rfl
theorem t4 : Try.prog.underlying 4 = some .bool := by kernel_rfl
theorem t30 : Try.prog.underlying 30 = some (.slice 62) := by kernel_rfl
theorem mix : Try.prog.follows .mixedOrders = true := by kernel_rfl
theorem infoB : (Try.prog.info? 62).map (·.bytes) = some 80 := by kernel_rfl
theorem info : ∃ i0, Try.prog.info? 62 = some i0 ∧ i0.zero = some (.agg zcs.toArray) ∧ i0.size = 4 := by
  cases h : Try.prog.info? 62 with
  | none => have := i_nd; rw [h] at this; cases this
  | some i0 =>
    have := i_nd
    rw [h] at this
    simp at this
    exact ⟨i0, rfl, this.1, this.2⟩
set_option maxHeartbeats 4000000 in
theorem ins_shift (b off n c i vb voff m vc : Nat) (cs vs : List Value) (w : World) (hi : i < n) (hm : 0 < m) (hroom : n + m ≤ c) (hc63 : n + m ≤ 9223372036854775807) (hvb : vb ≠ b)
    (hcl : cs.length = n * 4) (hvl : vs.length = m * 4)
    (hcs : ∀ j v, cs[j]? = some v → w.cell? ⟨b, off + j, none⟩ = some v) (hsp : ∀ j, j < (n + m) * 4 → (w.cell? ⟨b, off + j, none⟩).isSome = true) (hfz : ∀ j, j < (n + m) * 4 → w.frozen? ⟨b, off + j, none⟩ = false)
    (hvs : ∀ j v, vs[j]? = some v → w.cell? ⟨vb, voff + j, none⟩ = some v) (h1c : ∀ v ∈ cs, v.oneCell' = true) (h1v : ∀ v ∈ vs, v.oneCell' = true)
    (tA tB : TypeId) (kA kB : Nat) (hsa : w.shape? vb = some (tA, kA)) (hsb : w.shape? b = some (tB, kB)) (hkB : kB ≠ 0) (hfa : w.frozen? ⟨vb, voff, none⟩ = false) (hfe : w.frozen? ⟨vb, kA, none⟩ = false) :
    Calls Try.prog 43 #[.slice (some ⟨b, off, none⟩) n c, .int .i64 i, .slice (some ⟨vb, voff, none⟩) m vc] w fun e w' =>
      e = .returned (.slice (some ⟨b, off, none⟩) (n + m) c) ∧ w' = (w.drew.setCells b (off + (i + m) * 4) (cs.drop (i * 4))).setCells b (off + i * 4) vs := by
  have t3 := t3; have t4 := t4; have t30 := t30
  have u3 := run_underlying t3; have u4 := run_underlying t4; have u30 := run_underlying t30
  have mixed := mix
  obtain ⟨i0, hi0, hz0, hz1⟩ := info
  have z62 : ∀ w, (Go.sizeOf 62).run Try.prog w = .ok 4 w := fun w => by rw [← hz1]; exact run_sizeOf hi0 w
  have hnm : ¬ ((m : Int) = 0) := by omega
  have hin' : ¬ ((i : Int) = (n : Int)) := by omega
  have hsz : (Try.prog.info? 62).map (·.size) = some 4 := by rw [hi0]; simp [hz1]
  have hov : ∀ lb cb, (callFunc 46 #[.slice (some ⟨vb, voff, none⟩) m vc, .slice (some ⟨b, off + (i + m) * 4, none⟩) lb cb]).run Try.prog w = .ok (.value (.bool false)) w := fun lb cb => by
    rw [run_callFunc_extern Try.func46 (by kernel_rfl) (by kernel_rfl) (by kernel_rfl) (e := Extern.SlicesOverlaps.overlaps #[30, 30] #[4]) (by kernel_rfl),
      Lib.run_overlaps_apart w 30 4 62 t30 4 z62 ⟨vb, voff, none⟩ ⟨b, off + (i + m) * 4, none⟩ m vc lb cb hvb tA tB kA kB hsa hsb hkB hfa hfe]
    rfl
  have hdl : (cs.drop (i * 4)).length = (n - i) * 4 := by rw [List.length_drop, hcl]; omega
  have hw1 : IntKind.i64.wrap ((i : Int) + (m : Int)) = (i : Int) + (m : Int) := by rw [IntKind.wrap_i64]; omega
  have hb1 : (0 : Int) ≤ (i : Int) + (m : Int) := by omega
  have hin : i ≤ n := by omega
  have htn : ((i : Int) + (m : Int)).toNat = i + m := by omega
  have hb2 : ¬ (c = i + m) := by omega
  have hb3 : (i : Int) ≤ (n : Int) + (m : Int) := by omega
  have hb4 : ¬ (c = i) := by omega
  have hmin1 : Nat.min (n + m - i) (n + m - (i + m)) = n - i := by simp only [Nat.min_def]; split <;> omega
  have hmin2 : Nat.min m (n + m - i) = m := by simp only [Nat.min_def]; split <;> omega
  have hcp1 : ∀ ty q dc sc, (builtin .copy #[30, 30] ty q #[.slice (some ⟨b, off + (i + m) * 4, none⟩) (n + m - (i + m)) dc, .slice (some ⟨b, off + i * 4, none⟩) (n + m - i) sc]).run Try.prog w.drew = .ok (.value (goInt ((n - i : Nat) : Int))) (w.drew.setCells b (off + (i + m) * 4) (cs.drop (i * 4))) := fun ty q dc sc => by
    have := run_copyN w.drew 30 30 ty 62 4 b (off + (i + m) * 4) (n + m - (i + m)) dc ⟨b, off + i * 4, none⟩ (n + m - i) sc (cs.drop (i * 4)) t30 hsz (by rw [hdl, hmin1])
      (fun j v hj => by rw [Addr.add_lit, Nat.add_assoc]; exact hcs (i * 4 + j) v (by rwa [List.getElem?_drop] at hj))
      (fun j hj => by rw [hdl] at hj; rw [Nat.add_assoc]; exact hsp _ (by omega)) (fun j hj => by rw [hdl] at hj; rw [Nat.add_assoc]; exact hfz _ (by omega)) (fun v hv => h1c v (List.mem_of_mem_drop hv))
    rw [hmin1] at this
    simp only [builtin, Sem.run_bind, this, Result.andThen_ok, Sem.run_pure]
  obtain ⟨W1, hW1⟩ : ∃ W1, W1 = w.drew.setCells b (off + (i + m) * 4) (cs.drop (i * 4)) := ⟨_, rfl⟩
  have hsp1 : ∀ k, k < (n + m) * 4 → (W1.cell? ⟨b, off + k, none⟩).isSome = true := fun k hk => by
    rw [hW1]
    exact some_setCells b _ _ _ (fun j hj => by rw [hdl] at hj; rw [Nat.add_assoc]; exact hsp _ (by omega)) _ (hsp k hk)
  have hcp2 : ∀ ty dc, (Builtin.copy_ #[30, 30] ty #[.slice (some ⟨b, off + i * 4, none⟩) (n + m - i) dc, .slice (some ⟨vb, voff, none⟩) m vc]).run Try.prog W1 = .ok (goInt m) (W1.setCells b (off + i * 4) vs) := fun ty dc => by
    have := run_copyN W1 30 30 ty 62 4 b (off + i * 4) (n + m - i) dc ⟨vb, voff, none⟩ m vc vs t30 hsz (by rw [hvl, hmin2])
      (fun j v hj => by
        rw [Addr.add_lit, hW1, World.cell?_setCells_out b _ _ _ _ (fun h _ => absurd h hvb)]
        exact hvs j v hj)
      (fun j hj => by rw [Nat.add_assoc]; exact hsp1 _ (by omega)) (fun j hj => by rw [hW1, World.frozen?_setCells, Nat.add_assoc]; exact hfz _ (by omega)) h1v
    rw [hmin2] at this
    exact this
  rw [← hW1] at hcp1
  have HW1 : Hid (W1 = w.drew.setCells b (off + (i + m) * 4) (cs.drop (i * 4))) := hW1
  clear hW1
  clear hmin1 hmin2 hdl hsz hz0 hz1 hcs hvs hcl hvl
  go_enter Try.func43, Try.ntmps43
  go_wp2_with (simp only [hov])
  go_region_law_o (refine step_built2 .copy rfl _ _ 30 30 rfl (.slice (some ⟨b, off + (i + m) * 4, none⟩) (n + m - (i + m)) (c - (i + m))) (.slice (some ⟨b, off + i * 4, none⟩) (n + m - i) (c - i)) (by simp [Act.eval, Act.put]) (by simp [Act.eval, Act.put]) (fun q => hcp1 _ q _ _) ?_)
  go_wp2
  go_ret
  exact ⟨rfl, by rw [HW1.out]⟩

set_option maxHeartbeats 4000000 in
theorem ins_grow (b off n c i vb voff m vc : Nat) (cs vs : List Value) (w : World) (hi : i < n) (hm : 0 < m) (hnc : n ≤ c) (hroom : c < n + m) (hbig : (n + m) * 80 ≤ 140737488355328)
    (hcl : cs.length = n * 4) (hvl : vs.length = m * 4)
    (hcs : ∀ j v, cs[j]? = some v → w.cell? ⟨b, off + j, none⟩ = some v) (hvs : ∀ j v, vs[j]? = some v → w.cell? ⟨vb, voff + j, none⟩ = some v) (h1c : ∀ v ∈ cs, v.oneCell' = true) (h1v : ∀ v ∈ vs, v.oneCell' = true) :
    Calls Try.prog 43 #[.slice (some ⟨b, off, none⟩) n c, .int .i64 i, .slice (some ⟨vb, voff, none⟩) m vc] w fun e w' =>
      ∃ G ROW, e = .returned (.slice (some ⟨w.heap.size, 0, none⟩) (n + m) G) ∧ n + m ≤ G ∧ ROW = ((cs.take (i * 4)).toArray ++ Builtin.zeroCells (Value.agg zcs.toArray).cells (n + m - i) ++ Builtin.zeroCells (Value.agg zcs.toArray).cells (G - (n + m))) ∧
      w' = (((w.alloc (.cells ROW 62)).drew.setCells w.heap.size (i * 4) vs).drew).setCells w.heap.size ((i + m) * 4) (cs.drop (i * 4)) := by
  have t3 := t3; have t4 := t4; have t30 := t30
  have u3 := run_underlying t3; have u4 := run_underlying t4; have u30 := run_underlying t30
  have mixed := mix
  obtain ⟨i0, hi0, hz0, hz1⟩ := info
  have z62 : ∀ w, (Go.sizeOf 62).run Try.prog w = .ok 4 w := fun w => by rw [← hz1]; exact run_sizeOf hi0 w
  have hzb : i0.bytes = 80 := by have := infoB; rw [hi0] at this; simpa using this
  have hnm : ¬ ((m : Int) = 0) := by omega
  have hin' : ¬ ((i : Int) = (n : Int)) := by omega
  have hz3 : (c : Int) < (n : Int) + (m : Int) := by omega
  have hsz : (Try.prog.info? 62).map (·.size) = some 4 := by rw [hi0]; simp [hz1]
  have hbw : b < w.heap.size := block_lt_of_cell (hcs 0 _ (List.getElem?_eq_getElem (by omega)))
  have hvw : vb < w.heap.size := block_lt_of_cell (hvs 0 _ (List.getElem?_eq_getElem (by omega)))
  have hkk : (n : Int) + (m : Int) - (i : Int) = ((n + m - i : Nat) : Int) := by omega
  have hik : i + (n + m - i) = n + m := by omega
  have hold : (Builtin.firstCells i0.size i (.slice (some ⟨b, off, none⟩) i c)).run Try.prog w.drew = .ok (cs.take (i * 4)).toArray w.drew := by
    rw [hz1]
    exact run_firstCells_some w.drew 4 i ⟨b, off, none⟩ i c (cs.take (i * 4)) (by rw [List.length_take]; omega) (fun j v hj => by
      rw [Addr.add_lit]
      rw [List.getElem?_take] at hj
      split at hj
      · exact hcs j v hj
      · cases hj)
  obtain ⟨G, hG⟩ : ∃ G, G = grownCap w (n + m) c 62 := ⟨_, rfl⟩
  obtain ⟨ROW, hROW⟩ : ∃ ROW : Array Value, ROW = (cs.take (i * 4)).toArray ++ Builtin.zeroCells (Value.agg zcs.toArray).cells (n + m - i) ++ Builtin.zeroCells (Value.agg zcs.toArray).cells (G - (n + m)) := ⟨_, rfl⟩
  have hrz : ∀ ty, (Builtin.append_ #[30, 3] ty #[.slice (some ⟨b, off, none⟩) i c, .int .i64 ((n : Int) + (m : Int) - (i : Int))]).run Try.prog w =
      .ok (.slice (some ⟨w.heap.size, 0, none⟩) (n + m) G) (w.drew.alloc (.cells ROW 62)) := fun ty => by
    have h := Lib.run_append_grow_zeros w 30 3 ty 62 i0 _ .i64 .i64 t30 t3 hi0 hz0 (some ⟨b, off, none⟩) i c (cs.take (i * 4)) hold (n + m - i) (by omega) (by omega) (by omega) (by omega) (by rw [hzb]; omega) (by rw [hzb, hik]; exact growslice_fits hroom hbig)
    rw [hik] at h
    rw [hkk, hROW, hG]
    exact h
  have hcut : (cs.take (i * 4)).length = i * 4 := by rw [List.length_take]; omega
  have hRl : (n + m) * 4 ≤ ROW.size := by
    rw [hROW]
    simp only [Array.size_append, List.size_toArray, hcut, Builtin.zeroCells, Value.cells, Array.size_map, Array.size_range]
    have : zcs.length = 4 := rfl
    rw [this]
    omega
  obtain ⟨W1, hW1⟩ : ∃ W1, W1 = w.drew.alloc (.cells ROW 62) := ⟨_, rfl⟩
  have hN : ∀ j, j < (n + m) * 4 → (W1.cell? ⟨w.heap.size, j, none⟩).isSome = true := fun j hj => by
    rw [hW1, World.cell?_alloc_at (w := w.drew) ROW _ w.heap.size j rfl, Array.getElem?_eq_getElem (by omega)]; rfl
  have hNf : ∀ j, W1.frozen? ⟨w.heap.size, j, none⟩ = false := fun j => by rw [hW1]; exact World.frozen?_alloc_at (w := w.drew) ROW _ w.heap.size j rfl
  have hOb : ∀ j v, w.cell? ⟨b, j, none⟩ = some v → W1.cell? ⟨b, j, none⟩ = some v := fun j v h => by rw [hW1, World.cell?_alloc_past (w := w.drew) _ b j hbw]; exact h
  have hOv : ∀ j v, w.cell? ⟨vb, j, none⟩ = some v → W1.cell? ⟨vb, j, none⟩ = some v := fun j v h => by rw [hW1, World.cell?_alloc_past (w := w.drew) _ vb j hvw]; exact h
  have hGn : n + m ≤ G := by rw [hG]; exact grownCap_ge w _ _ _
  have hG63 : G ≤ 9223372036854775807 := by
    have := grownCap_le_maxLen w (n + m) c 62 (by unfold maxLen; omega)
    rw [← hG] at this
    unfold maxLen at this
    omega
  have hGi : ¬ (G = i) := by omega
  have hGim : ¬ (G = i + m) := by omega
  have hci : ¬ (c = i) := by omega
  have hbN : b ≠ w.heap.size := by omega
  have hdl : (cs.drop (i * 4)).length = (n - i) * 4 := by rw [List.length_drop, hcl]; omega
  have hmin1 : Nat.min (n - i) (n + m - (i + m)) = n - i := by simp only [Nat.min_def]; split <;> omega
  have hmin2 : Nat.min m (n + m - i) = m := by simp only [Nat.min_def]; split <;> omega
  have hcpA : ∀ ty dc, (Builtin.copy_ #[30, 30] ty #[.slice (some ⟨w.heap.size, i * 4, none⟩) (n + m - i) dc, .slice (some ⟨vb, voff, none⟩) m vc]).run Try.prog ((w.alloc (.cells ROW 62)).drew) = .ok (goInt m) ((w.alloc (.cells ROW 62)).drew.setCells w.heap.size (i * 4) vs) := fun ty dc => by
    have := run_copyN ((w.alloc (.cells ROW 62)).drew) 30 30 ty 62 4 w.heap.size (i * 4) (n + m - i) dc ⟨vb, voff, none⟩ m vc vs t30 hsz (by rw [hvl, hmin2])
      (fun j v hj => by rw [Addr.add_lit]; have := hOv _ v (hvs j v hj); rw [hW1] at this; exact this)
      (fun j hj => by have := hN (i * 4 + j) (by omega); rw [hW1] at this; exact this) (fun j hj => by have := hNf (i * 4 + j); rw [hW1] at this; exact this) h1v
    rw [hmin2] at this
    exact this
  have hcpB : ∀ ty q dc sc, (builtin .copy #[30, 30] ty q #[.slice (some ⟨w.heap.size, (i + m) * 4, none⟩) (n + m - (i + m)) dc, .slice (some ⟨b, off + i * 4, none⟩) (n - i) sc]).run Try.prog (((w.alloc (.cells ROW 62)).drew.setCells w.heap.size (i * 4) vs).drew) = .ok (.value (goInt ((n - i : Nat) : Int))) ((((w.alloc (.cells ROW 62)).drew.setCells w.heap.size (i * 4) vs).drew).setCells w.heap.size ((i + m) * 4) (cs.drop (i * 4))) := fun ty q dc sc => by
    have := run_copyN (((w.alloc (.cells ROW 62)).drew.setCells w.heap.size (i * 4) vs).drew) 30 30 ty 62 4 w.heap.size ((i + m) * 4) (n + m - (i + m)) dc ⟨b, off + i * 4, none⟩ (n - i) sc (cs.drop (i * 4)) t30 hsz (by rw [hdl, hmin1])
      (fun j v hj => by
        rw [Addr.add_lit]
        show ((w.alloc (.cells ROW 62)).drew.setCells w.heap.size (i * 4) vs).cell? _ = _
        rw [World.cell?_setCells_out _ _ _ _ _ (fun h _ => absurd h hbN), Nat.add_assoc]
        have := hOb _ v (hcs (i * 4 + j) v (by rwa [List.getElem?_drop] at hj)); rw [hW1] at this; exact this)
      (fun j hj => by
        show (((w.alloc (.cells ROW 62)).drew.setCells w.heap.size (i * 4) vs).cell? _).isSome = true
        rw [hdl] at hj
        exact some_setCells _ _ _ _ (fun t ht => by have := hN (i * 4 + t) (by omega); rw [hW1] at this; exact this) _ (by have := hN ((i + m) * 4 + j) (by omega); rw [hW1] at this; exact this))
      (fun j hj => by
        show ((w.alloc (.cells ROW 62)).drew.setCells w.heap.size (i * 4) vs).frozen? _ = false
        rw [World.frozen?_setCells]; have := hNf ((i + m) * 4 + j); rw [hW1] at this; exact this) (fun v hv => h1c v (List.mem_of_mem_drop hv))
    rw [hmin1] at this
    simp only [builtin, Sem.run_bind, this, Result.andThen_ok, Sem.run_pure]
  subst hW1
  have hw1 : IntKind.i64.wrap ((i : Int) + (m : Int)) = (i : Int) + (m : Int) := by rw [IntKind.wrap_i64]; omega
  have hb1 : (0 : Int) ≤ (i : Int) + (m : Int) := by omega
  have hin : i ≤ n := by omega
  have htn : ((i : Int) + (m : Int)).toNat = i + m := by omega
  have hb3 : (i : Int) ≤ (n : Int) := by omega
  have HROW : Hid (ROW = (cs.take (i * 4)).toArray ++ Builtin.zeroCells (Value.agg zcs.toArray).cells (n + m - i) ++ Builtin.zeroCells (Value.agg zcs.toArray).cells (G - (n + m))) := hROW
  clear hkk hik hold hROW hG hRl hmin1 hmin2 hdl hsz hz0 hz1 hcs hvs hcl hvl hN hNf hOb hOv hcut
  go_enter Try.func43, Try.ntmps43
  go_wp2_with (at_builtin; refine Lib.wpList_append_run _ rfl _ _ _ _ rfl _ _ rfl rfl _ _ (hrz _) ?_)
  go_region_law_o (refine step_built2 .copy rfl _ _ 30 30 rfl (.slice (some ⟨w.heap.size, (i + m) * 4, none⟩) (n + m - (i + m)) (G - (i + m))) (.slice (some ⟨b, off + i * 4, none⟩) (n - i) (c - i)) (by simp [Act.eval, Act.put]) (by simp [Act.eval, Act.put]) (fun q => hcpB _ q _ _) ?_)
  go_wp2
  go_ret
  exact ⟨G, ROW, rfl, hGn, HROW.out, rfl⟩
attribute [local irreducible] CallWP WP Need Br Each NilB fit Both
theorem ins_end (es : List (List D)) (x : List D) (hx : x.length = 4) (hl : es.length ≤ 2 ^ 36) : CallWP Try.prog 43 [.full 0, (.d (.int .i64 ((es.length : Nat)))), .full 1] [(0, .row 62 es), (1, .row 62 [x])] (fun r h => r = .full 2 ∧ h = [(2, .row 62 (es ++ [x]))]) := by
  refine CallWP.drop [1] (Q := fun r h => r = .full 2 ∧ h = [(1, .row 62 [x]), (2, .row 62 (es ++ [x]))]) ?_ (fun r h ⟨h1, h2⟩ => by subst h2; exact ⟨h1, rfl⟩)
  (refine CallWP.go tabOK Try.func43 2 95 rfl rfl rfl rfl ?_; conv => whnf)
  repeat' (first
    | (refine Br.tt ?_; conv => whnf)
    | (refine Br.ff ?_; conv => whnf)
    | (refine Both.mk ?_ ?_ <;> conv => whnf)
    | (refine Br.not ?_)
    | (refine Need.mk ?_ ?_; (focus ((first | omega | exact ⟨by omega, by omega⟩ | rfl | exact trivial | assumption | (simp only [List.length_map, List.length_append, List.length_take, List.length_drop, List.length_cons, List.length_nil, List.length_replicate, List.length_set, List.length_reverse, nds_len, numsD_length]; omega) | (simp only [List.length_map, List.length_append, List.length_take, List.length_drop, List.length_cons, List.length_nil, List.length_replicate, List.length_set, List.length_reverse, nds_len, numsD_length]; exact ⟨by omega, by omega⟩) | exact nds_each | (refine map_each ?_; intro x; rfl) | (refine first_map ?_; intro x; rfl) | exact first_nds | simp | (simp; omega)); done)); conv => whnf)
    | (refine Br.t (by assumption) ?_; conv => whnf)
    | (refine Br.f (by assumption) ?_; conv => whnf)
    | (refine Br.self ?_; conv => whnf)
    | (refine Br.decT (by assumption) ?_; conv => whnf)
    | (refine Br.decF (by assumption) ?_; conv => whnf)
    | (refine Br.eqT (by assumption) ?_; conv => whnf)
    | (refine Br.eqF (by assumption) ?_; conv => whnf)
    | (refine Br.dec (fun hc => ?_) (fun hc => ?_) <;> (try simp only [List.length_map, List.length_append, List.length_take, List.length_drop, List.length_cons, List.length_nil, List.length_replicate, List.length_set, List.length_reverse, nds_len, numsD_length] at hc) <;> first | (exfalso; omega) | exact absurd trivial hc | exact absurd rfl hc | conv => whnf)
    | (refine Br.eq (fun hc => ?_) (fun hc => ?_) <;> first | (exfalso; omega) | exact absurd trivial hc | exact absurd rfl hc | conv => whnf)
    | (refine Br.ne (fun hc => ?_) (fun hc => ?_) <;> first | (exfalso; omega) | exact absurd trivial hc | exact absurd rfl hc | conv => whnf)
    | (with_reducible refine Br.and ?_)
    | (with_reducible refine Br.or ?_)
    | (refine Br.any (fun hc => ?_) (fun hc => ?_) <;> conv => whnf)
    | (refine Fit.inl ?_ ?_; (focus ((first | omega | exact ⟨by omega, by omega⟩ | rfl | exact trivial | assumption | (simp only [List.length_map, List.length_append, List.length_take, List.length_drop, List.length_cons, List.length_nil, List.length_replicate, List.length_set, List.length_reverse, nds_len, numsD_length]; omega) | (simp only [List.length_map, List.length_append, List.length_take, List.length_drop, List.length_cons, List.length_nil, List.length_replicate, List.length_set, List.length_reverse, nds_len, numsD_length]; exact ⟨by omega, by omega⟩) | exact nds_each | (refine map_each ?_; intro x; rfl) | (refine first_map ?_; intro x; rfl) | exact first_nds | simp | (simp; omega)); done)); conv => whnf)
    | (refine Each.mapAt (by assumption) ?_; conv => whnf)
    | (refine Each.ndsAt (by assumption) ?_; conv => whnf)
    | (refine Each.at (by assumption) ?_; conv => whnf)
    | (refine Each.map (fun x hx => ?_); (try simp only [Int.toNat_natCast, Int.toNat_zero, Int.toNat_one, Int.toNat_natCast_add_one] at hx); conv => whnf)
    | (refine Each.nds (fun a b c ps hx => ?_); (try simp only [Int.toNat_natCast, Int.toNat_zero, Int.toNat_one, Int.toNat_natCast_add_one] at hx); conv => whnf)
    | (refine Each.rep ?_; conv => whnf)
    | (refine Each.drop ?_)
    | (refine Each.take (fun hi => ?_))
    | (refine Each.any (fun x hx => ?_); (try simp only [Int.toNat_natCast, Int.toNat_zero, Int.toNat_one, Int.toNat_natCast_add_one] at hx); conv => whnf)
    | (refine NilB.any (fun hn => ?_) ?_ <;> conv => whnf)
    | (refine ⟨_, bytesOfD_nums _, ?_⟩; conv => whnf)
    | (refine WP.sch (id := 11) tabOK hmix (.mob 0 (.mob 1 (.mob 2 (.mob 3 (.mob 5 (.mob 6 (.alt [(4, .alt [(7, .alt [(8, .done)])]), (7, .alt [(4, .alt [(8, .done)])])]))))))) (by kernel_rfl) ?_; conv => whnf)
    | (refine WP.sch (id := 15) tabOK hmix (.mob 0 (.mob 1 (.mob 2 (.mob 3 (.mob 5 (.mob 6 (.alt [(4, .alt [(7, .alt [(8, .done)])]), (7, .alt [(4, .alt [(8, .done)])])]))))))) (by kernel_rfl) ?_; conv => whnf)
    | exact ⟨rfl, rfl⟩
    | (refine Fin.bool ?_ rfl)
    | (refine Fin.int ?_ rfl)
    | (refine Fin.str ?_ rfl)
    | (refine Fin.sl ?_ rfl)
    | exact trivial)
  refine Need.mk (by intro c hc; simp at hc; subst hc; exact hx) ?_
  conv => whnf
  repeat' (first
    | (refine Br.tt ?_; conv => whnf)
    | (refine Br.ff ?_; conv => whnf)
    | (refine Both.mk ?_ ?_ <;> conv => whnf)
    | (refine Br.not ?_)
    | (refine Need.mk ?_ ?_; (focus ((first | omega | exact ⟨by omega, by omega⟩ | rfl | exact trivial | assumption | (simp only [List.length_map, List.length_append, List.length_take, List.length_drop, List.length_cons, List.length_nil, List.length_replicate, List.length_set, List.length_reverse, nds_len, numsD_length]; omega) | (simp only [List.length_map, List.length_append, List.length_take, List.length_drop, List.length_cons, List.length_nil, List.length_replicate, List.length_set, List.length_reverse, nds_len, numsD_length]; exact ⟨by omega, by omega⟩) | exact nds_each | (refine map_each ?_; intro x; rfl) | (refine first_map ?_; intro x; rfl) | exact first_nds | simp | (simp; omega)); done)); conv => whnf)
    | (refine Br.t (by assumption) ?_; conv => whnf)
    | (refine Br.f (by assumption) ?_; conv => whnf)
    | (refine Br.self ?_; conv => whnf)
    | (refine Br.decT (by assumption) ?_; conv => whnf)
    | (refine Br.decF (by assumption) ?_; conv => whnf)
    | (refine Br.eqT (by assumption) ?_; conv => whnf)
    | (refine Br.eqF (by assumption) ?_; conv => whnf)
    | (refine Br.dec (fun hc => ?_) (fun hc => ?_) <;> (try simp only [List.length_map, List.length_append, List.length_take, List.length_drop, List.length_cons, List.length_nil, List.length_replicate, List.length_set, List.length_reverse, nds_len, numsD_length] at hc) <;> first | (exfalso; omega) | exact absurd trivial hc | exact absurd rfl hc | conv => whnf)
    | (refine Br.eq (fun hc => ?_) (fun hc => ?_) <;> first | (exfalso; omega) | exact absurd trivial hc | exact absurd rfl hc | conv => whnf)
    | (refine Br.ne (fun hc => ?_) (fun hc => ?_) <;> first | (exfalso; omega) | exact absurd trivial hc | exact absurd rfl hc | conv => whnf)
    | (with_reducible refine Br.and ?_)
    | (with_reducible refine Br.or ?_)
    | (refine Br.any (fun hc => ?_) (fun hc => ?_) <;> conv => whnf)
    | (refine Fit.inl ?_ ?_; (focus ((first | omega | exact ⟨by omega, by omega⟩ | rfl | exact trivial | assumption | (simp only [List.length_map, List.length_append, List.length_take, List.length_drop, List.length_cons, List.length_nil, List.length_replicate, List.length_set, List.length_reverse, nds_len, numsD_length]; omega) | (simp only [List.length_map, List.length_append, List.length_take, List.length_drop, List.length_cons, List.length_nil, List.length_replicate, List.length_set, List.length_reverse, nds_len, numsD_length]; exact ⟨by omega, by omega⟩) | exact nds_each | (refine map_each ?_; intro x; rfl) | (refine first_map ?_; intro x; rfl) | exact first_nds | simp | (simp; omega)); done)); conv => whnf)
    | (refine Each.mapAt (by assumption) ?_; conv => whnf)
    | (refine Each.ndsAt (by assumption) ?_; conv => whnf)
    | (refine Each.at (by assumption) ?_; conv => whnf)
    | (refine Each.map (fun x hx => ?_); (try simp only [Int.toNat_natCast, Int.toNat_zero, Int.toNat_one, Int.toNat_natCast_add_one] at hx); conv => whnf)
    | (refine Each.nds (fun a b c ps hx => ?_); (try simp only [Int.toNat_natCast, Int.toNat_zero, Int.toNat_one, Int.toNat_natCast_add_one] at hx); conv => whnf)
    | (refine Each.rep ?_; conv => whnf)
    | (refine Each.drop ?_)
    | (refine Each.take (fun hi => ?_))
    | (refine Each.any (fun x hx => ?_); (try simp only [Int.toNat_natCast, Int.toNat_zero, Int.toNat_one, Int.toNat_natCast_add_one] at hx); conv => whnf)
    | (refine NilB.any (fun hn => ?_) ?_ <;> conv => whnf)
    | (refine ⟨_, bytesOfD_nums _, ?_⟩; conv => whnf)
    | (refine WP.sch (id := 11) tabOK hmix (.mob 0 (.mob 1 (.mob 2 (.mob 3 (.mob 5 (.mob 6 (.alt [(4, .alt [(7, .alt [(8, .done)])]), (7, .alt [(4, .alt [(8, .done)])])]))))))) (by kernel_rfl) ?_; conv => whnf)
    | (refine WP.sch (id := 15) tabOK hmix (.mob 0 (.mob 1 (.mob 2 (.mob 3 (.mob 5 (.mob 6 (.alt [(4, .alt [(7, .alt [(8, .done)])]), (7, .alt [(4, .alt [(8, .done)])])]))))))) (by kernel_rfl) ?_; conv => whnf)
    | exact ⟨rfl, rfl⟩
    | (refine Fin.bool ?_ rfl)
    | (refine Fin.int ?_ rfl)
    | (refine Fin.str ?_ rfl)
    | (refine Fin.sl ?_ rfl)
    | exact trivial)
theorem zc_flat {w : World} {N : Nat → Prop} : ∀ k, FlatD w N (Builtin.zeroCells (Value.agg zcs.toArray).cells k).toList (List.replicate k zcD) 4 := fun k => by
  have hz : zcs.length = 4 := rfl
  have h := z_flat (w := w) (N := N)
  refine ⟨by simp [Builtin.zeroCells, Value.cells, hz], fun c hc => by rw [(List.mem_replicate.mp hc).2]; rfl, fun i j x hx => ?_⟩
  obtain ⟨hi, hj⟩ := FlatD.lt (sz := 4) (fun c hc => by rw [(List.mem_replicate.mp hc).2]; rfl) hx
  rw [List.length_replicate] at hi
  rw [List.getElem?_replicate, if_pos hi] at hx
  obtain ⟨u, u1, u2⟩ := h.2.2 0 j x (by simpa using hx)
  refine ⟨u, ?_, u2⟩
  have hlt := mul_add_lt hi hj
  rw [Array.getElem?_toList]
  simp only [Builtin.zeroCells, Value.cells, Array.getElem?_map, List.size_toArray, hz]
  rw [Array.getElem?_eq_getElem (by simpa using hlt)]
  simp only [Array.getElem_range, Option.map_some]
  rw [show (i * 4 + j) % 4 = j by omega, ← u1]
  simp only [Nat.zero_mul, Nat.zero_add] at u1 ⊢
  rw [u1]
  obtain ⟨h1, h2⟩ := List.getElem?_eq_some_iff.mp u1
  rw [getElem!_pos zcs.toArray j (by simpa using h1)]
  simpa using h2
theorem set2 {θ : Th} {l L : Lay} {i : Nat} (h : θ 2 = none) (hi : θ i = some l) : (θ.set 2 L) i = some l := by
  have : i ≠ 2 := fun e => by rw [e, h] at hi; cases hi
  simp [Th.set, this, hi]
theorem insC (es : List (List D)) (i : Nat) (x : List D) (hi : i ≤ es.length) (hx : x.length = 4) (hl : es.length ≤ 2 ^ 36) : CallWP Try.prog 43 [.full 0, (.d (.int .i64 ((i : Nat)))), .full 1] [(0, .row 62 es), (1, .row 62 [x])] (fun r h => r = .full 2 ∧ h = [(2, .row 62 (es.take i ++ x :: es.drop i))]) := by
  by_cases hin : i = es.length
  · subst hin
    have := ins_end es x hx hl
    rw [List.take_length, List.drop_length]
    exact this
  have hi' : i < es.length := by omega
  unfold CallWP
  intro X O w θ vs h1 h2 h3 h4 h5 hG
  have hθ2 : θ 2 = none := h5 2 (Nat.le_refl 2)
  obtain ⟨l, b, cap, cs, fr, hθ, hb, hv, hcap, hsz, hlen, hw, hnf, hin0, hcin, hf, hbw, hbX, hbO⟩ := full_open (e := 62) (es := es) h3 (id := 0) rfl (by rintro rfl; simp at hi') (h2 0 _ rfl)
  obtain ⟨lv, vb, vc, cv, frv, hθv, hbv, hvv, hcapv, hszv, hlenv, hwv, hnfv, hinv, hcinv, hfv, hbwv, hbXv, hbOv⟩ := full_open (e := 62) (es := [x]) h3 (id := 1) rfl (by simp) (h2 2 _ rfl)
  rw [cells62] at hsz hszv
  rw [hsz] at hf hin0 hcin hnf
  rw [hszv] at hfv hinv hcinv hnfv
  have hne : vb ≠ b := fun e => by
    have := h3.inj 0 1 _ _ l lv b rfl rfl hθ hθv hb (e ▸ hbv)
    cases this
  have hv1 := (h2 1 _ rfl).int_inv
  have hvs : vs = #[.slice (some ⟨b, l.o0, none⟩) es.length cap, .int .i64 i, .slice (some ⟨vb, lv.o0, none⟩) 1 vc] := by
    match vs, h1 with
    | ⟨[x, y, z]⟩, _ =>
      simp at hv hv1 hvv
      rw [hv, hv1, hvv]
  subst hvs
  have hfl := hf.1
  have hflv := hfv.1
  simp only [List.length_cons, List.length_nil, Nat.zero_add] at hfv hflv hinv hcapv
  have hx4 : xz 4 = 1 := rfl
  rw [hx4] at hnf hnfv
  have hrdc := cells_read (n := es.length * 4) (o := l.o0) hw
  have hrdv := cells_read (n := 1 * 4) (o := lv.o0) hwv
  have hone := hf.one (by omega)
  have honev := hfv.one (by omega)
  obtain ⟨zs, hzs⟩ : ∃ zs, zs = (cs.toList.drop l.o0).take (es.length * 4) := ⟨_, rfl⟩
  obtain ⟨us, hus⟩ : ∃ us, us = (cv.toList.drop lv.o0).take (1 * 4) := ⟨_, rfl⟩
  rw [← hzs] at hf hfl hrdc hone
  rw [← hus] at hfv hflv hrdv honev
  have hzc : ∀ k, k < es.length * 4 → cs[l.o0 + k]? = zs[k]? := fun k hk => by
    rw [hzs, List.getElem?_take, if_pos hk, List.getElem?_drop, Array.getElem?_toList]
  have hd : (zs.drop (i * 4)).length = (es.length - i) * 4 := by rw [List.length_drop, hfl]; omega
  have ht : (zs.take (i * 4)).length = i * 4 := by rw [List.length_take, hfl]; omega
  have hlen' : (es.take i ++ x :: es.drop i).length = es.length + 1 := by simp; omega
  have hall : ∀ {w' : World} {N' : Nat → Prop}, Ext w (Nn X θ [(0, Ob.row 62 es), (1, .row 62 [x])]) w' N' → FlatD w' N' (zs.take (i * 4) ++ (us ++ zs.drop (i * 4))) (es.take i ++ x :: es.drop i) 4 := fun hE =>
    (hf.take.append (hfv.append hf.drop)).ext hE
  have h62 := cells62
  have hNw : ∀ {L : Lay} {c : Nat} {ob : Ob}, Nn X (θ.set 2 L) [(2, ob)] c → X c ∨ L.blk = some c := fun {L c ob} hc => by
    rcases hc with hc | ⟨j, o, l1, q1, q2, q3⟩
    · exact .inl hc
    · rw [look_cons] at q1
      split at q1
      · rename_i he
        subst he
        rw [Th.set_self] at q2; cases q2
        exact .inr q3
      · simp [look] at q1
  have hsub : ∀ L, Sub θ (θ.set 2 L) := fun L => Th.set_sub hθ2
  by_cases hroom : es.length + 1 ≤ cap
  · have hraw := ins_shift b l.o0 es.length cap i vb lv.o0 1 vc zs us w hi' (by omega) hroom (by omega) hne hfl hflv hrdc (fun j hj => by
        rw [World.cell?]; simp [hw]; omega) (fun j hj => cells_free hw hnf.w (by omega)) hrdv hone honev 62 62 cv.size cs.size (by simp [World.shape?, hwv]) (by simp [World.shape?, hw]) (by omega)
        (cells_free hwv hnfv.w (by omega)) (by
          have := hnfv cv.size (by omega)
          obtain ⟨lo, hi⟩ := frv
          simp only [World.frozen?, hwv, Bool.and_eq_false_iff, decide_eq_false_iff_not]
          simp only at this
          omega)
    refine hraw.mono fun e w' ⟨he, hw'⟩ => ?_
    obtain ⟨W1, hW1⟩ : ∃ W1, W1 = w.drew.setCells b (l.o0 + (i + 1) * 4) (zs.drop (i * 4)) := ⟨_, rfl⟩
    obtain ⟨g1, cs1, g2, g3, g4⟩ := setCells_wr (zs.drop (i * 4)) (l.o0 + (i + 1) * 4) w.drew cs hw (by rw [hd]; omega)
    rw [← hW1] at g1 g2 hw'
    obtain ⟨k1, cs2, k2, k3, k4⟩ := setCells_wr us (l.o0 + i * 4) W1 cs1 g2 (by rw [hflv]; omega)
    rw [← hw'] at k1 k2
    have hwr : Wr w b w' := g1.drew_left.trans k1
    obtain ⟨L, hL⟩ : ∃ L : Lay, L = ⟨some b, l.o0, 4, es.length + 1⟩ := ⟨_, rfl⟩
    have hLb : L.blk = some b := by rw [hL]
    have hE : Ext w (Nn X θ [(0, Ob.row 62 es), (1, .row 62 [x])]) w' (Nn X (θ.set 2 L) [(2, .row 62 (es.take i ++ x :: es.drop i))]) := by
      refine ⟨by rw [hwr.size]; exact Nat.le_refl _, fun c hc hn => ?_⟩
      have hcb : c ≠ b := fun e => hn (.inr ⟨0, _, l, rfl, hθ, by rw [e]; exact hb⟩)
      exact ⟨fun hq => (hNw hq).elim (fun hq => hn (.inl hq)) (fun hq => by rw [hLb] at hq; cases hq; exact hcb rfl), hwr.other c hcb⟩
    have hf' := hall hE
    refine ⟨_, .full 2, _, θ.set 2 L, he, ⟨rfl, rfl⟩, fun id l' hl' => hsub L id l' hl', ?_, HpS.mk1 (Th.set_self _ _ _) (row_of_flat hLb k2 (by rw [k3, g3, hL]; exact hnf) (by rw [hL]; exact h62.symm) (by rw [hL, hlen']) (by rw [hL, hlen', k3, g3]; simp only; omega) (by rw [hL]; rw [hL] at hf'; exact hf') (fun k hk => ?_)) (fun c hc => by rw [hLb] at hc; cases hc; exact ⟨by rw [hwr.size]; exact hbw, hbX, hbO⟩), hwr.kp hbO rfl (Kp.refl O w)⟩
    · have := RepT.full (w := w') (N := Nn X (θ.set 2 L) [(2, .row 62 (es.take i ++ x :: es.drop i))]) (θ := θ.set 2 L) 2 L (Th.set_self _ _ _) b cap hLb (by rw [hL]; exact hroom) ⟨cs2, _, fr, k2, by rw [hL, k3, g3]; exact hcin⟩ ⟨b, l.o0, none⟩ rfl rfl (fun _ => by rw [hL])
      rw [hL] at this ⊢
      exact this
    · rw [hf'.1, hlen'] at hk
      rw [hL]
      simp only
      rw [k4, g4, hflv, hd]
      by_cases c1 : k < i * 4
      · rw [if_neg (by omega), if_neg (by omega), hzc k (by omega), List.getElem?_append_left (by omega), List.getElem?_take, if_pos c1]
      · rw [List.getElem?_append_right (by omega), ht]
        by_cases c2 : k < (i + 1) * 4
        · rw [if_pos (by omega), List.getElem?_append_left (by rw [hflv]; omega)]
          congr 1; omega
        · rw [if_neg (by omega), if_pos (by omega), List.getElem?_append_right (by rw [hflv]; omega), hflv]
          congr 1; omega
  · have hraw := ins_grow b l.o0 es.length cap i vb lv.o0 1 vc zs us w hi' (by omega) hcap (by omega) (by omega) hfl hflv hrdc hrdv hone honev
    refine hraw.mono fun e w' ⟨G, ROW, he, hG1, hROW, hw'⟩ => ?_
    have hRs : ROW.size = G * 4 := by
      rw [hROW]
      simp only [Array.size_append, List.size_toArray, ht, Builtin.zeroCells, Value.cells, Array.size_map, Array.size_range]
      have : zcs.length = 4 := rfl
      rw [this]
      omega
    have hRt : ∀ k, k < i * 4 → ROW[k]? = zs[k]? := fun k hk => by
      rw [hROW, Array.getElem?_append_left (by simp; omega), Array.getElem?_append_left (by simp; omega), List.getElem?_toArray, List.getElem?_take, if_pos hk]
    clear hROW
    obtain ⟨W0, hW0⟩ : ∃ W0, W0 = (w.alloc (.cells ROW 62)).drew := ⟨_, rfl⟩
    have hh0 : ∀ c, W0.heap[c]? = if c = w.heap.size then some (.cells ROW 62 (0, 0)) else w.heap[c]? := fun c => by rw [hW0]; exact alloc_heap w _ c
    have hs0 : W0.heap.size = w.heap.size + 1 := by rw [hW0]; exact Array.size_push (xs := w.heap) _
    have hk0 : Kp O w W0 := by
      have := Kp.alloc (O := O) w (.cells ROW 62)
      rw [hW0]; exact ⟨this.os, this.tape, this.output, this.size, this.block, this.shp⟩
    rw [← hW0] at hw'
    obtain ⟨W1, hW1⟩ : ∃ W1, W1 = (W0.setCells w.heap.size (i * 4) us).drew := ⟨_, rfl⟩
    obtain ⟨g1, cs1, g2, g3, g4⟩ := setCells_wr us (i * 4) W0 ROW (fr := (0, 0)) (e := 62) (by rw [hh0, if_pos rfl]) (by rw [hflv, hRs]; omega)
    rw [← hW1] at hw'
    have g1 : Wr W0 w.heap.size W1 := by rw [hW1]; exact g1.drew
    have g2 : W1.heap[w.heap.size]? = some (.cells cs1 62 (0, 0)) := by rw [hW1]; exact g2
    obtain ⟨k1, cs2, k2, k3, k4⟩ := setCells_wr (zs.drop (i * 4)) ((i + 1) * 4) W1 cs1 g2 (by rw [hd, g3, hRs]; omega)
    rw [← hw'] at k1 k2
    have hwr : Wr W0 w.heap.size w' := g1.trans k1
    obtain ⟨L, hL⟩ : ∃ L : Lay, L = ⟨some w.heap.size, 0, 4, es.length + 1⟩ := ⟨_, rfl⟩
    have hLb : L.blk = some w.heap.size := by rw [hL]
    have hE : Ext w (Nn X θ [(0, Ob.row 62 es), (1, .row 62 [x])]) w' (Nn X (θ.set 2 L) [(2, .row 62 (es.take i ++ x :: es.drop i))]) := by
      refine ⟨by rw [hwr.size, hs0]; omega, fun c hc hn => ?_⟩
      have hcb : c ≠ w.heap.size := by omega
      exact ⟨fun hq => (hNw hq).elim (fun hq => hn (.inl hq)) (fun hq => by rw [hLb] at hq; cases hq; exact hcb rfl), by rw [hwr.other c hcb, hh0, if_neg hcb]⟩
    have hf' := hall hE
    refine ⟨_, .full 2, _, θ.set 2 L, he, ⟨rfl, rfl⟩, fun id l' hl' => hsub L id l' hl', ?_, HpS.mk1 (Th.set_self _ _ _) (row_of_flat hLb k2 (nf0 _) (by rw [hL]; exact h62.symm) (by rw [hL, hlen']) (by rw [hL, hlen', k3, g3, hRs]; simp only; omega) (by rw [hL]; rw [hL] at hf'; exact hf') (fun k hk => ?_)) (fun c hc => by rw [hLb] at hc; cases hc; exact ⟨by rw [hwr.size, hs0]; omega, fun hq => absurd (h4 _ hq) (by omega), .inr (Nat.le_refl _)⟩), hwr.kp (.inr (Nat.le_refl _)) rfl hk0⟩
    · have := RepT.full (w := w') (N := Nn X (θ.set 2 L) [(2, .row 62 (es.take i ++ x :: es.drop i))]) (θ := θ.set 2 L) 2 L (Th.set_self _ _ _) w.heap.size G hLb (by rw [hL]; exact hG1) ⟨cs2, _, _, k2, by rw [k3, g3, hRs, hL]; exact (by omega : 0 + G * 4 ≤ G * 4)⟩ ⟨w.heap.size, 0, none⟩ rfl rfl (fun _ => by rw [hL])
      rw [hL] at this ⊢
      exact this
    · rw [hf'.1, hlen'] at hk
      rw [hL]
      simp only [Nat.zero_add]
      rw [k4, g4, hflv, hd]
      by_cases c1 : k < i * 4
      · rw [if_neg (by omega), if_neg (by omega), hRt k c1, List.getElem?_append_left (by omega), List.getElem?_take, if_pos c1]
      · rw [List.getElem?_append_right (by omega), ht]
        by_cases c2 : k < (i + 1) * 4
        · rw [if_neg (by omega), if_pos (by omega), List.getElem?_append_left (by rw [hflv]; omega)]
        · rw [if_pos (by omega), List.getElem?_append_right (by rw [hflv]; omega), hflv]
          congr 1; omega
end Go.VL.SlIns
