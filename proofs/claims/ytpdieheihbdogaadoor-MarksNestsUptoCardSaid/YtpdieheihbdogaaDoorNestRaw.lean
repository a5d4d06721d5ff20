/- bobbinetref.MarksNest, walked. -/
import Derived.BigQuiet
import Derived.Deep.QuietTactic
import Derived.RangeFuncLeaves
import Derived.Test.YtpdieheihbdogaaDoorAddRaw3
import Derived.Test.YtpdieheihbdogaaDoorVNest
import Derived.Test.YtpdieheihbdogaaDoorMarksRef
import Derived.Test.YtpdieheihbdogaaDoorVFields
set_option linter.unusedVariables false
set_option linter.unusedSimpArgs false
namespace Go.VL.NestRaw
open Go Go.Proofs Go.VL Go.RowKit Go.VL.SpN Go.VL.AddRaw
set_option maxRecDepth 100000
theorem nm_of {W : World} {N : Nat → Prop} {n0 : Nat} {v : Value} {ms : List Str} (h : RepD W N v (.sl (ms.map iS))) (hn : W.heap.size ≤ n0) : NmV W n0 v ms := by
  generalize hD : ms.map iS = X at h
  cases h with
  | nil =>
    have : ms = [] := by simpa using hD
    exact .inl ⟨⟨_, _, rfl⟩, this⟩
  | sl ad es cap sz c hl hb hs hc hr =>
    subst hD
    rw [List.length_map] at hl ⊢
    by_cases hne : ms = []
    · subst hne
      exact .inl ⟨⟨_, _, rfl⟩, rfl⟩
    · obtain ⟨h1, h2, h3⟩ := hb (by simpa using hne)
      obtain ⟨b, o, s⟩ := ad
      simp only at h1; subst h1
      have hz : sz = 1 := by
        cases ms with
        | nil => exact absurd rfl hne
        | cons a l => exact (hs (iS a) (by simp)).symm.trans rfl
      subst hz
      refine .inr ⟨b, o, cap, rfl, hl, fun _ => ⟨Nat.lt_of_lt_of_le h3 hn, fun i x hx => ?_⟩⟩
      have hq : ((ms.map iS)[i]?).bind (·[0]?) = some (.str x) := by rw [List.getElem?_map, hx]; rfl
      have k1 := hc i 0 _ hq
      have k2 := hr i 0 _ hq
      generalize c i 0 = u at k1 k2
      cases k2
      simpa [cellAt] using k1
/-- Runs told by value, in cells. -/
theorem runs_of {W : World} {N : Nat → Prop} {n0 : Nat} {v : Value} {rs : List Run} (h : RepD W N v (.sl (rs.map Run.d))) (hn : W.heap.size ≤ n0) : ∃ a cap, v = .slice a rs.length cap ∧ ∀ (k : Nat) (r : Run), rs[k]? = some r →
    ∃ b off mv, a = some ⟨b, off, none⟩ ∧ b < n0 ∧ W.cell? ⟨b, off + k * 2, none⟩ = some (.string ⟨r.text.toArray⟩) ∧ W.cell? ⟨b, off + k * 2 + 1, none⟩ = some mv ∧ NmV W n0 mv r.marks := by
  generalize hD : rs.map Run.d = X at h
  cases h with
  | nil =>
    have : rs = [] := by simpa using hD
    subst this
    exact ⟨_, _, rfl, fun k r hk => by simp at hk⟩
  | sl ad es cap sz c hl hb hs hc hr =>
    subst hD
    rw [List.length_map] at hl ⊢
    refine ⟨_, _, rfl, fun k r hk => ?_⟩
    have hne : rs ≠ [] := by rintro rfl; simp at hk
    obtain ⟨h1, h2, h3⟩ := hb (by simpa using hne)
    obtain ⟨b, o, s⟩ := ad
    simp only at h1; subst h1
    have hz : sz = 2 := (hs r.d (List.mem_map_of_mem (List.mem_of_getElem? hk))).symm.trans rfl
    subst hz
    have q0 : ((rs.map Run.d)[k]?).bind (·[0]?) = some (.str r.text) := by rw [List.getElem?_map, hk]; rfl
    have q1 : ((rs.map Run.d)[k]?).bind (·[1]?) = some (.sl (r.marks.map iS)) := by rw [List.getElem?_map, hk]; rfl
    have k1 := hc k 0 _ q0
    have k2 := hr k 0 _ q0
    have k3 := hc k 1 _ q1
    have k4 := hr k 1 _ q1
    refine ⟨b, o, c k 1, rfl, Nat.lt_of_lt_of_le h3 hn, ?_, by simpa [cellAt] using k3, nm_of k4 hn⟩
    generalize c k 0 = u at k1 k2
    cases k2
    simpa [cellAt] using k1
theorem NmV.keep {W W' : World} {n0 : Nat} {v : Value} {ms : List Str} (h : NmV W n0 v ms) (hf : ∀ k, k < n0 → W'.heap[k]? = W.heap[k]?) : NmV W' n0 v ms := by
  rcases h with h | ⟨nb, off, cap, h1, h2, h3⟩
  · exact .inl h
  · exact .inr ⟨nb, off, cap, h1, h2, fun hne => ⟨(h3 hne).1, fun i x hx => (World.cell?_of_block (hf nb (h3 hne).1)).trans ((h3 hne).2 i x hx)⟩⟩
/-- Between two runs: k of them are done. -/
structure Iv (rs : List Run) (n0 bx : Nat) (w2 : World) (k : Nat) (vo vl : Value) (W : World) : Prop where
  sp : ∃ gs, Sp W (fun b => b < n0 ∨ b ∈ gs) n0 (nstF 0 ([], []) (rs.take k)).2.length vo (nstF 0 ([], []) (rs.take k)).1 gs
  wd : Wd k (nstF 0 ([], []) (rs.take k)).2.length (nstF 0 ([], []) (rs.take k)).1
  nm : NmV W n0 vl (nstF 0 ([], []) (rs.take k)).2
  os : W.os = w2.os
  tape : W.tape = w2.tape
  output : W.output = w2.output
  size : w2.heap.size ≤ W.heap.size
  low : ∀ b, b < n0 → W.heap[b]? = w2.heap[b]?
theorem Iv.start {rs : List Run} {n0 bx : Nat} {w2 : World} (hn0 : n0 ≤ w2.heap.size) : Iv rs n0 bx w2 0 (.slice none 0 0) (.slice none 0 0) w2 :=
  ⟨⟨[], [], World.ownsRow_nil _ _ _ _, Cl.nil, rfl⟩, by simp [Wd, nstF], .inl ⟨⟨_, _, rfl⟩, rfl⟩, rfl, rfl, rfl, Nat.le_refl _, fun _ _ => rfl⟩
theorem nstF_take {rs : List Run} {k : Nat} {r : Run} (h : rs[k]? = some r) : nstF 0 ([], []) (rs.take (k + 1)) = nstS 0 (nstF 0 ([], []) (rs.take k)) r := by
  obtain ⟨hk, rfl⟩ := List.getElem?_eq_some_iff.1 h
  rw [List.take_succ_eq_append_getElem hk]
  unfold nstF
  rw [List.foldl_append]; rfl
/-- A run's turn: add's word. -/
theorem Iv.step {rs : List Run} {n0 bx : Nat} {w2 W W1 : World} {k : Nat} {r : Run} {vo vl mv v' : Value} {gs gs' : List Nat} (hr : rs[k]? = some r) (h : Iv rs n0 bx w2 k vo vl W) (hn : n0 ≤ W.heap.size)
    (hm : NmV W n0 mv r.marks) (hgs : ∀ g ∈ gs, n0 ≤ g)
    (hS : ∀ A', (∀ b, A' b → (b < n0 ∨ b ∈ gs) ∨ W.heap.size ≤ b) → Sp W1 A' n0 r.marks.length v' (addNd (nstF 0 ([], []) (rs.take k)).1 r.marks r.text (cpl (nstF 0 ([], []) (rs.take k)).2 r.marks)) gs') (hg1 : ∀ b ∈ gs', b ∈ gs ∨ W.heap.size ≤ b) (hF : Fr W gs W1) :
    Iv rs n0 bx w2 (k + 1) v' mv W1 := by
  have e := nstF_take hr
  have hlow : ∀ b, b < n0 → W1.heap[b]? = W.heap[b]? := fun b hb => hF.block b (by omega) (fun h => by have := hgs b h; omega)
  refine ⟨⟨gs', ?_⟩, ?_, ?_, hF.os.trans h.os, hF.tape.trans h.tape, hF.output.trans h.output, Nat.le_trans h.size hF.size, fun b hb => (hlow b hb).trans (h.low b hb)⟩
  · rw [e, nstS]
    dsimp only
    rw [List.drop_zero, Nat.sub_zero]
    exact hS _ (fun b hb => hb.elim (fun h => .inl (.inl h)) (fun h => (hg1 b h).elim (fun h => .inl (.inr h)) .inr))
  · rw [e, nstS]
    dsimp only
    rw [List.drop_zero, Nat.sub_zero]
    exact Wd.add r.text r.marks (Wd.less h.wd (cpl_le _ _).1) (cpl_le _ _).2
  · rw [e, nstS]
    exact NmV.keep hm hlow
theorem NmV.mono {W : World} {n0 n1 : Nat} {v : Value} {ms : List Str} (h : NmV W n0 v ms) (hn : n0 ≤ n1) : NmV W n1 v ms := by
  rcases h with h | ⟨nb, off, cap, h1, h2, h3⟩
  · exact .inl h
  · exact .inr ⟨nb, off, cap, h1, h2, fun hne => ⟨Nat.lt_of_lt_of_le (h3 hne).1 hn, (h3 hne).2⟩⟩
theorem NmV.form {W : World} {n0 : Nat} {v : Value} {ms : List Str} (h : NmV W n0 v ms) : ∃ a c, v = .slice a ms.length c ∧ ∀ (j : Nat) (x : Str), ms[j]? = some x → ∃ b o, a = some ⟨b, o, none⟩ ∧ b < n0 ∧ W.cell? ⟨b, o + j, none⟩ = some (.string ⟨x.toArray⟩) := by
  rcases h with ⟨⟨a, c, rfl⟩, rfl⟩ | ⟨nb, off, cap, rfl, h2, h3⟩
  · exact ⟨a, c, rfl, fun j x hx => by simp at hx⟩
  · refine ⟨_, _, rfl, fun j x hx => ?_⟩
    have hne : ms ≠ [] := by rintro rfl; simp at hx
    exact ⟨nb, off, rfl, (h3 hne).1, (h3 hne).2 j x hx⟩
theorem cpl_lt : ∀ {a b : List Str} {j : Nat}, j < cpl a b → ∃ x, a[j]? = some x ∧ b[j]? = some x
  | [], b, j, h => by simp [cpl] at h
  | x :: l, [], j, h => by simp [cpl] at h
  | x :: l, y :: r, j, h => by
    rw [cpl] at h
    split at h
    · rename_i e
      subst e
      cases j with
      | zero => exact ⟨x, rfl, rfl⟩
      | succ j =>
        obtain ⟨z, h1, h2⟩ := cpl_lt (a := l) (b := r) (j := j) (by omega)
        exact ⟨z, by simpa using h1, by simpa using h2⟩
    · omega
theorem cpl_end : ∀ {a b : List Str} {x : Str}, a[cpl a b]? = some x → b[cpl a b]? = some x → False
  | [], b, x, h1, _ => by simp at h1
  | y :: l, [], x, _, h2 => by simp at h2
  | y :: l, z :: r, x, h1, h2 => by
    rw [cpl] at h1 h2
    split at h1
    · rename_i e
      rw [if_pos e] at h2
      exact cpl_end (by simpa using h1) (by simpa using h2)
    · rename_i e
      rw [if_neg e] at h2
      simp at h1 h2
      exact e (h1.trans h2.symm)
theorem Iv.grow {rs : List Run} {n0 bx : Nat} {w2 W W' : World} {k : Nat} {vo vl : Value} (h : Iv rs n0 bx w2 k vo vl W) (hn : n0 ≤ W.heap.size) (hf : ∀ q, q < W.heap.size → W'.heap[q]? = W.heap[q]?) (hs : W.heap.size ≤ W'.heap.size) (hw : W'.os = W.os ∧ W'.tape = W.tape ∧ W'.output = W.output) : Iv rs n0 bx w2 k vo vl W' := by
  obtain ⟨gs, hsp⟩ := h.sp
  exact ⟨⟨gs, Sp.frame hs (fun q hq _ => hf q hq) (fun b hb => .inl hb) _ hsp (fun q hq => hf q (Sp.rng _ hsp q hq).2)⟩, h.wd, NmV.keep h.nm (fun q hq => hf q (by omega)), hw.1.trans h.os, hw.2.1.trans h.tape, hw.2.2.trans h.output, Nat.le_trans h.size hs, fun b hb => (hf b (by omega)).trans (h.low b hb)⟩
/-- A run's turn. -/
theorem Iv.turn {rs : List Run} {n0 bx : Nat} {w2 W : World} {k : Nat} {r : Run} {vo vl mv : Value} (hr : rs[k]? = some r) (hk : k < 2 ^ 39) (hm39 : r.marks.length < 2 ^ 39) (h : Iv rs n0 bx w2 k vo vl W) (hn : n0 ≤ W.heap.size) (hbx : bx < n0)
    (hbox : W.heap[bx]? = some (.cells #[boxV bx] 33 (0, 0))) (hm : NmV W n0 mv r.marks) {gs : List Nat} (hsp : Sp W (fun b => b < n0 ∨ b ∈ gs) n0 (nstF 0 ([], []) (rs.take k)).2.length vo (nstF 0 ([], []) (rs.take k)).1 gs) {HB : Nat} (hHB : HB ∉ gs) (hHBl : HB < W.heap.size) :
    Calls Tryd.prog 10 #[vo, mv, .bool true, .string ⟨r.text.toArray⟩, .int .i64 ((cpl (nstF 0 ([], []) (rs.take k)).2 r.marks : Nat) : Int), .pointer (some ⟨bx, 0, none⟩)] W fun e W1 =>
      ∃ v', e = .returned v' ∧ Iv rs n0 bx w2 (k + 1) v' mv W1 ∧ W1.heap[HB]? = W.heap[HB]? := by
  obtain ⟨h1, h2⟩ := cpl_le (nstF 0 ([], []) (rs.take k)).2 r.marks
  obtain ⟨gs', k1, k2⟩ := Sp.less _ _ hsp h1
  have hsp' := k2 (fun b => b < n0 ∨ b ∈ gs') (fun b hb => hb.imp (fun h => h) (k1 b)) (fun g hg hb => hb.elim (fun h => by have := (Sp.rng _ hsp g hg).1; omega) (fun h => h))
  refine (add_all bx n0 hbx true r.text k (by omega) r.marks (by omega) _ mv vo _ gs' _ W h2 hn (Wd.less h.wd h1) hbox hm (fun g hg => .inr hg) hsp').mono ?_
  rintro e W1 ⟨v', gs2, rfl, hS, hg2, hF⟩
  exact ⟨v', rfl, Iv.step hr h hn hm (fun g hg => (Sp.rng _ hsp g (k1 g hg)).1) hS hg2 hF, hF.block HB hHBl (fun h => hHB (k1 HB h))⟩
end Go.VL.NestRaw

/- bobbinetref.MarksNest, walked whole. -/
namespace Go.VL.NestRaw
open Go Go.Proofs Go.VL Go.RowKit Go.VL.SpN Go.VL.AddRaw
set_option maxRecDepth 100000
theorem run_store_fn {P : Program} {w : World} {a : Addr} {m : Mode} (f : Fn) (x y : Array Value) : (store a (.func f x y) m).run P w = stored P w a (.func f x y) m := run_store P w a _ m rfl
attribute [local go_sem] run_store_fn
theorem m1 (c j : Nat) (h : j + 1 ≤ c) : c - (intOf (.int .i64 ((j : Int) + 1))).toNat < c - (intOf (.int .i64 (j : Int))).toNat := by simp [intOf]; omega
theorem v1 (k : Nat) : Value.int .i64 ((k : Int) + 1) = .int .i64 ((k + 1 : Nat) : Int) := rfl
attribute [local irreducible] cpl
set_option maxHeartbeats 8000000 in
theorem nest_core (va vb : Value) (rs : List Run) (code : Int) (w : World) (hN : Calls Tryd.prog 9 #[va, vb] w fun e W => (∃ rv N, e = .returned (.tuple #[rv, .int .i64 code]) ∧ RepD W N rv (.sl (rs.map Run.d))) ∧ Below w.heap.size w W)
    (hz : code ≠ 0 → rs = []) (hrl : rs.length < 2 ^ 39) (hml : ∀ r ∈ rs, r.marks.length < 2 ^ 39) :
    Calls Tryd.prog 5 #[va, vb] w fun e W => ∃ v, e = .returned (.tuple #[v, .int .i64 code]) ∧ Below w.heap.size w W ∧ RepD W (fun b => b < w.heap.size) v (.sl (nds (nstV 0 rs))) := by
  by_cases hc : code = 0
  case neg =>
    have hr0 := hz hc
    subst hr0
    have hcb : (code != 0) = true := by simpa using hc
    have hcb2 : (code == 0) = false := by simpa using hc
    go_enter Tryd.func5, Tryd.ntmps5
    go_wp2_with (fail)
    refine hN.mono ?_
    rintro e W ⟨⟨rv, N, rfl, hr⟩, hb⟩
    go_wp2
    go_ret2
    exact ⟨_, rfl, hb, .nil⟩
  subst hc
  go_enter Tryd.func5, Tryd.ntmps5
  go_wp2_with (fail)
  refine hN.mono ?_
  rintro e W ⟨⟨rv, N, rfl, hrep⟩, hb⟩
  obtain ⟨a, cap, rfl, hruns⟩ := runs_of (n0 := W.heap.size) hrep (Nat.le_refl _)
  clear hrep
  have hb8 := Boxed.new W 33 .nilFunc
  have c8 := hb8.cell
  have f8 := hb8.frozen
  have hset := hb8.set (boxV W.heap.size)
  unfold boxV at hset
  go_wp2
  obtain ⟨W2, hW2⟩ : ∃ W2, W.alloc (.cells #[.func (.func 10) #[] #[.pointer (some ⟨W.heap.size, 0, none⟩)]] 33) = W2 := ⟨_, rfl⟩
  have hbox2 : W2.heap[W.heap.size]? = some (.cells #[boxV W.heap.size] 33 (0, 0)) := by rw [← hW2]; exact World.alloc_heap_new W _
  have hsz2 : W2.heap.size = W.heap.size + 1 := by rw [← hW2]; simp
  have hlow2 : ∀ k, k < W.heap.size → W2.heap[k]? = W.heap[k]? := fun k hk => by rw [← hW2]; exact Below.heap_alloc _ _ _ hk
  have hwd2 : W2.os = W.os ∧ W2.tape = W.tape ∧ W2.output = W.output := by rw [← hW2]; exact ⟨rfl, rfl, rfl⟩
  rw [hW2]
  clear hb8 c8 f8 hset
  go_loopw [9, 10, 26] (fun vo vl vi wr => ∃ k : Nat, k ≤ rs.length ∧ vi = .int .i64 k ∧ Iv rs (W.heap.size + 1) W.heap.size W2 k vo vl wr)
    (fun _ _ i _ => rs.length - (intOf i).toNat)
  case atStart => exact ⟨0, Nat.zero_le _, rfl, Iv.start (by omega)⟩
  case round =>
    obtain ⟨k, hk, rfl, hI⟩ := hrel
    by_cases hlt : k < rs.length
    case neg =>
      have hk2 : ¬ ((k : Int) < rs.length) := by omega
      go_wp2
      go_ret2
      have ek : rs.take k = rs := List.take_of_length_le (by omega)
      obtain ⟨gs, hsp⟩ := hI.sp
      have hlow : ∀ q, q < W.heap.size → wr.heap[q]? = W.heap[q]? := fun q hq => (hI.low q (by omega)).trans (hlow2 q hq)
      have hws := hb.size
      refine ⟨_, rfl, hb.trans ⟨hI.os.trans hwd2.1, hI.tape.trans hwd2.2.1, hI.output.trans hwd2.2.2, by have := hI.size; omega, fun q hq => hlow q (by omega)⟩, ?_⟩
      rw [ek] at hsp
      exact Sp.rep (fun b hb => .inl (by omega)) _ hsp (fun g hg h => by have := (Sp.rng _ hsp g hg).1; omega)
    obtain ⟨r, hrk⟩ : ∃ r, rs[k]? = some r := ⟨_, List.getElem?_eq_getElem hlt⟩
    obtain ⟨b, off, mv, rfl, hbn, hct, hcm, hnm⟩ := hruns k r hrk
    have hk2 : ((k : Int) < rs.length) := by omega
    have hwk : wrap64 ((k : Int) + 1) = (k : Int) + 1 := wrap_nat (x := k + 1) (by omega)
    have hlow : ∀ q, q < W.heap.size → wr.heap[q]? = W.heap[q]? := fun q hq => (hI.low q (by omega)).trans (hlow2 q hq)
    have hwn : W.heap.size + 1 ≤ wr.heap.size := by have := hI.size; omega
    have hbox : wr.heap[W.heap.size]? = some (.cells #[boxV W.heap.size] 33 (0, 0)) := (hI.low _ (by omega)).trans hbox2
    have ct : wr.cell? ⟨b, off + k * 2, none⟩ = some (.string ⟨r.text.toArray⟩) := (World.cell?_of_block (hlow b hbn)).trans hct
    have cm : wr.cell? ⟨b, off + k * 2 + 1, none⟩ = some mv := (World.cell?_of_block (hlow b hbn)).trans hcm
    have hnm2 : NmV wr (W.heap.size + 1) mv r.marks := NmV.mono (NmV.keep hnm hlow) (Nat.le_succ _)
    have hmr := hml r (List.mem_of_getElem? hrk)
    obtain ⟨ma, mc, rfl, hmc⟩ := NmV.form hnm2
    obtain ⟨la, lc, hvl, hlc⟩ := NmV.form hI.nm
    subst hvl
    generalize hst : nstF 0 ([], []) (rs.take k) = st at *
    clear hruns hct hcm hlow2
    go_wp2
    obtain ⟨WB, hWB⟩ : ∃ WB, wr.alloc (.cells #[.string ⟨r.text.toArray⟩, .slice ma r.marks.length mc] 38) = WB := ⟨_, rfl⟩
    have hBn : WB.heap[wr.heap.size]? = some (.cells #[.string ⟨r.text.toArray⟩, .slice ma r.marks.length mc] 38 (0, 0)) := by rw [← hWB]; exact World.alloc_heap_new wr _
    have hB0 : WB.cell? ⟨wr.heap.size, 0, none⟩ = some (.string ⟨r.text.toArray⟩) := by simp [World.cell?, hBn]
    have hB1 : WB.cell? ⟨wr.heap.size, 1, none⟩ = some (.slice ma r.marks.length mc) := by simp [World.cell?, hBn]
    have hBlow : ∀ q, q < wr.heap.size → WB.heap[q]? = wr.heap[q]? := fun q hq => by rw [← hWB]; exact Below.heap_alloc _ _ _ hq
    have hBsz : WB.heap.size = wr.heap.size + 1 := by rw [← hWB]; simp
    have hBw : WB.os = wr.os ∧ WB.tape = wr.tape ∧ WB.output = wr.output := by rw [← hWB]; exact ⟨rfl, rfl, rfl⟩
    rw [hWB]
    have hcl := cpl_le st.2 r.marks
    obtain ⟨HB, hHB⟩ : ∃ HB, HB = wr.heap.size := ⟨_, rfl⟩
    have hadd : ∀ m, Calls Tryd.prog 10 #[u9, .slice ma r.marks.length mc, .bool true, .string ⟨r.text.toArray⟩, .int .i64 ((cpl st.2 r.marks : Nat) : Int), .pointer (some ⟨W.heap.size, 0, none⟩)] (WB.drewN m) fun e W1 =>
        ∃ v', e = .returned v' ∧ Iv rs (W.heap.size + 1) W.heap.size W2 (k + 1) v' (.slice ma r.marks.length mc) W1 ∧ W1.cell? ⟨HB, 1, none⟩ = some (.slice ma r.marks.length mc) := fun m => by
      have hq : ∀ q, q < wr.heap.size → (WB.drewN m).heap[q]? = wr.heap[q]? := hBlow
      have hs : wr.heap.size ≤ (WB.drewN m).heap.size := by show wr.heap.size ≤ WB.heap.size; omega
      obtain ⟨gs, hsp⟩ := hI.sp
      rw [hst] at hsp
      have hsp2 := Sp.frame (w' := WB.drewN m) (A' := fun b => b < W.heap.size + 1 ∨ b ∈ gs) hs (fun q hq2 _ => hq q hq2) (fun b hb => .inl hb) _ hsp (fun q hq2 => hq q (Sp.rng _ hsp q hq2).2)
      have ht := Iv.turn (HB := HB) (W := WB.drewN m) hrk (by omega) (by have := hml r (List.mem_of_getElem? hrk); omega) (Iv.grow (W' := WB.drewN m) hI hwn hq hs hBw) (Nat.le_trans hwn hs) (by omega) ((hq _ (by omega)).trans hbox) (NmV.keep (W' := WB.drewN m) hnm2 (fun q hq2 => hq q (by omega))) (by rw [hst]; exact hsp2) (fun h => by have := (Sp.rng _ hsp HB h).2; omega) (by show HB < WB.heap.size; omega)
      rw [hst] at ht
      refine ht.mono ?_
      rintro e W1 ⟨v', h1, h2, h3⟩
      refine ⟨v', h1, h2, (World.cell?_of_block h3).trans ?_⟩
      rw [World.cell?_drewN, hHB]; simp [World.cell?, hBn]
    rw [← hHB] at hB0 hB1 ⊢
    clear hHB
    have hbc : ∀ n, (WB.drewN n).cell? ⟨W.heap.size, 0, none⟩ = some (boxV W.heap.size) := fun n => by rw [World.cell?_drewN, World.cell?_of_block (hBlow W.heap.size (by omega))]; simp [World.cell?, hbox]
    unfold boxV at hbc
    have hB0' : ∀ n, (WB.drewN n).cell? ⟨HB, 0, none⟩ = some (.string ⟨r.text.toArray⟩) := fun n => by rw [World.cell?_drewN]; exact hB0
    have hB1' : ∀ n, (WB.drewN n).cell? ⟨HB, 1, none⟩ = some (.slice ma r.marks.length mc) := fun n => by rw [World.cell?_drewN]; exact hB1
    go_loopw [13] (fun vj w3 => ∃ j n : Nat, vj = .int .i64 j ∧ j ≤ cpl st.2 r.marks ∧ w3 = WB.drewN n)
      (fun i _ => cpl st.2 r.marks - (intOf i).toNat)
    case atStart => exact ⟨0, 0, rfl, Nat.zero_le _, rfl⟩
    case round =>
      obtain ⟨j, n, rfl, hj, rfl⟩ := hrel
      by_cases h1 : j < st.2.length
      case neg =>
        have g1 : decide ((j : Int) < (st.2.length : Int)) = false := by simp; omega
        go_wp2_with (fail)
        go_quiet (fail)
        obtain rfl : j = cpl st.2 r.marks := by omega
        go_wp2_with (fail)
        refine (hadd _).mono ?_
        rintro e W1 ⟨v', rfl, hI2, hc1⟩
        go_wp2
        exact ⟨⟨k + 1, by omega, v1 k, hI2⟩, m1 _ _ hlt⟩
      obtain ⟨x, hx⟩ : ∃ x, st.2[j]? = some x := ⟨_, List.getElem?_eq_getElem h1⟩
      obtain ⟨lb, lo, rfl, hlb, hlx⟩ := hlc j x hx
      have g1 : (j : Int) < (st.2.length : Int) := by omega
      have hlx' : ∀ n, (WB.drewN n).cell? ⟨lb, lo + j, none⟩ = some (.string ⟨x.toArray⟩) := fun n => by rw [World.cell?_drewN, World.cell?_of_block (hBlow lb (by omega))]; exact hlx
      by_cases h2 : j < r.marks.length
      case neg =>
        have g2 : decide ((j : Int) < (r.marks.length : Int)) = false := by simp; omega
        go_wp2_with (fail)
        go_quiet (fail)
        obtain rfl : j = cpl st.2 r.marks := by omega
        go_wp2_with (fail)
        refine (hadd _).mono ?_
        rintro e W1 ⟨v', rfl, hI2, hc1⟩
        go_wp2
        exact ⟨⟨k + 1, by omega, v1 k, hI2⟩, m1 _ _ hlt⟩
      obtain ⟨y, hy⟩ : ∃ y, r.marks[j]? = some y := ⟨_, List.getElem?_eq_getElem h2⟩
      obtain ⟨mb, mo, rfl, hmb, hmy⟩ := hmc j y hy
      have g2 : (j : Int) < (r.marks.length : Int) := by omega
      have hmy' : ∀ n, (WB.drewN n).cell? ⟨mb, mo + j, none⟩ = some (.string ⟨y.toArray⟩) := fun n => by rw [World.cell?_drewN, World.cell?_of_block (hBlow mb (by omega))]; exact hmy
      by_cases hxy : x = y
      · have hxyb : (x == y) = true := by simpa using hxy
        go_wp2_with (fail)
        go_quiet (fail)
        have hjn : j + 1 ≤ cpl st.2 r.marks := by
          rcases Nat.lt_or_ge j (cpl st.2 r.marks) with h | h
          · exact h
          · have : j = cpl st.2 r.marks := by omega
            rw [this] at hx hy
            rw [hxy] at hx
            exact absurd (cpl_end hx hy) (by simp)
        have hwj : wrap64 ((j : Int) + 1) = (j : Int) + 1 := wrap_nat (x := j + 1) (Nat.lt_of_le_of_lt (Nat.succ_le_of_lt h2) (Nat.lt_trans hmr (by decide)))
        go_wp2_with (fail)
        exact ⟨⟨j + 1, _, by rw [hwj]; exact v1 j, hjn, rfl⟩, by rw [hwj]; exact m1 _ _ hjn⟩
      · have hxyb : (x == y) = false := by simpa using hxy
        go_wp2_with (fail)
        go_quiet (fail)
        obtain rfl : j = cpl st.2 r.marks := by
          rcases Nat.lt_or_ge j (cpl st.2 r.marks) with h | h
          · obtain ⟨z, h1, h2⟩ := cpl_lt h
            rw [hx] at h1; rw [hy] at h2
            cases h1; cases h2; exact absurd rfl hxy
          · omega
        go_wp2_with (fail)
        refine (hadd _).mono ?_
        rintro e W1 ⟨v', rfl, hI2, hc1⟩
        go_wp2
        exact ⟨⟨k + 1, by omega, v1 k, hI2⟩, m1 _ _ hlt⟩
end Go.VL.NestRaw
