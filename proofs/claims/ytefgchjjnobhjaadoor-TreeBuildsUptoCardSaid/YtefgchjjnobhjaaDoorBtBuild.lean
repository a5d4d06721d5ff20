/- tree.Build, walked. -/
import Derived.Test.YtefgchjjnobhjaaDoorBtNodes
set_option linter.unusedVariables false
set_option linter.unusedSimpArgs false
namespace Go.VL.BtBuild
open Go Go.Proofs Go.VL Go.RowKit Go.VL.BtA Go.VL.BtFind Go.VL.BtB Go.VL.BtChars Go.VL.BtClone Go.VL.BtStart Go.VL.BtNodes
set_option maxRecDepth 100000
def rootR (o : Nat) : Rec := { o := o, vp := .slice none 0 0, nb := 0, va := .slice none 0 0, e := ⟨-2, [], [], [], true⟩ }
/-- The builder as it is made. -/
theorem bt_start (w : World) {W4 : World} (h0 : W4.heap[w.heap.size]? = some (.cells #[.pointer none, .slice none 0 0, .string ⟨#[]⟩, .bool false] 34 (0, 0)))
    (h1 : W4.heap[w.heap.size + 1]? = some (.cells #[.pointer (some ⟨w.heap.size, 0, none⟩), .slice (some ⟨w.heap.size + 2, 0, none⟩) 1 1, .int .i64 0, .string ⟨#[]⟩] 36 (0, 0)))
    (h2 : W4.ownsRow w.heap.size 30 1 (.slice (some ⟨w.heap.size + 2, 0, none⟩) 1 1) 1 [.pointer (some ⟨w.heap.size, 0, none⟩)]) (hb : Below w.heap.size w W4) :
    Bt w (w.heap.size + 1) [rootR w.heap.size] [] (.slice (some ⟨w.heap.size + 2, 0, none⟩) 1 1) 0 [] W4 := by
  have one : ∀ {k : Nat} {r : Rec}, [rootR w.heap.size][k]? = some r → k = 0 ∧ r = rootR w.heap.size := fun {k r} h => by
    cases k with
    | zero => simp at h; exact ⟨rfl, h.symm⟩
    | succ k => simp at h
  refine ⟨h1, by omega, h2, fun k r hk => ?_, fun j k r r' hj hk hne => ?_, fun k r hk => ?_, ⟨_, rfl, rfl⟩, ⟨?_, ?_, ?_, ?_⟩, ?_, by simp, by simp, hb⟩
  · obtain ⟨rfl, rfl⟩ := one hk
    exact ⟨h0, World.ownsRow_nil _ _ _ _, fun h => (by cases h), Nat.le_refl _⟩
  · obtain ⟨rfl, rfl⟩ := one hj
    obtain ⟨rfl, rfl⟩ := one hk
    exact absurd rfl hne
  · obtain ⟨rfl, rfl⟩ := one hk
    exact .inl rfl
  · intro j e h; simp [esQ] at h
  · intro j e h; simp [esQ] at h
  · intro j e h; simp [esQ] at h
  · intro j e h; simp [esQ] at h
  · intro x hx; cases hx
def pbuild (ts : List TokT) : List Nd × Int := if ts.length > 300 then ([], 1) else match prun [] [] [] ts with
  | (es, 0) => (nodesK es (es.length + 1) (-1), 0)
  | (_, c) => ([], c)
theorem AtA.form {w : World} {v : Value} {l : List Attr} (h : AtA w v l) : ∃ a n c, v = .slice a n c := by
  rcases h with ⟨_, a, c, rfl⟩ | ⟨g, o, c, rfl, _⟩
  · exact ⟨_, _, _, rfl⟩
  · exact ⟨_, _, _, rfl⟩
theorem tx_start {es : List Ent} {s : List Nat} {t : TokT} {B B' : Nat} (hB : B ≤ B') (h : ∀ e ∈ es, e.text.length ≤ B) : ∀ e ∈ (pstart es s t).1, e.text.length ≤ B' := by
  unfold pstart
  simp only
  split
  · intro e he; have := h e he; omega
  · intro e he
    rcases List.mem_append.1 he with he | he
    · have := h e he; omega
    · simp at he; subst he; simp
theorem tx_same {es : List Ent} {B B' : Nat} (hB : B ≤ B') (h : ∀ e ∈ es, e.text.length ≤ B) : ∀ e ∈ es, e.text.length ≤ B' := fun e he => by have := h e he; omega
theorem tx_chars {es : List Ent} {s : List Nat} {mute tx : Str} {B B' : Nat} (hB : B + tx.length ≤ B') (h : ∀ e ∈ es, e.text.length ≤ B) : ∀ e ∈ pchars es s mute tx, e.text.length ≤ B' := by
  have h1 : ∀ e ∈ es, e.text.length ≤ B' := fun e he => by have := h e he; omega
  have h2 : ∀ (q : Int), ∀ e ∈ es ++ [(⟨q, [], [], tx, true⟩ : Ent)], e.text.length ≤ B' := fun q e he => by
    rcases List.mem_append.1 he with he | he
    · exact h1 e he
    · simp at he; subst he; simp; omega
  unfold pchars
  split
  · exact h1
  · unfold addTx
    split
    · rename_i f hf
      split
      · intro e he
        rcases List.mem_or_eq_of_mem_set he with he | he
        · exact h1 e he
        · subst he
          have := h f (List.mem_of_getElem? hf)
          simp; omega
      · exact h2 _
    · exact h2 _
/-- What a step does to the run. -/
theorem prun_step {es : List Ent} {s : List Nat} {mute : Str} {t : TokT} {ts : List TokT} {es' : List Ent} {s' : List Nat} {m' : Str} (h : pstep es s mute t = some (es', s', m')) : prun es s mute (t :: ts) = if es'.length > 150 then ([], 1) else prun es' s' m' ts := by
  rw [prun, h]
section
variable {w : World} {ts : List TokT}
set_option maxHeartbeats 2000000 in
theorem build_raw (a : Option Addr) (g o cap : Nat) (ha : ts ≠ [] → a = some ⟨g, o, none⟩) (N0 : Nat → Prop) (hN0 : ∀ b, N0 b → b < w.heap.size)
    (rT : ∀ (i : Nat) (t : TokT), ts[i]? = some t → ∃ av, AtA w av t.attrs ∧ w.cell? ⟨g, o + i * 5, none⟩ = some (.int .i64 t.kind) ∧ w.cell? ⟨g, o + i * 5 + 1, none⟩ = some (.string ⟨t.name.toArray⟩) ∧ w.cell? ⟨g, o + i * 5 + 2, none⟩ = some av ∧ w.cell? ⟨g, o + i * 5 + 3, none⟩ = some (.bool t.self) ∧ w.cell? ⟨g, o + i * 5 + 4, none⟩ = some (.string ⟨t.text.toArray⟩))
    (hsz : ∀ t ∈ ts, t.attrs.length < 2 ^ 40 ∧ t.text.length < 2 ^ 40)
    (hcb : ∀ (W : World) (nm : Str), Below w.heap.size w W → Calls Tryd.prog 18 #[.slice (some ⟨0, 0, none⟩) 9 9, .string ⟨nm.toArray⟩] W fun e W' => e = .returned (.bool (decide (nm ∈ blocksN))) ∧ Below W.heap.size W W')
    (hcv : ∀ (W : World) (nm : Str), Below w.heap.size w W → Calls Tryd.prog 18 #[.slice (some ⟨1, 0, none⟩) 4 4, .string ⟨nm.toArray⟩] W fun e W' => e = .returned (.bool (decide (nm ∈ voidsN))) ∧ Below W.heap.size W W') :
    Calls Tryd.prog 4 #[.slice a ts.length cap] w fun e W => ∃ v, e = .returned (.tuple #[v, .int .i64 (pbuild ts).2]) ∧ RepD W N0 v (.sl (nds (pbuild ts).1)) ∧ Below w.heap.size w W := by
  go_enter Tryd.func4, Tryd.ntmps4
  by_cases hbig : ts.length > 300
  · have hb2 : (300 : Int) < ts.length := by omega
    have e : pbuild ts = ([], 1) := by unfold pbuild; rw [if_pos hbig]
    rw [e]
    go_wp2
    go_ret2
    exact ⟨_, rfl, .nil, Below.refl _ _⟩
  have hb2 : ¬ (300 : Int) < ts.length := by omega
  go_wp2
  have hbt0 : Bt w (w.heap.size + 1) [rootR w.heap.size] [] (.slice (some ⟨w.heap.size + 1 + 1, 0, none⟩) 1 1) 0 [] (((w.alloc (.cells #[.pointer none, .slice none 0 0, .string ⟨#[]⟩, .bool false] 34)).alloc (.cells #[.pointer (some ⟨w.heap.size, 0, none⟩), .slice (some ⟨w.heap.size + 1 + 1, 0, none⟩) 1 1, .int .i64 0, .string ⟨#[]⟩] 36)).alloc (.cells #[.pointer (some ⟨w.heap.size, 0, none⟩)] 30)) := by
    refine bt_start w ?_ ?_ ?_ ?_
    · exact (Below.heap_alloc _ _ _ (by simp; omega)).trans ((Below.heap_alloc _ _ _ (by simp)).trans (World.alloc_heap_new w _))
    · refine (Below.heap_alloc _ _ _ (by simp)).trans ?_
      have := World.alloc_heap_new (w.alloc (.cells #[.pointer none, .slice none 0 0, .string ⟨#[]⟩, .bool false] 34)) (.cells #[.pointer (some ⟨w.heap.size, 0, none⟩), .slice (some ⟨w.heap.size + 1 + 1, 0, none⟩) 1 1, .int .i64 0, .string ⟨#[]⟩] 36)
      rwa [World.size_alloc] at this
    · have := World.ownsRow_lit (base := w.heap.size) (size := 1) (e := 30) ((w.alloc (.cells #[.pointer none, .slice none 0 0, .string ⟨#[]⟩, .bool false] 34)).alloc (.cells #[.pointer (some ⟨w.heap.size, 0, none⟩), .slice (some ⟨w.heap.size + 1 + 1, 0, none⟩) 1 1, .int .i64 0, .string ⟨#[]⟩] 36)) #[.pointer (some ⟨w.heap.size, 0, none⟩)] 1 (by simp; omega) (by decide) rfl
      rw [World.size_alloc, World.size_alloc] at this
      exact this
    · exact (((Below.refl _ w).alloc (Nat.le_refl _) _).alloc (by simp) _).alloc (by simp; omega) _
  go_loopg [24] ts.length (fun gg vi W' => ∃ (i : Nat) (Q : List Rec) (s : List Nat) (vs : Value) (mute : Str), i ≤ ts.length ∧ gg = ts.length - i ∧ vi = .int .i64 i ∧ Bt w (w.heap.size + 1) Q s vs ((Q.length : Int) - 1) mute W' ∧ Q.length ≤ 151 ∧ prun (esQ Q) s mute (ts.drop i) = prun [] [] [] ts ∧ ∀ e ∈ esQ Q, e.text.length ≤ i * 2199023255552)
  case atStart => exact ⟨0, [rootR w.heap.size], [], _, [], Nat.zero_le _, rfl, rfl, hbt0, by simp, rfl, fun e he => by simp [esQ] at he⟩
  case round =>
    clear hbt0
    obtain ⟨i, Q, s, vs, mute, hi, rfl, rfl, hB, hQ, hrun, htx⟩ := hrel
    have hroot : ptrQ Q 0 = ptrQ Q 0 := rfl
    by_cases hlt : i < ts.length
    case neg =>
      have hie : i = ts.length := by omega
      subst hie
      rw [List.drop_of_length_le (Nat.le_refl _), prun] at hrun
      have hpb : pbuild ts = (nodesK (esQ Q) ((esQ Q).length + 1) (-1), 0) := by
        unfold pbuild
        rw [if_neg hbig, ← hrun]
        rfl
      obtain ⟨r0, h0, _⟩ := hB.root
      have hnd := nodes_raw ((esQ Q).length + 1) 0 r0 wr N0 h0 (by omega) hB (fun b hb => by have := hN0 b hb; have := hB.bel.size; omega) (fun j rj hj ht b hb hx => by
        have := (((hB.rk j rj hj).nod ht).2.lt b hb).1
        have := hN0 b hx
        omega)
      have d0 := hB.b0
      rw [ptrQ_at h0] at d0
      clear hroot
      go_wp2_with (go_at_call 11; refine hnd.mono ?_; rintro e W5 ⟨v5, rfl, hr5, hb5⟩)
      go_ret2
      rw [hpb]
      exact ⟨_, rfl, hr5, hb5.os.trans hB.bel.os, hb5.tape.trans hB.bel.tape, hb5.output.trans hB.bel.output, Nat.le_trans hB.bel.size hb5.size, fun k hk => (hb5.block k (Nat.lt_of_lt_of_le hk hB.bel.size)).trans (hB.bel.block k hk)⟩
    have hlt2 : (i : Int) < ts.length := by omega
    obtain ⟨t, ht⟩ : ∃ t, ts[i]? = some t := ⟨_, List.getElem?_eq_getElem hlt⟩
    obtain ⟨av, hav, t0, t1, t2, t3, t4⟩ := rT i t ht
    obtain ⟨hz1, hz2⟩ := hsz t (List.mem_of_getElem? ht)
    have ha2 := ha (by rintro rfl; simp at hlt)
    subst ha2
    have cw : ∀ {ad : Addr} {x : Value}, w.cell? ad = some x → wr.cell? ad = some x := fun {ad x} hx => by rw [← hx]; exact World.cell?_of_block (hB.bel.block ad.block (World.block_lt_of_cell? _ _ hx))
    have r0 := cw t0
    have r1 := cw t1
    have r2 := cw t2
    have r3 := cw t3
    have r4 := cw t4
    clear cw rT
    have hdrop : ts.drop i = t :: ts.drop (i + 1) := by
      obtain ⟨_, rfl⟩ := List.getElem?_eq_some_iff.1 ht
      exact List.drop_eq_getElem_cons hlt
    rw [hdrop] at hrun
    obtain ⟨aa, an, ac, rfl⟩ := AtA.form hav
    have hS : Sx w (w.heap.size + 1) wr.heap.size Q s ((Q.length : Int) - 1) mute (tcV t (.slice aa an ac)) (wr.alloc (.cells (tcV t (.slice aa an ac)) 39)) := ⟨⟨vs, hB.alloc _⟩, World.alloc_heap_new wr _⟩
    have hst := start_raw (hB.alloc (.cells (tcV t (.slice aa an ac)) 39)) hQ t (.slice aa an ac) hav hz1 hcb hcv
    have hch := chars_raw (hB.alloc (.cells (tcV t (.slice aa an ac)) 39)) hQ t.text (fun e he => by have := htx e he; omega)
    have hfd := hS.find t.name
    have hcl := hS.close t.name
    simp only [tcV] at hst hch hfd hcl
    have hq0 : Q ≠ [] := by obtain ⟨r0, h0, _⟩ := hB.root; rintro rfl; cases h0
    have hel := esQ_len hq0
    by_cases k1 : t.kind = 1
    · have hps : pstep (esQ Q) s mute t = some (pstart (esQ Q) s t) := by unfold pstep; rw [if_pos k1]
      obtain ⟨es', s', m', hpp⟩ : ∃ es' s' m', pstart (esQ Q) s t = (es', s', m') := ⟨_, _, _, rfl⟩
      have htx2 := tx_start (s := s) (t := t) (B' := (i + 1) * 2199023255552) (by omega) htx
      rw [hpp] at hps hst htx2
      rw [prun_step hps] at hrun
      simp only [k1] at hst
      clear hch hfd hcl hps hpp
      go_upto_region 19 with (go_at_call 7; refine hst.mono ?_; rintro e W5 ⟨rfl, Q', vs', rfl, hB'⟩; have p2 := hB'.b2; have hel' := esQ_len (Q := Q') (by obtain ⟨r0, h0, _⟩ := hB'.root; rintro rfl; cases h0))
      have htx' := htx2
      by_cases hc : Q'.length > 151
      · have hci : (150 : Int) < (Q'.length : Int) - 1 := by omega
        have hpb : pbuild ts = ([], 1) := by
          unfold pbuild
          rw [if_neg hbig, ← hrun, if_pos (by omega)]
          rfl
        go_wp2_with fail
        go_ret2
        rw [hpb]
        exact ⟨_, rfl, .nil, hB'.bel⟩
      · have hci : ¬ (150 : Int) < (Q'.length : Int) - 1 := by omega
        rw [if_neg (by omega)] at hrun
        go_wp2_with fail
        go_roundg (ts.length - (i + 1))
        case measure => omega
        case rel => exact ⟨i + 1, Q', _, _, _, by omega, rfl, rfl, hB', by omega, hrun, htx'⟩
    by_cases k3 : t.kind = 3
    · have hps : pstep (esQ Q) s mute t = some (pchars (esQ Q) s mute t.text, s, mute) := by unfold pstep; rw [if_neg k1, if_neg (by omega), if_pos k3]
      have htx2 := tx_chars (s := s) (mute := mute) (tx := t.text) (B' := (i + 1) * 2199023255552) (by omega) htx
      rw [prun_step hps] at hrun
      simp only [k3] at hch
      clear hst hfd hcl hps
      go_upto_region 19 with (go_at_call 10; refine hch.mono ?_; rintro e W5 ⟨rfl, Q', hq', hB'⟩; have p2 := hB'.b2; have hel' := esQ_len (Q := Q') (by obtain ⟨r0, h0, _⟩ := hB'.root; rintro rfl; cases h0))
      rw [← hq'] at hrun htx2
      have htx' := htx2
      by_cases hc : Q'.length > 151
      · have hci : (150 : Int) < (Q'.length : Int) - 1 := by omega
        have hpb : pbuild ts = ([], 1) := by
          unfold pbuild
          rw [if_neg hbig, ← hrun, if_pos (by omega)]
          rfl
        go_wp2_with fail
        go_ret2
        rw [hpb]
        exact ⟨_, rfl, .nil, hB'.bel⟩
      · have hci : ¬ (150 : Int) < (Q'.length : Int) - 1 := by omega
        rw [if_neg (by omega)] at hrun
        go_wp2_with fail
        go_roundg (ts.length - (i + 1))
        case measure => omega
        case rel => exact ⟨i + 1, Q', _, _, _, by omega, rfl, rfl, hB', by omega, hrun, htx'⟩
    by_cases k4 : t.kind = 4
    · have hps : pstep (esQ Q) s mute t = some (esQ Q, s, mute) := by unfold pstep; rw [if_neg k1, if_neg (by omega), if_neg (by omega), if_pos k4]
      rw [prun_step hps] at hrun
      clear hst hch hfd hcl hps
      obtain ⟨vsA, hBA⟩ := hS.b
      simp only [tcV, k4] at hBA
      have p2 := hBA.b2
      go_upto_region 19 with fail
      obtain ⟨Q', hQ'⟩ : ∃ Q', Q = Q' := ⟨_, rfl⟩
      subst hQ'
      have hel' := hel
      have hB' := hBA
      have htx' : ∀ e ∈ esQ Q, e.text.length ≤ (i + 1) * 2199023255552 := tx_same (by omega) htx
      have hci : ¬ (150 : Int) < (Q.length : Int) - 1 := by omega
      rw [if_neg (by omega)] at hrun
      go_wp2_with fail
      go_roundg (ts.length - (i + 1))
      case measure => omega
      case rel => exact ⟨i + 1, Q, _, _, _, by omega, rfl, rfl, hB', by omega, hrun, htx'⟩
    by_cases k2 : t.kind = 2
    · have hps : pstep (esQ Q) s mute t = some (esQ Q, pclose s (fnd (esQ Q) t.name s), if t.name = mute then [] else mute) := by unfold pstep; rw [if_neg k1, if_pos k2]
      rw [prun_step hps] at hrun
      simp only [k2] at hfd hcl
      have htx' : ∀ e ∈ esQ Q, e.text.length ≤ (i + 1) * 2199023255552 := tx_same (by omega) htx
      clear hst hch hps
      go_upto_region 14 with (first
        | (go_at_call 9; refine hfd.mono ?_; rintro e W6 ⟨rfl, rfl⟩)
        | (go_at_call 8; refine hcl.mono ?_; rintro e W7 ⟨rfl, hS7⟩))
      obtain ⟨⟨vs7, hB7⟩, hbox7⟩ := hS7
      have n7 : W7.cell? ⟨wr.heap.size, 1, none⟩ = some (.string ⟨t.name.toArray⟩) := by simp [World.cell?, hbox7]
      have m7 := hB7.b3
      unfold strV at m7
      by_cases hm : (t.name == mute) = true
      · have hm2 : t.name = mute := by simpa using hm
        rw [if_pos hm2] at hrun
        clear hm2
        go_quiet (fail)
        have hB' := (hB7.drewN nq).setMute []
        have g3 := (hB7.drewN nq).b3
        have g4 := (hB7.drewN nq).bf 3
        have p2 := hB'.b2
        simp only [strV] at p2 hB' g3
        go_upto_region 19 with fail
        have hci : ¬ (150 : Int) < (Q.length : Int) - 1 := by omega
        rw [if_neg (by omega)] at hrun
        go_wp2_with fail
        go_roundg (ts.length - (i + 1))
        case measure => omega
        case rel => exact ⟨i + 1, Q, _, _, _, by omega, rfl, rfl, hB', by omega, hrun, htx'⟩
      · have hm2 : ¬ t.name = mute := by simpa using hm
        have hmf : (t.name == mute) = false := by simpa using hm
        rw [if_neg hm2] at hrun
        go_quiet (fail)
        have hB' := hB7.drewN nq
        have p2 := hB'.b2
        go_upto_region 19 with fail
        have hci : ¬ (150 : Int) < (Q.length : Int) - 1 := by omega
        rw [if_neg (by omega)] at hrun
        go_wp2_with fail
        go_roundg (ts.length - (i + 1))
        case measure => omega
        case rel => exact ⟨i + 1, Q, _, _, _, by omega, rfl, rfl, hB', by omega, hrun, htx'⟩
    · have hps : pstep (esQ Q) s mute t = none := by unfold pstep; rw [if_neg k1, if_neg k2, if_neg k3, if_neg k4]
      have hpb : pbuild ts = ([], 3) := by
        unfold pbuild
        rw [if_neg hbig, ← hrun, prun, hps]
        rfl
      obtain ⟨vsA, hBA⟩ := hS.b
      simp only [tcV] at hBA
      have q1 : (t.kind == 1) = false := by simpa using k1
      have q2 : (t.kind == 2) = false := by simpa using k2
      have q3 : (t.kind == 3) = false := by simpa using k3
      have q4 : (t.kind == 4) = false := by simpa using k4
      clear hst hch hfd hcl hps
      go_wp2_with fail
      go_ret2
      refine ⟨.slice none 0 0, ?_, ?_, hBA.bel⟩
      · first | rfl | (rw [hpb]; rfl) | simp [hpb]
      · first | exact .nil | (rw [hpb]; exact .nil)
end
end Go.VL.BtBuild
