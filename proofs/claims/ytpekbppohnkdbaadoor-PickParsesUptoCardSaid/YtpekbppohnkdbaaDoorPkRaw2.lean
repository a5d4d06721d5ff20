/- pick.Parse walked: the body. -/
import Derived.Test.YtpekbppohnkdbaaDoorPkRaw
import Derived.Test.YtpekbppohnkdbaaDoorPickText
import Derived.Test.YtpekbppohnkdbaaDoorVFields
import Derived.Shelf.Small.Wraps
set_option linter.unusedVariables false
set_option linter.unusedSimpArgs false
namespace Go.Proofs
open Go.Shelf
def Tryd.lays145_ren : Go.Shelf.Ren := ⟨fun | 145 => 8 | 220 => 17 | 219 => 28 | 217 => 35 | 225 => 36 | 224 => 37 | 267 => 38 | 266 => 41 | 314 => 42 | n => n, fun | 9 => 9 | 4 => 4 | 59 => 33 | 3 => 3 | 5 => 5 | 46 => 65 | 146 => 74 | 51 => 73 | n => n, fun | 1 => 0 | n => n⟩
theorem Tryd.lays145 : Go.Proofs.Lays.n145 Tryd.prog Tryd.lays145_ren := {
  mixed := by kernel_rfl
  f145 := Tryd.func8.trans (congrArg some (by kernel_rfl))
  f217 := Tryd.func35.trans (congrArg some (by kernel_rfl))
  f219 := Tryd.func28.trans (congrArg some (by kernel_rfl))
  f220 := Tryd.func17.trans (congrArg some (by kernel_rfl))
  f224 := Tryd.func37.trans (congrArg some (by kernel_rfl))
  f225 := Tryd.func36.trans (congrArg some (by kernel_rfl))
  f266 := Tryd.func41.trans (congrArg some (by kernel_rfl))
  f267 := Tryd.func38.trans (congrArg some (by kernel_rfl))
  f314 := Tryd.func42.trans (congrArg some (by kernel_rfl))
  t3 := Tryd.underlying3
  a3 := Tryd.isAgg3
  z3 := Tryd.sizeOf3
  v3 := Tryd.zeroValue3
  t4 := Tryd.underlying4
  a4 := Tryd.isAgg4
  z4 := Tryd.sizeOf4
  v4 := Tryd.zeroValue4
  t5 := Tryd.underlying5
  a5 := Tryd.isAgg5
  z5 := Tryd.sizeOf5
  v5 := Tryd.zeroValue5
  t9 := Tryd.underlying9
  a9 := Tryd.isAgg9
  z9 := Tryd.sizeOf9
  v9 := Tryd.zeroValue9
  t46 := Tryd.underlying65
  a46 := Tryd.isAgg65
  z46 := Tryd.sizeOf65
  v46 := Tryd.zeroValue65
  t51 := Tryd.underlying73
  a51 := Tryd.isAgg73
  z51 := Tryd.sizeOf73
  v51 := Tryd.zeroValue73
  t59 := Tryd.underlying33
  a59 := Tryd.isAgg33
  z59 := Tryd.sizeOf33
  v59 := Tryd.zeroValue33
  t146 := Tryd.underlying74
  a146 := Tryd.isAgg74
  z146 := Tryd.sizeOf74
  v146 := Tryd.zeroValue74
  g1 := by kernel_rfl }
def Tryd.lays104_ren : Go.Shelf.Ren := ⟨fun | 104 => 9 | 211 => 18 | 207 => 29 | n => n, fun | 9 => 9 | 4 => 4 | 24 => 35 | 3 => 3 | n => n, fun | n => n⟩
theorem Tryd.lays104 : Go.Proofs.Lays.n104 Tryd.prog Tryd.lays104_ren := {
  mixed := by kernel_rfl
  f104 := Tryd.func9.trans (congrArg some (by kernel_rfl))
  f207 := Tryd.func29.trans (congrArg some (by kernel_rfl))
  f211 := Tryd.func18.trans (congrArg some (by kernel_rfl))
  t3 := Tryd.underlying3
  a3 := Tryd.isAgg3
  z3 := Tryd.sizeOf3
  v3 := Tryd.zeroValue3
  t4 := Tryd.underlying4
  a4 := Tryd.isAgg4
  z4 := Tryd.sizeOf4
  v4 := Tryd.zeroValue4
  t9 := Tryd.underlying9
  a9 := Tryd.isAgg9
  z9 := Tryd.sizeOf9
  v9 := Tryd.zeroValue9
  t24 := Tryd.underlying35
  a24 := Tryd.isAgg35
  z24 := Tryd.sizeOf35
  v24 := Tryd.zeroValue35 }
end Go.Proofs
namespace Go.VL.PkRaw
open Go Go.Proofs Go.VL Go.RowKit Go.Shelf Go.VL.PkIter Go.VL.PickText
attribute [local go_sem] Oper.semAt_some
set_option maxRecDepth 100000
/-- The picks read so far, and whether the next one stands deep. -/
def stp (a : Bool × List Pick) (w : Str) : Bool × List Pick := if w = [62] then (false, a.2) else (true, a.2 ++ [pkW a.1 w])
def fo (pre : List Str) : Bool × List Pick := pre.foldl stp (true, [])
theorem fo_snoc (pre : List Str) (w : Str) : fo (pre ++ [w]) = stp (fo pre) w := by simp [fo]
theorem fold_prW : ∀ (r : List Str) (a : Bool × List Pick), (r.foldl stp a).2 = a.2 ++ prW a.1 r
  | [], a => by simp [prW]
  | w :: r, a => by
    rw [List.foldl_cons, fold_prW r, stp, prW]
    split <;> simp
theorem fo_prW (pre : List Str) : (fo pre).2 = prW true pre := by rw [fo, fold_prW]; simp
theorem prW_len : ∀ (d : Bool) (r : List Str), (prW d r).length ≤ r.length
  | _, [] => by simp [prW]
  | d, w :: r => by
    rw [prW]
    split
    · have := prW_len false r; simp; omega
    · have := prW_len true r; simp; omega
theorem fo_len (pre : List Str) : (fo pre).2.length ≤ pre.length := by rw [fo_prW]; exact prW_len _ _
/-- A pick in cells. -/
def pc (p : Pick) : List Value := [.string ⟨p.name.toArray⟩, .string ⟨p.attr.toArray⟩, .bool p.deep]
def pkcs (l : List Pick) : List Value := l.flatMap pc
theorem pkcs_snoc (l : List Pick) (p : Pick) : pkcs (l ++ [p]) = pkcs l ++ pc p := by simp [pkcs]
theorem pkcs_len (l : List Pick) : (pkcs l).length = l.length * 3 := by
  induction l with
  | nil => rfl
  | cons p l ih => simp [pkcs] at ih ⊢; rw [ih]; simp [pc]; omega
/-- Between two rounds. -/
structure Iv (w : World) (a : Bool × List Pick) (W : World) : Prop where
  out : ∃ v, Boxed W w.heap.size 22 v ∧ W.ownsRow w.heap.size 32 3 v a.2.length (pkcs a.2)
  deep : Boxed W (w.heap.size + 1) 4 (.bool a.1)
  bel : Below w.heap.size w W
theorem infoP : (Tryd.prog.info? 32).map (fun i => (i.zero, i.size, i.bytes)) = some (some (.agg #[.string ByteArray.empty, .string ByteArray.empty, .bool false]), 3, 40) := by kernel_rfl
theorem Iv.setB {w W : World} {a : Bool × List Pick} {b : Nat} {t : TypeId} {u : Value} (h : Iv w a W) (hb : Boxed W b t u) (ht : t ≠ 32) (h0 : b ≠ w.heap.size) (h1 : b ≠ w.heap.size + 1) (hle : w.heap.size ≤ b) (x : Value) : Iv w a (W.setCell ⟨b, 0, none⟩ x) := by
  obtain ⟨⟨v, h2, h3⟩, h4, h5⟩ := h
  exact ⟨⟨v, h2.other h0.symm _, h3.kept (grownBy_setCell' W b x) (.inr (hb.not_row ht h3).symm)⟩, h4.other h1.symm _, h5.setCell (p := ⟨b, 0, none⟩) hle _⟩
theorem Iv.alloc {w W : World} {a : Bool × List Pick} (h : Iv w a W) (o : Obj) : Iv w a (W.alloc o) := by
  obtain ⟨⟨v, h2, h3⟩, h4, h5⟩ := h
  exact ⟨⟨v, h2.alloc _, h3.alloc _⟩, h4.alloc _, h5.alloc h5.size _⟩
theorem Iv.putObj {w W : World} {a : Bool × List Pick} (h : Iv w a W) {l : Nat} {o : Obj} (o' : Obj) (hl : W.heap[l]? = some o) (ho : o.isCells = false) (hw : o.isWalk = false) (hle : w.heap.size ≤ l) : Iv w a (W.putObj l o') := by
  obtain ⟨⟨v, h2, h3⟩, h4, h5⟩ := h
  have hb : ∀ {B : Nat} {t : TypeId} {v : Value}, Boxed W B t v → Boxed (W.putObj l o') B t v := fun h => h.kept (grownBy_putObj' W l o') (fun e => by
    cases e
    rw [show W.heap[l]? = _ from h] at hl; cases hl; cases ho)
  exact ⟨⟨v, hb h2, ownsRow_putObj h3 o' hl ho⟩, hb h4, h5.trans (belowK_b (w := w) (Nat.le_refl _) W l o o' hle hl ho hw)⟩
theorem Iv.deep1 {w W : World} {a : Bool × List Pick} (h : Iv w a W) (b : Bool) : Iv w (b, a.2) (W.setCell ⟨w.heap.size + 1, 0, none⟩ (.bool b)) := by
  obtain ⟨⟨v, h2, h3⟩, h4, h5⟩ := h
  exact ⟨⟨v, h2.other (by omega) _, h3.kept (grownBy_setCell' W _ _) (.inr (h4.not_row (by decide) h3).symm)⟩, h4.set _, h5.setCell (p := ⟨w.heap.size + 1, 0, none⟩) (by simp) _⟩
/-- Where nothing that lay has turned. -/
theorem Iv.grown {w W W' : World} {a : Bool × List Pick} (h : Iv w a W) (hg : W.grownBy W' none) : Iv w a W' := by
  obtain ⟨⟨v, h2, h3⟩, h4, h5⟩ := h
  exact ⟨⟨v, h2.kept hg (by simp), h3.kept hg (by
    rcases h3.2 with ⟨rfl, _⟩ | ⟨g, cap, cur, rfl, _⟩
    · exact .inl rfl
    · exact .inr (by simp [Value.ownBlock]))⟩, h4.kept hg (by simp), h5.grown hg h5.size (fun j e => by cases e)⟩
theorem gBase (W : World) (o : Obj) (n : Nat) : W.grownBy ((W.alloc o).drewN n) none := by
  have := World.grownBy_alloc W o none
  exact ⟨this.os, this.tape, this.output, this.size, this.block⟩
theorem gSet {W X : World} {b o : Nat} {u : Value} (h : W.grownBy X none) (hb : W.heap.size ≤ b) : W.grownBy (X.setCell ⟨b, o, none⟩ u) none :=
  ⟨h.os, h.tape, h.output, Nat.le_trans h.size (KeepsWalks.setCell X _ u).size, fun k hk hn => (Below.heap_setCell _ _ _ k (by simp; omega)).trans (h.block k hk hn)⟩
set_option maxHeartbeats 1000000 in
/-- 'out = append(out, p)': the append, and what lies behind the store. -/
theorem app_in {F : Fence} {n : Nat} {ops : Array Oper} {rest : List Oper} {o : Oper} {a : Act} {Q : Exit → Act → World → Prop} (hgd : o.guard = none) (s x : Operand)
    (hop : o.op = Op.call { callee := Callee.builtin Builtin.append, args := #[s, x], argTypes := #[22, 22] })
    {w W WX : World} {st : Bool × List Pick} (pk : Pick) (hI : Iv w st W) (hlen : st.2.length ≤ 600) (hg : W.grownBy WX none) {v : Value} (hv : Boxed W w.heap.size 22 v) (hs : a.eval s = v) {bx : Nat} (hx : a.eval x = .slice (some ⟨bx, 0, none⟩) 1 1) (hbx : bx = WX.heap.size)
    (hK : ∀ g k cap w1, Boxed w1 w.heap.size 22 v → (∀ w2, w2 = w1.setCell ⟨w.heap.size, 0, none⟩ (.slice (some ⟨g, 0, none⟩) k cap) → Iv w (st.1, st.2 ++ [pk]) w2 ∧ KeepsOthers W w2 ∧ ∀ b t u, Boxed W b t u → t ≠ 32 → b ≠ w.heap.size → Boxed w2 b t u) →
      wpListIn F n Tryd.prog ops Q rest (a.put o.dst (.slice (some ⟨g, 0, none⟩) k cap)) w1) :
    wpListIn F n Tryd.prog ops Q (o :: rest) a (WX.alloc (.cells (pc pk).toArray 32)) := by
  subst hbx
  obtain ⟨i0, hi, hz0, hz1, hz2⟩ := info_parts infoP
  have hIX := hI.grown hg
  have hvX := hv.kept hg (by simp)
  obtain ⟨v0, hv0, hrow0⟩ := hIX.out
  obtain rfl : v0 = v := by have := hv0.symm.trans hvX; simpa using this
  refine wpListIn_append_own _ hgd s x 22 hop w.heap.size 32 i0 _ 3 40 Tryd.underlying22 hi hz0 hz1 hz2 rfl (by decide) v0 _ _ hs (hrow0.alloc _) ⟨WX.heap.size, 0, none⟩ 1 1 (pc pk) hx rfl ?_ ?_ ?_ ?_ ?_ ?_
  · intro j u hj
    have hnew := World.alloc_heap_new WX (.cells (pc pk).toArray 32)
    rw [Addr.add_lit]
    simp only [World.cell?, Nat.zero_add, hnew, Option.isSome_none, Bool.false_eq_true, if_false]
    simpa using hj
  · intro u hu
    simp [pc] at hu
    rcases hu with rfl | rfl | rfl <;> rfl
  · have : maxLen = 9223372036854775807 := rfl
    omega
  · omega
  · have := hIX.bel.size; simp; omega
  · intro v' w1 hown' hgrow _
    obtain ⟨g', cap', rfl⟩ := ownsRow_succ hown'
    obtain ⟨hv1, hv2, hr2, hk2, hb2⟩ := hvX.appended (by decide) hrow0 hIX.bel.size (Nat.le_refl _) hown' hgrow
    refine hK _ _ _ _ hv1 ?_
    rintro w2 rfl
    have hbox : ∀ b t u, Boxed WX b t u → t ≠ 32 → b ≠ w.heap.size → Boxed (w1.setCell ⟨w.heap.size, 0, none⟩ (.slice (some ⟨g', 0, none⟩) (st.2.length + 1) cap')) b t u := fun b t u hb ht hne =>
      ((hb.alloc _).kept hgrow (hb.not_row ht hrow0)).other hne _
    refine ⟨⟨⟨_, hv2, ?_⟩, hbox _ _ _ hIX.deep (by decide) (by omega), hIX.bel.trans hb2⟩, (KeepsOthers.of_grownBy hg (fun j o e => by cases e)).trans hk2, fun b t u hb => hbox b t u (hb.kept hg (by simp))⟩
    rw [pkcs_snoc, List.length_append]
    exact hr2
theorem fin_in {w W w2 : World} {pre : List Str} {x t : Str} {u : Value} (hx : x ≠ [62]) (hI2 : Iv w ((fo pre).1, (fo pre).2 ++ [pkW (fo pre).1 x]) w2) (hko : KeepsOthers W w2)
    (hb : ∀ b t u, Boxed W b t u → t ≠ 32 → b ≠ w.heap.size → Boxed w2 b t u) (hu : Boxed W (w.heap.size + 2) 9 u) (hbt : Bx W (w.heap.size + 3) (w.heap.size + 2) (w.heap.size + 4) t) :
    KeepsFrom (w.heap.size + 5) W (w2.setCell ⟨w.heap.size + 1, 0, none⟩ (.bool true)) ∧ (Iv w (fo (pre ++ [x])) (w2.setCell ⟨w.heap.size + 1, 0, none⟩ (.bool true)) ∧ ∃ u, Boxed (w2.setCell ⟨w.heap.size + 1, 0, none⟩ (.bool true)) (w.heap.size + 2) 9 u) ∧
      Bx (w2.setCell ⟨w.heap.size + 1, 0, none⟩ (.bool true)) (w.heap.size + 3) (w.heap.size + 2) (w.heap.size + 4) t :=
  ⟨(hko.trans (KeepsOthers.setCell _ _ _)).from _, ⟨by rw [fo_snoc, stp, if_neg hx]; exact hI2.deep1 true, u, (hb _ _ _ hu (by decide) (by omega)).other (by omega) _⟩,
    (hb _ _ _ hbt.sep (by decide) (by omega)).other (by omega) _, (hb _ _ _ hbt.txt (by decide) (by omega)).other (by omega) _, (hb _ _ _ hbt.sav (by decide) (by omega)).other (by omega) _⟩
theorem suf_trim (s : Str) : Lib.trimSuffix s [93] = suf s := by
  unfold Lib.trimSuffix suf
  rcases List.eq_nil_or_concat s with rfl | ⟨r, c, rfl⟩
  · rfl
  · by_cases hc : c = 93
    · subst hc; simp [Lib.hasSuffix]
    · have hc2 : ¬ 93 = c := fun h => hc h.symm
      simp [Lib.hasSuffix, hc, hc2]
theorem spl_len : ∀ s : Str, (spl s).length ≤ s.length + 1
  | [] => by simp [spl]
  | c :: r => by
    have ih := spl_len r
    unfold spl
    split
    · simp; omega
    · split
      · simp
      · rename_i h; rw [h] at ih; simp at ih ⊢; omega
theorem spl_le : ∀ {s : Str} {w : Str}, w ∈ spl s → w.length ≤ s.length
  | [], w, h => by simp [spl] at h; subst h; simp
  | c :: r, w, h => by
    unfold spl at h
    split at h
    · simp at h
      rcases h with rfl | h
      · simp
      · have := spl_le h; simp; omega
    · split at h
      · simp at h; subst h; simp
      · rename_i a q hq
        simp at h
        rcases h with rfl | h
        · have := spl_le (s := r) (w := a) (by rw [hq]; simp); simp; omega
        · have := spl_le (s := r) (w := w) (by rw [hq]; simp [h]); simp; omega
theorem suf_le (s : Str) : (suf s).length ≤ s.length := by
  unfold suf; split <;> simp
theorem pkW_le (d : Bool) (w : Str) : (pkW d w).name.length ≤ w.length ∧ (pkW d w).attr.length ≤ w.length := by
  unfold pkW
  split
  · rename_i k hk
    have := suf_le (w.drop (k + 1))
    simp at this
    dsimp only
    refine ⟨?_, by omega⟩
    split <;> simp; omega
  · dsimp only
    refine ⟨?_, by simp⟩
    split <;> simp
theorem prW_mem : ∀ {d : Bool} {r : List Str} {p : Pick}, p ∈ prW d r → ∃ w d2, w ∈ r ∧ p = pkW d2 w
  | _, [], p, h => by simp [prW] at h
  | d, w :: r, p, h => by
    rw [prW] at h
    split at h
    · obtain ⟨x, y, h1, h2⟩ := prW_mem h
      exact ⟨x, y, by simp [h1], h2⟩
    · simp at h
      rcases h with rfl | h
      · exact ⟨w, d, by simp, rfl⟩
      · obtain ⟨x, y, h1, h2⟩ := prW_mem h
        exact ⟨x, y, by simp [h1], h2⟩
theorem prs_le {s : Str} (hs : s.length ≤ 600) : (prW true (spl s)).length ≤ 601 ∧ ∀ p ∈ prW true (spl s), p.name.length ≤ 600 ∧ p.attr.length ≤ 600 := by
  refine ⟨by have := prW_len true (spl s); have := spl_len s; omega, fun p hp => ?_⟩
  obtain ⟨w, d, h1, rfl⟩ := prW_mem hp
  have := spl_le h1
  have := pkW_le d w
  omega
theorem chk_ten {l : List Pick} (h : chk l = 0) : l.length ≤ 10 := by
  unfold chk at h
  split at h
  · cases h
  · split at h
    · cases h
    · omega
theorem ownsRow_keep {W W' : World} {base : Nat} {e : TypeId} {size : Nat} {v : Value} {k : Nat} {xs : List Value} (hb : Below W.heap.size W W') (h : W.ownsRow base e size v k xs) : W'.ownsRow base e size v k xs := by
  refine ⟨h.1, ?_⟩
  rcases h.2 with h2 | ⟨g, cap, cur, h1, h2, h3, h4⟩
  · exact .inl h2
  · exact .inr ⟨g, cap, cur, h1, h2, (hb.block g (Array.getElem?_eq_some_iff.1 h3).1).trans h3, h4⟩
theorem split_in1 (s : Str) (w : World) : Calls Tryd.prog 16 #[.string ⟨s.toArray⟩, .string ⟨#[32]⟩, .int .i64 0] w fun e W => e = .returned (.func (.func 25) #[] #[.pointer (some ⟨w.heap.size + 1, 0, none⟩), .pointer (some ⟨w.heap.size, 0, none⟩), .pointer (some ⟨w.heap.size + 2, 0, none⟩)]) ∧
    W = ((w.alloc (.cells #[.string ⟨s.toArray⟩] 9)).alloc (.cells #[.string ⟨#[32]⟩] 9)).alloc (.cells #[.int .i64 0] 3) := by
  go_enter Tryd.func16, Tryd.ntmps16
  go_wp2
  go_ret
  exact ⟨rfl, rfl⟩
theorem split_in (s : Str) (w : World) : Calls Tryd.prog 7 #[.string ⟨s.toArray⟩, .string ⟨#[32]⟩] w fun e W => e = .returned (.func (.func 25) #[] #[.pointer (some ⟨w.heap.size + 1, 0, none⟩), .pointer (some ⟨w.heap.size, 0, none⟩), .pointer (some ⟨w.heap.size + 2, 0, none⟩)]) ∧
    W = ((w.alloc (.cells #[.string ⟨s.toArray⟩] 9)).alloc (.cells #[.string ⟨#[32]⟩] 9)).alloc (.cells #[.int .i64 0] 3) := by
  go_enter Tryd.func7, Tryd.ntmps7
  go_wp2
  go_ret
  exact ⟨rfl, rfl⟩
def ParseQ (w : World) (s : Str) (e : Ending) (W : World) : Prop := ∃ v, Below w.heap.size w W ∧
      (if chk (prW true (spl s)) = 0 ∧ txt true (prW true (spl s)) = s then e = .returned (.tuple #[v, .int .i64 0]) ∧ W.ownsRow w.heap.size 32 3 v (prW true (spl s)).length (pkcs (prW true (spl s)))
       else e = .returned (.tuple #[.slice none 0 0, .int .i64 4]))
theorem ParseQ.ok {w W : World} {s : Str} {L : List Pick} {v : Value} (hL : prW true (spl s) = L) (h1 : chk L = 0) (h2 : txt true L = s) (hb : Below w.heap.size w W) (hr : W.ownsRow w.heap.size 32 3 v L.length (pkcs L)) : ParseQ w s (.returned (.tuple #[v, .int .i64 0])) W := by
  subst hL
  exact ⟨v, hb, by rw [if_pos ⟨h1, h2⟩]; exact ⟨rfl, hr⟩⟩
theorem ParseQ.no {w W : World} {s : Str} {L : List Pick} (hL : prW true (spl s) = L) (h1 : ¬ (chk L = 0 ∧ txt true L = s)) (hb : Below w.heap.size w W) : ParseQ w s (.returned (.tuple #[.slice none 0 0, .int .i64 4])) W := by
  subst hL
  exact ⟨undef, hb, by rw [if_neg h1]⟩
set_option maxHeartbeats 4000000 in
theorem parse_raw (s : Str) (hs : s.length ≤ 600) (m : Int) (w : World)
    (hm : ∀ W, Below w.heap.size w W → W.cell? ⟨Tryd.lays145_ren.g 1, 0, none⟩ = some (.int .i64 m))
    (hchk : ∀ W v l, Below w.heap.size w W → l.length ≤ 601 → (∀ p ∈ l, p.name.length ≤ 600 ∧ p.attr.length ≤ 600) → W.ownsRow w.heap.size 32 3 v l.length (pkcs l) →
      Calls Tryd.prog 10 #[v] W fun e W' => e = .returned (.int .i64 (chk l)) ∧ Below W.heap.size W W')
    (htxt : ∀ W v l, Below w.heap.size w W → l.length ≤ 10 → (∀ p ∈ l, p.name.length ≤ 600 ∧ p.attr.length ≤ 600) → W.ownsRow w.heap.size 32 3 v l.length (pkcs l) →
      Calls Tryd.prog 11 #[v] W fun e W' => e = .returned (.string ⟨(txt true l).toArray⟩) ∧ Below W.heap.size W W') :
    Calls Tryd.prog 4 #[.string ⟨s.toArray⟩] w (ParseQ w s) := by
  refine (callsIn_wide (n := 10)).1 ?_
  refine callsIn_of_wp_marks Tryd.func4 rfl trivial ?_ rfl
  simp only [Tryd.ntmps4, List.size_toArray, List.length_cons, List.length_nil, Nat.reduceAdd, Nat.reduceSub, Array.replicate_succ, Array.replicate_zero, List.push_toArray, List.append_toArray, List.nil_append, List.cons_append]
  gi_wp2
  refine ⟨trivial, (callsIn_wide.2 (split_in s _)).mono ?_⟩
  rintro e w' ⟨rfl, rfl⟩
  gi_wp2
  obtain ⟨i0, hi, hz0, hz1, hz2⟩ := info_parts infoP
  have hb0 : Below w.heap.size w ((w.alloc (.cells #[.slice none 0 0] 22)).alloc (.cells #[.bool true] 4)) := ((Below.refl _ w).alloc (Nat.le_refl _) _).alloc (by simp) _
  have hiv : Iv w (true, []) ((w.alloc (.cells #[.slice none 0 0] 22)).alloc (.cells #[.bool true] 4)) := by
    have h2 := Boxed.new (w.alloc (.cells #[.slice none 0 0] 22)) 4 (.bool true)
    rw [World.size_alloc] at h2
    exact ⟨⟨_, (Boxed.new w _ _).alloc _, World.ownsRow_nil _ _ _ _⟩, h2, hb0⟩
  obtain ⟨W0, hW0⟩ : ∃ W0, (w.alloc (.cells #[.slice none 0 0] 22)).alloc (.cells #[.bool true] 4) = W0 := ⟨_, rfl⟩
  have hsz : W0.heap.size = w.heap.size + 2 := by rw [← hW0]; simp
  rw [hW0] at hb0 hiv ⊢
  have hbx : Bx (((W0.alloc (.cells #[.string ⟨s.toArray⟩] 9)).alloc (.cells #[.string ⟨#[32]⟩] 9)).alloc (.cells #[.int .i64 0] 3)) (w.heap.size + 3) (w.heap.size + 2) (w.heap.size + 4) s := by
    have h2 := Boxed.new (W0.alloc (.cells #[.string ⟨s.toArray⟩] 9)) 9 (.string ⟨#[32]⟩)
    have h3 := Boxed.new ((W0.alloc (.cells #[.string ⟨s.toArray⟩] 9)).alloc (.cells #[.string ⟨#[32]⟩] 9)) 3 (.int .i64 0)
    have h1 := Boxed.new W0 9 (.string ⟨s.toArray⟩)
    rw [hsz] at h1
    rw [World.size_alloc, hsz] at h2
    rw [World.size_alloc, World.size_alloc, hsz] at h3
    exact ⟨h2.alloc _, (h1.alloc _).alloc _, h3⟩
  obtain ⟨W1, hW1⟩ : ∃ W1, ((W0.alloc (.cells #[.string ⟨s.toArray⟩] 9)).alloc (.cells #[.string ⟨#[32]⟩] 9)).alloc (.cells #[.int .i64 0] 3) = W1 := ⟨_, rfl⟩
  have hiv1 : Iv w (true, []) W1 := by rw [← hW1]; exact ((hiv.alloc _).alloc _).alloc _
  have hsz1 : W1.heap.size = w.heap.size + 5 := by rw [← hW1]; simp; omega
  rw [hW1] at hbx ⊢
  simp only [Nat.add_assoc, Nat.reduceAdd]
  refine range_split 10 (by omega) (w.heap.size + 3) (w.heap.size + 2) (w.heap.size + 4) (by omega) (by omega) rfl rfl s hs hbx (fun pre W => Iv w (fo pre) W ∧ ∃ u, Boxed W (w.heap.size + 2) 9 u)
    ⟨hiv1, _, hbx.txt⟩ ?hIs (fun pre W o h => ⟨h.1.alloc _, h.2.imp fun u hu => hu.alloc _⟩) ?hIp
    (fun x => { tmps := #[.string ⟨s.toArray⟩, undef, .slice none 0 0, .int .i64 0, .pointer (some ⟨w.heap.size, 0, none⟩), .pointer (some ⟨w.heap.size + 1, 0, none⟩), .string ⟨x.toArray⟩, undef, undef, undef, undef, .string ⟨s.toArray⟩, .int .i64 s.length, .bool (decide (600 < (s.length : Int))), .string ⟨s.toArray⟩, .func (.func 25) #[] #[.pointer (some ⟨w.heap.size + 3, 0, none⟩), .pointer (some ⟨w.heap.size + 2, 0, none⟩), .pointer (some ⟨w.heap.size + 4, 0, none⟩)], .string ⟨x.toArray⟩, undef, undef, undef, undef, undef, undef, undef, undef, undef, undef, undef, undef, undef, undef, undef, undef, undef, undef, undef, undef, undef, undef, undef, undef, undef, undef, undef, undef, undef, undef, undef, undef, undef, undef, undef, undef], defers := [] }) ?assign ?body ?done
  case hIs =>
    rintro pre W u ⟨h1, v, h2⟩
    exact ⟨h1.setB h2 (by decide) (by omega) (by omega) (by omega) u, u, h2.set u⟩
  case hIp =>
    rintro pre W l o o' ⟨h1, v, h2⟩ hle hl ho hw
    exact ⟨h1.putObj o' hl ho hw (by omega), v, h2.kept (grownBy_putObj' W l o') (fun e => by cases e; omega)⟩
  case assign =>
    intro l x W K hK
    gi_wp2
    exact hK
  case body =>
    rintro l pre x t W ⟨hI, u, hu⟩ hbt hxl hpl
    have hd := hI.deep.cell
    have hdf := hI.deep.frozen
    by_cases h62 : x = [62]
    · subst h62
      gi_wp2
      exact ⟨KeepsFrom.of_grownBy (grownBy_setCell' W _ _) (fun j e => by cases e; omega), ⟨by rw [fo_snoc, stp, if_pos rfl]; exact hI.deep1 false, _, hu.other (by simp) _⟩, hbt.sep.other (by simp) _, hbt.txt.other (by simp) _, hbt.sav.other (by simp) _⟩
    · have h62b : (x == [62]) = false := by simpa using h62
      have hmW : (W.alloc (.cells #[.string ByteArray.empty, .string ByteArray.empty, .bool (fo pre).1] 32)).cell? ⟨Tryd.lays145_ren.g 1, 0, none⟩ = some (.int .i64 m) := hm _ (hI.bel.alloc hI.bel.size _)
      have hcl := Any.strings_Cut Tryd.lays145 ⟨x.toArray⟩ ⟨#[91]⟩ m _ (by show x.toArray.size < _; simp; omega) hmW
      have hcp := cut_plc x [91]
      obtain ⟨v, hv, hrow⟩ := hI.out
      have hc := hv.cell
      have hlt := hv.lt
      have hlt2 := hI.deep.lt
      gi_wp2
      refine ⟨trivial, (CallsIn.inRound l (callsIn_wide.2 hcl)).mono ?_⟩
      rintro e w' ⟨rfl, n, rfl⟩
      rw [hcp]
      have hl6 : (fo pre).2.length ≤ 600 := Nat.le_trans (fo_len pre) hpl
      cases hk : plc [91] x with
      | none =>
        by_cases h42 : x = [42]
        · have e1 : pkW (fo pre).1 x = ⟨[], [], (fo pre).1⟩ := by unfold pkW; rw [hk]; simp [h42]
          subst h42
          gi_wp2_with (gi_at_builtin; refine app_in rfl _ _ rfl ⟨[], [], (fo pre).1⟩ hI hl6 (gSet (gSet (gBase _ _ _) (Nat.le_refl _)) (Nat.le_refl _)) hv rfl rfl (by simp [World.drewN]) ?_; intro g k2 cap w1 hb1 hfin; obtain ⟨hI2, hko, hbx2⟩ := hfin _ rfl; have hc1 := hb1.cell; have hc2 := hb1.frozen; have hd2 := hI2.deep.cell; have hd3 := hI2.deep.frozen)
          exact fin_in h62 (by rw [e1]; exact hI2) hko hbx2 hu hbt
        · have e1 : pkW (fo pre).1 x = ⟨x, [], (fo pre).1⟩ := by unfold pkW; rw [hk]; simp [h42]
          have h42b : (x == [42]) = false := by simpa using h42
          gi_wp2_with (gi_at_builtin; refine app_in rfl _ _ rfl ⟨x, [], (fo pre).1⟩ hI hl6 (gSet (gBase _ _ _) (Nat.le_refl _)) hv rfl rfl (by simp [World.drewN]) ?_; intro g k2 cap w1 hb1 hfin; obtain ⟨hI2, hko, hbx2⟩ := hfin _ rfl; have hc1 := hb1.cell; have hc2 := hb1.frozen; have hd2 := hI2.deep.cell; have hd3 := hI2.deep.frozen)
          exact fin_in h62 (by rw [e1]; exact hI2) hko hbx2 hu hbt
      | some k =>
        by_cases h42 : x.take k = [42]
        · have e1 : pkW (fo pre).1 x = ⟨[], suf (x.drop (k + 1)), (fo pre).1⟩ := by unfold pkW; rw [hk]; simp [h42]
          gi_wp2
          refine ⟨trivial, (CallsIn.inRound l (callsIn_wide.2 (Any.strings_CutSuffix Tryd.lays104 ⟨(x.drop (k + 1)).toArray⟩ ⟨#[93]⟩ _ (by show (x.drop (k + 1)).toArray.size ≤ _; simp; omega)))).mono ?_⟩
          rintro e w' ⟨rfl, rfl⟩
          rw [show Lib.trimSuffix (⟨(x.drop (k + 1)).toArray⟩ : ByteArray).data.toList (⟨#[93]⟩ : ByteArray).data.toList = suf (x.drop (k + 1)) from suf_trim _]
          generalize suf (x.drop (k + 1)) = sx at *
          gi_wp2_with (gi_at_builtin; refine app_in rfl _ _ rfl ⟨[], sx, (fo pre).1⟩ hI hl6 (gSet (gSet (gSet (gBase _ _ _) (Nat.le_refl _)) (Nat.le_refl _)) (Nat.le_refl _)) hv rfl rfl (by simp [World.drewN]) ?_; intro g k2 cap w1 hb1 hfin; obtain ⟨hI2, hko, hbx2⟩ := hfin _ rfl; have hc1 := hb1.cell; have hc2 := hb1.frozen; have hd2 := hI2.deep.cell; have hd3 := hI2.deep.frozen)
          exact fin_in h62 (by rw [e1]; exact hI2) hko hbx2 hu hbt
        · have e1 : pkW (fo pre).1 x = ⟨x.take k, suf (x.drop (k + 1)), (fo pre).1⟩ := by unfold pkW; rw [hk]; simp [h42]
          have h42b : (x.take k == [42]) = false := by simpa using h42
          gi_wp2
          refine ⟨trivial, (CallsIn.inRound l (callsIn_wide.2 (Any.strings_CutSuffix Tryd.lays104 ⟨(x.drop (k + 1)).toArray⟩ ⟨#[93]⟩ _ (by show (x.drop (k + 1)).toArray.size ≤ _; simp; omega)))).mono ?_⟩
          rintro e w' ⟨rfl, rfl⟩
          rw [show Lib.trimSuffix (⟨(x.drop (k + 1)).toArray⟩ : ByteArray).data.toList (⟨#[93]⟩ : ByteArray).data.toList = suf (x.drop (k + 1)) from suf_trim _]
          generalize suf (x.drop (k + 1)) = sx at *
          gi_wp2_with (gi_at_builtin; refine app_in rfl _ _ rfl ⟨x.take k, sx, (fo pre).1⟩ hI hl6 (gSet (gSet (gBase _ _ _) (Nat.le_refl _)) (Nat.le_refl _)) hv rfl rfl (by simp [World.drewN]) ?_; intro g k2 cap w1 hb1 hfin; obtain ⟨hI2, hko, hbx2⟩ := hfin _ rfl; have hc1 := hb1.cell; have hc2 := hb1.frozen; have hd2 := hI2.deep.cell; have hd3 := hI2.deep.frozen)
          exact fin_in h62 (by rw [e1]; exact hI2) hko hbx2 hu hbt
  case done =>
    rintro D W hD ⟨hI, u, hu⟩ hK
    obtain ⟨v, hv, hrow⟩ := hI.out
    have hc := hv.cell
    have hll : (fo (spl s)).2 = prW true (spl s) := fo_prW _
    obtain ⟨hl1, hl2⟩ := prs_le hs
    rw [hll] at hrow
    have hbel := hI.bel
    obtain ⟨L, hL⟩ : ∃ L, prW true (spl s) = L := ⟨_, rfl⟩
    rw [hL] at hl1 hl2 hrow
    have hDlt : D < W.heap.size := (Array.getElem?_eq_some_iff.1 hK).1
    have hDw : w.heap.size ≤ D := by omega
    gi_wp2
    refine ⟨trivial, (callsIn_wide.2 (hchk W v L hbel hl1 hl2 hrow)).mono ?_⟩
    rintro e W2 ⟨rfl, hb2⟩
    have hK2 : W2.heap[D]? = some (.deferred (some [])) := (hb2.block D hDlt).trans hK
    have hc2 := (hb2.cell (p := ⟨w.heap.size, 0, none⟩) hv.lt).trans hc
    have hbel2 : Below w.heap.size w W2 := hbel.trans (hb2.mono hbel.size)
    by_cases hck : chk L = 0
    · have hl10 := chk_ten hck
      rw [hck]
      gi_wp2
      refine ⟨trivial, (callsIn_wide.2 (htxt W2 v L hbel2 hl10 hl2 (ownsRow_keep hb2 hrow))).mono ?_⟩
      rintro e W3 ⟨rfl, hb3⟩
      have hK3 : W3.heap[D]? = some (.deferred (some [])) := (hb3.block D (Nat.lt_of_lt_of_le hDlt hb2.size)).trans hK2
      have hc3 := (hb3.cell (p := ⟨w.heap.size, 0, none⟩) (Nat.lt_of_lt_of_le hv.lt hb2.size)).trans hc2
      have hbel3 : Below w.heap.size w W3 := hbel2.trans (hb3.mono hbel2.size)
      have hrow3 := ownsRow_keep hb3 (ownsRow_keep hb2 hrow)
      have hbel4 := hbel3.trans (belowK_b (w := w) (Nat.le_refl _) W3 D _ (.deferred none) hDw hK3 rfl rfl)
      by_cases ht : txt true L = s
      · have htb : (txt true L == s) = true := by simpa using ht
        gi_wp2
        refine ⟨by simp, .inl ⟨_, _, rfl, run_takeDeferred hK3, ?_⟩⟩
        exact ⟨_, results_tmp2 rfl _ _ _, by simp only [Array.getD_eq_getD_getElem?, List.getElem?_toArray, List.getElem?_cons_zero, List.getElem?_cons_succ, Option.getD_some]; exact ParseQ.ok hL hck ht hbel4 (ownsRow_putObj hrow3 _ hK3 rfl)⟩
      · have htb : (txt true L == s) = false := by simpa using ht
        gi_wp2
        refine ⟨by simp, .inl ⟨_, _, rfl, run_takeDeferred hK3, ?_⟩⟩
        exact ⟨_, results_tmp2 rfl _ _ _, by simp only [Array.getD_eq_getD_getElem?, List.getElem?_toArray, List.getElem?_cons_zero, List.getElem?_cons_succ, Option.getD_some]; exact ParseQ.no hL (fun h => ht h.2) hbel4⟩
    · have hcb : (chk L != 0) = true := by simpa using hck
      have hbel4 := hbel2.trans (belowK_b (w := w) (Nat.le_refl _) W2 D _ (.deferred none) hDw hK2 rfl rfl)
      gi_wp2
      refine ⟨trivial, ?_⟩
      gi_wp2
      refine ⟨by simp, .inl ⟨_, _, rfl, run_takeDeferred hK2, ?_⟩⟩
      exact ⟨_, results_tmp2 rfl _ _ _, by simp only [Array.getD_eq_getD_getElem?, List.getElem?_toArray, List.getElem?_cons_zero, List.getElem?_cons_succ, Option.getD_some]; exact ParseQ.no hL (fun h => hck h.1) hbel4⟩
end Go.VL.PkRaw
