/- Selectors read from a text: by words, and letter by letter. -/
import Derived.Test.YtpekbppohnkdbaaDoorVTy4
import Derived.Test.YtpekbppohnkdbaaDoorVName
import Derived.Test.YtpekbppohnkdbaaDoorVStyle
set_option linter.unusedVariables false
set_option linter.unusedSimpArgs false
namespace Go.VL
open Go
/-- Words: what stands between spaces. -/
def spl : Str → List Str
  | [] => [[]]
  | c :: r => if c = 32 then [] :: spl r else match spl r with
    | [] => [[c]]
    | a :: q => (c :: a) :: q
theorem spl_ne : ∀ s : Str, spl s ≠ []
  | [] => by simp [spl]
  | c :: r => by
    unfold spl
    split
    · simp
    · split <;> simp
theorem spl_no : ∀ {b : Str}, (∀ c ∈ b, c ≠ 32) → spl b = [b]
  | [], _ => rfl
  | c :: r, h => by
    rw [spl, if_neg (h c (by simp)), spl_no (b := r) (fun x hx => h x (by simp [hx]))]
theorem spl_sp : ∀ {b : Str} (x : Str), (∀ c ∈ b, c ≠ 32) → spl (b ++ 32 :: x) = b :: spl x
  | [], x, _ => by rw [List.nil_append, spl, if_pos rfl]
  | c :: r, x, h => by
    rw [List.cons_append, spl, if_neg (h c (by simp)), spl_sp (b := r) x (fun y hy => h y (by simp [hy]))]
theorem plc_sp : ∀ {s : Str} {k : Nat}, plc [32] s = some k → (∀ c ∈ s.take k, c ≠ 32) ∧ s = s.take k ++ 32 :: s.drop (k + 1)
  | [], k, h => by simp [plc] at h
  | c :: r, k, h => by
    rw [plc_one] at h
    split at h
    · rename_i hc
      cases h; subst hc; simp
    · rename_i hc
      cases hr : plc [32] r with
      | none => rw [hr] at h; simp at h
      | some j =>
        rw [hr] at h; simp at h; subst h
        obtain ⟨h1, h2⟩ := plc_sp hr
        refine ⟨fun x hx => ?_, by simpa using h2⟩
        simp at hx
        rcases hx with rfl | hx
        · exact hc
        · exact h1 x hx
theorem plc_no : ∀ {s : Str}, plc [32] s = none → ∀ c ∈ s, c ≠ 32
  | [], h => by simp
  | c :: r, h => by
    rw [plc_one] at h
    split at h
    · simp at h
    · rename_i hc
      have := plc_no (s := r) (by cases hr : plc [32] r with | none => rfl | some j => rw [hr] at h; simp at h)
      intro x hx
      simp at hx
      rcases hx with rfl | hx
      · exact hc
      · exact this x hx
theorem spl_some {s : Str} {k : Nat} (h : plc [32] s = some k) : spl s = s.take k :: spl (s.drop (k + 1)) := by
  obtain ⟨h1, h2⟩ := plc_sp h
  have := spl_sp (s.drop (k + 1)) h1
  rw [← h2] at this; exact this
theorem spl_none {s : Str} (h : plc [32] s = none) : spl s = [s] := spl_no (plc_no h)
/-- A word as a pick. -/
def suf (s : Str) : Str := if s.getLast? = some 93 then s.dropLast else s
def pkW (d : Bool) (w : Str) : Pick := match plc [91] w with
  | some k => ⟨if w.take k = [42] then [] else w.take k, suf (w.drop (k + 1)), d⟩
  | none => ⟨if w = [42] then [] else w, [], d⟩
def prW : Bool → List Str → List Pick
  | _, [] => []
  | d, w :: r => if w = [62] then prW false r else pkW d w :: prW true r
/-- A pick as a text. -/
def bdP (p : Pick) : Str := (if p.name = [] then [42] else p.name) ++ (if p.attr = [] then [] else 91 :: (p.attr ++ [93]))
def txP : Bool → List Pick → Str
  | _, [] => []
  | f, p :: r => (if f then [] else if p.deep then [32] else [32, 62, 32]) ++ bdP p ++ txP false r
def gdS (s : Str) : Prop := s = [] ∨ nameB s = true
def gdP (p : Pick) : Prop := gdS p.name ∧ gdS p.attr
theorem name_all {s : Str} (h : nameB s = true) : ∀ c ∈ s, okB c = true := by
  cases s with
  | nil => simp
  | cons c r => simp [nameB] at h; intro x hx; simp at hx; rcases hx with rfl | hx; exact h.2.1; exact h.2.2 x hx
theorem name_ne {s : Str} (h : nameB s = true) : ∃ c r, s = c :: r ∧ smallB c = true := by
  cases s with
  | nil => simp [nameB] at h
  | cons c r => exact ⟨c, r, rfl, by simp [nameB] at h; exact h.1.2⟩
theorem ok_not {c : UInt8} (h : okB c = true) : c ≠ 32 ∧ c ≠ 91 ∧ c ≠ 93 ∧ c ≠ 42 ∧ c ≠ 62 := by
  refine ⟨?_, ?_, ?_, ?_, ?_⟩ <;> (rintro rfl; revert h; decide)
theorem gd_all {s : Str} (h : gdS s) : ∀ c ∈ s, okB c = true := by
  rcases h with rfl | h
  · simp
  · exact name_all h
theorem bd_no {p : Pick} (h : gdP p) : ∀ c ∈ bdP p, c ≠ 32 := by
  intro c hc
  have h1 := gd_all h.1
  have h2 := gd_all h.2
  unfold bdP at hc
  rw [List.mem_append] at hc
  rcases hc with hc | hc
  · split at hc
    · simp at hc; subst hc; decide
    · exact (ok_not (h1 c hc)).1
  · split at hc
    · simp at hc
    · simp at hc
      rcases hc with rfl | hc | rfl
      · decide
      · exact (ok_not (h2 c hc)).1
      · decide
/-- The first letter of a pick's text. -/
theorem bd_hd {p : Pick} (h : gdP p) : ∃ c r, bdP p = c :: r ∧ c ≠ 62 := by
  unfold bdP
  split
  · exact ⟨42, _, rfl, by decide⟩
  · rename_i hn
    obtain ⟨c, r, e, hs⟩ := name_ne (h.1.resolve_left hn)
    refine ⟨c, r ++ _, by rw [e]; rfl, ?_⟩
    rintro rfl; revert hs; decide
theorem plc_91 : ∀ {b : Str} (x : Str), (∀ c ∈ b, c ≠ 91) → plc [91] (b ++ 91 :: x) = some b.length
  | [], x, _ => by rw [List.nil_append, plc_one, if_pos rfl]; rfl
  | c :: r, x, h => by
    rw [List.cons_append, plc_one, if_neg (h c (by simp)), plc_91 (b := r) x (fun y hy => h y (by simp [hy]))]; rfl
theorem plc_91n : ∀ {b : Str}, (∀ c ∈ b, c ≠ 91) → plc [91] b = none
  | [], _ => rfl
  | c :: r, h => by
    rw [plc_one, if_neg (h c (by simp)), plc_91n (b := r) (fun y hy => h y (by simp [hy]))]; rfl
theorem pkW_bd (d : Bool) {p : Pick} (h : gdP p) : pkW d (bdP p) = { p with deep := d } := by
  obtain ⟨n, a, e⟩ := p
  obtain ⟨h1, h2⟩ := h
  dsimp only at h1 h2
  have hb : ∀ c ∈ (if n = [] then [42] else n : Str), c ≠ 91 := by
    intro c hc
    split at hc
    · simp at hc; subst hc; decide
    · exact (ok_not (gd_all h1 c hc)).2.1
  have hn : (if (if n = [] then [42] else n : Str) = [42] then [] else (if n = [] then [42] else n : Str)) = n := by
    by_cases h0 : n = []
    · subst h0; rfl
    · rw [if_neg h0, if_neg]
      rintro rfl
      exact absurd (gd_all h1 42 (by simp)) (by decide)
  unfold bdP
  dsimp only
  generalize hB : (if n = [] then [42] else n : Str) = B at *
  by_cases ha : a = []
  · subst ha
    rw [if_pos rfl, List.append_nil, pkW, plc_91n hb]
    dsimp only
    rw [hn]
  · rw [if_neg ha, pkW, plc_91 _ hb]
    dsimp only
    have e1 : (B ++ 91 :: (a ++ [93])).take B.length = B := by simp
    have e2 : (B ++ 91 :: (a ++ [93])).drop (B.length + 1) = a ++ [93] := by
      rw [← List.drop_drop]; simp
    rw [e1, e2, hn, suf, if_pos (by simp)]
    simp
def tlP : List Pick → List Str
  | [] => []
  | q :: r => (if q.deep then [] else [[62]]) ++ bdP q :: tlP r
theorem spl_tx : ∀ (r : List Pick) {b : Str}, (∀ c ∈ b, c ≠ 32) → (∀ q ∈ r, gdP q) → spl (b ++ txP false r) = b :: tlP r
  | [], b, hb, _ => by simp only [txP, List.append_nil, tlP]; exact spl_no hb
  | q :: r, b, hb, hr => by
    have ih := spl_tx r (b := bdP q) (bd_no (hr q (by simp))) (fun x hx => hr x (by simp [hx]))
    rw [txP, tlP]
    cases hd : q.deep with
    | true =>
      have : b ++ (((if false = true then [] else if true = true then [32] else [32, 62, 32] : Str) ++ bdP q) ++ txP false r) = b ++ 32 :: (bdP q ++ txP false r) := by simp
      rw [this, spl_sp _ hb, ih]; rfl
    | false =>
      have : b ++ (((if false = true then [] else if false = true then [32] else [32, 62, 32] : Str) ++ bdP q) ++ txP false r) = b ++ 32 :: ([62] ++ 32 :: (bdP q ++ txP false r)) := by simp
      rw [this, spl_sp _ hb, spl_sp _ (by simp), ih]; rfl
theorem bd_62 {p : Pick} (h : gdP p) : bdP p ≠ [62] := by
  obtain ⟨c, r, e, hc⟩ := bd_hd h
  rw [e]; intro h; cases h; exact hc rfl
theorem prW_tl : ∀ (r : List Pick), (∀ q ∈ r, gdP q) → prW true (tlP r) = r
  | [], _ => rfl
  | q :: r, h => by
    have ih := prW_tl r (fun x hx => h x (by simp [hx]))
    have hq := h q (by simp)
    rw [tlP]
    obtain ⟨n, a, d⟩ := q
    cases d with
    | true =>
      dsimp only
      rw [if_pos rfl, List.nil_append, prW, if_neg (bd_62 hq), ih, pkW_bd true hq]
    | false =>
      dsimp only
      rw [if_neg (by decide), List.singleton_append, prW, if_pos rfl, prW, if_neg (bd_62 hq), ih, pkW_bd false hq]
theorem prW_tx {p : Pick} {r : List Pick} (h : ∀ q ∈ p :: r, gdP q) : prW true (spl (txP true (p :: r))) = { p with deep := true } :: r := by
  have hp := h p (by simp)
  have hr : ∀ q ∈ r, gdP q := fun q hq => h q (by simp [hq])
  rw [txP, if_pos rfl, List.nil_append, spl_tx r (bd_no hp) hr, prW, if_neg (bd_62 hp), prW_tl r hr, pkW_bd true hp]
/-- Letter by letter. -/
def hdP (f : Bool) (s : Str) : Bool × Str := match f, s with
  | false, 62 :: 32 :: r => (false, r)
  | _, s => (true, s)
def nmP (s : Str) : Option (Str × Str) := match s with
  | 42 :: r => some ([], r)
  | s => if nameB (s.takeWhile okB) = true then some (s.takeWhile okB, s.dropWhile okB) else none
def arP (s : Str) : Option (Str × Str) := match s with
  | 91 :: r => if nameB (r.takeWhile okB) = true then (match r.dropWhile okB with
    | 93 :: q => some (r.takeWhile okB, q)
    | _ => none) else none
  | s => some ([], s)
def itP (f : Bool) (s : Str) : Option (Pick × Str) := match nmP (hdP f s).2 with
  | none => none
  | some (n, t) => match arP t with
    | none => none
    | some (a, q) => some (⟨n, a, (hdP f s).1⟩, q)
def rdP : Nat → Bool → Str → Option (List Pick)
  | 0, _, _ => none
  | n + 1, f, s => match itP f s with
    | none => none
    | some (p, []) => some [p]
    | some (p, c :: q) => if c = 32 then (rdP n false q).map (p :: ·) else none
/-- What is read is told by its text. -/
theorem hdP_eq (f : Bool) (s : Str) : s = (if f || (hdP f s).1 then [] else [62, 32]) ++ (hdP f s).2 ∧ (f = true → (hdP f s).1 = true) := by
  unfold hdP
  split <;> simp
theorem nmP_eq {s n t : Str} (h : nmP s = some (n, t)) : gdS n ∧ s = (if n = [] then [42] else n) ++ t := by
  unfold nmP at h
  split at h
  · cases h; exact ⟨.inl rfl, rfl⟩
  · split at h
    · rename_i hn
      cases h
      refine ⟨.inr hn, ?_⟩
      rw [if_neg, List.takeWhile_append_dropWhile]
      intro h0; rw [h0] at hn; exact absurd hn (by decide)
    · cases h
theorem arP_eq {s a t : Str} (h : arP s = some (a, t)) : gdS a ∧ s = (if a = [] then [] else 91 :: (a ++ [93])) ++ t := by
  unfold arP at h
  split at h
  · rename_i r
    split at h
    · rename_i hn
      split at h
      · rename_i q hq
        cases h
        refine ⟨.inr hn, ?_⟩
        rw [if_neg (by intro h0; rw [h0] at hn; exact absurd hn (by decide))]
        have := List.takeWhile_append_dropWhile (p := okB) (l := r)
        rw [hq] at this
        simp [this]
      · cases h
    · cases h
  · cases h; exact ⟨.inl rfl, rfl⟩
theorem itP_eq {f : Bool} {s t : Str} {p : Pick} (h : itP f s = some (p, t)) : gdP p ∧ s = (if f || p.deep then [] else [62, 32]) ++ (bdP p ++ t) ∧ (f = true → p.deep = true) := by
  unfold itP at h
  split at h
  · cases h
  · rename_i n u hn
    split at h
    · cases h
    · rename_i a q ha
      cases h
      obtain ⟨h1, h2⟩ := hdP_eq f s
      obtain ⟨h3, h4⟩ := nmP_eq hn
      obtain ⟨h5, h6⟩ := arP_eq ha
      refine ⟨⟨h3, h5⟩, ?_, h2⟩
      unfold bdP
      dsimp only
      rw [List.append_assoc, ← h6, ← h4]; exact h1
theorem rdP_eq : ∀ (n : Nat) {f : Bool} {s : Str} {l : List Pick}, rdP n f s = some l → (∀ p ∈ l, gdP p) ∧ (f = true → ∀ p r, l = p :: r → p.deep = true) ∧ ∃ p r, l = p :: r ∧ s = (if f || p.deep then [] else [62, 32]) ++ (bdP p ++ txP false r)
  | 0, f, s, l, h => by simp [rdP] at h
  | n + 1, f, s, l, h => by
    unfold rdP at h
    split at h
    · cases h
    · rename_i p hi
      obtain ⟨h1, h2, h3⟩ := itP_eq hi
      cases h
      refine ⟨fun q hq => by simp at hq; subst hq; exact h1, fun hf q r e => by cases e; exact h3 hf, p, [], rfl, ?_⟩
      simpa [txP] using h2
    · rename_i p c q hi
      obtain ⟨h1, h2, h3⟩ := itP_eq hi
      split at h
      · rename_i hc
        subst hc
        cases hr : rdP n false q with
        | none => rw [hr] at h; simp at h
        | some m =>
          rw [hr] at h; simp at h; subst h
          obtain ⟨k1, _, p2, r2, rfl, k3⟩ := rdP_eq n hr
          refine ⟨fun x hx => by simp at hx; rcases hx with rfl | rfl | hx; exact h1; exact k1 _ (by simp); exact k1 _ (by simp [hx]), fun hf x r e => by cases e; exact h3 hf, p, p2 :: r2, rfl, ?_⟩
          rw [h2, txP]
          congr 2
          rw [k3]
          cases p2.deep <;> simp
      · cases h
theorem takeW {n t : Str} (h1 : ∀ c ∈ n, okB c = true) (h2 : t = [] ∨ ∃ c r, t = c :: r ∧ okB c = false) : (n ++ t).takeWhile okB = n ∧ (n ++ t).dropWhile okB = t := by
  induction n with
  | nil =>
    rcases h2 with rfl | ⟨c, r, rfl, hc⟩
    · simp
    · simp [List.takeWhile, List.dropWhile, hc]
  | cons x n ih =>
    obtain ⟨a, b⟩ := ih (fun c hc => h1 c (by simp [hc]))
    simp [List.takeWhile, List.dropWhile, h1 x (by simp), a, b]
theorem nmP_bd {n t : Str} (h : gdS n) (h2 : t = [] ∨ ∃ c r, t = c :: r ∧ okB c = false) : nmP ((if n = [] then [42] else n) ++ t) = some (n, t) := by
  by_cases h0 : n = []
  · subst h0; rfl
  · have hn := h.resolve_left h0
    obtain ⟨c, r, e, hs⟩ := name_ne hn
    obtain ⟨a, b⟩ := takeW (name_all hn) h2
    rw [if_neg h0]
    unfold nmP
    split
    · rename_i q hq
      rw [e] at hq; cases hq; exact absurd hs (by decide)
    · rw [a, b, if_pos hn]
theorem arP_bd {a t : Str} (h : gdS a) (h2 : t = [] ∨ ∃ r, t = 32 :: r) : arP ((if a = [] then [] else 91 :: (a ++ [93])) ++ t) = some (a, t) := by
  by_cases h0 : a = []
  · subst h0
    rw [if_pos rfl, List.nil_append]
    rcases h2 with rfl | ⟨r, rfl⟩ <;> rfl
  · have hn := h.resolve_left h0
    obtain ⟨x, y⟩ := takeW (t := 93 :: t) (name_all hn) (.inr ⟨93, t, rfl, by decide⟩)
    rw [if_neg h0]
    have e : 91 :: (a ++ [93]) ++ t = 91 :: (a ++ 93 :: t) := by simp
    rw [e]
    simp only [arP]
    rw [x, y, if_pos hn]
    rfl
theorem hdP_bd {f : Bool} {p : Pick} (h : gdP p) (t : Str) : hdP f ((if f || p.deep then [] else [62, 32]) ++ (bdP p ++ t)) = (f || p.deep, bdP p ++ t) := by
  obtain ⟨c, r, e, hc⟩ := bd_hd h
  rw [e]
  cases f <;> cases p.deep <;> simp [hdP]
  split
  · rename_i q hq
    exact absurd (List.cons.inj hq).1 hc
  · rfl
theorem itP_bd {f : Bool} {p : Pick} (h : gdP p) {t : Str} (h2 : t = [] ∨ ∃ r, t = 32 :: r) : itP f ((if f || p.deep then [] else [62, 32]) ++ (bdP p ++ t)) = some ({ p with deep := f || p.deep }, t) := by
  unfold itP
  rw [hdP_bd h]
  dsimp only
  have e : bdP p ++ t = (if p.name = [] then [42] else p.name) ++ ((if p.attr = [] then [] else 91 :: (p.attr ++ [93])) ++ t) := by rw [bdP, List.append_assoc]
  rw [e, nmP_bd h.1]
  · dsimp only
    rw [arP_bd h.2 h2]
  by_cases h0 : p.attr = []
  · rw [if_pos h0, List.nil_append]
    rcases h2 with rfl | ⟨r, rfl⟩
    · exact .inl rfl
    · exact .inr ⟨32, r, rfl, by decide⟩
  · rw [if_neg h0]
    exact .inr ⟨91, _, rfl, by decide⟩
theorem tx_hd (r : List Pick) : txP false r = [] ∨ ∃ q, txP false r = 32 :: q := by
  cases r with
  | nil => exact .inl rfl
  | cons p r =>
    refine .inr ?_
    rw [txP]
    cases p.deep <;> exact ⟨_, rfl⟩
theorem rdP_bd : ∀ (n : Nat) (r : List Pick) {f : Bool} {p : Pick}, (∀ q ∈ p :: r, gdP q) → r.length < n → rdP n f ((if f || p.deep then [] else [62, 32]) ++ (bdP p ++ txP false r)) = some ({ p with deep := f || p.deep } :: r)
  | 0, r, f, p, h, hn => absurd hn (Nat.not_lt_zero _)
  | n + 1, [], f, p, h, hn => by
    rw [rdP, itP_bd (h p (by simp)) (tx_hd [])]; rfl
  | n + 1, q :: r, f, p, h, hn => by
    have ih := rdP_bd n r (f := false) (p := q) (fun x hx => h x (by simp [hx])) (by simp at hn; omega)
    rw [rdP, itP_bd (h p (by simp)) (tx_hd (q :: r))]
    have e : txP false (q :: r) = 32 :: ((if false || q.deep then [] else [62, 32]) ++ (bdP q ++ txP false r)) := by
      rw [txP]; cases q.deep <;> simp
    rw [e]
    dsimp only
    rw [if_pos rfl, ih]
    simp
theorem tx_len : ∀ (f : Bool) (l : List Pick), l.length ≤ (txP f l).length + 1
  | _, [] => by simp
  | f, p :: r => by
    have h : 1 ≤ (bdP p).length := by
      unfold bdP
      split
      · simp
      · rename_i h
        have := List.length_pos_iff.mpr h
        simp; omega
    have := tx_len false r
    simp only [txP, List.length_append, List.length_cons]
    cases r with
    | nil => simp <;> omega
    | cons q r =>
      simp only [txP, List.length_append, List.length_cons] at this ⊢
      have h2 : 1 ≤ (if false = true then [] else if q.deep = true then [32] else [32, 62, 32] : Str).length := by cases q.deep <;> simp
      have h3 := tx_len false r
      omega
/-- By words, where the text is told back, is letter by letter. -/
theorem pick_ab {s : Str} {l : List Pick} {n : Nat} (hn : s.length < n) (hl : l ≠ []) (hg : ∀ p ∈ l, gdP p) (ht : txP true l = s) (hp : prW true (spl s) = l) : rdP n true s = some l := by
  cases l with
  | nil => exact absurd rfl hl
  | cons p r =>
    have h1 := prW_tx hg
    rw [ht, hp] at h1
    have h2 := rdP_bd n r (f := true) (p := p) hg (by have := tx_len true (p :: r); rw [ht] at this; simp at this; omega)
    have h3 : (if true || p.deep then [] else [62, 32] : Str) ++ (bdP p ++ txP false r) = s := by rw [← ht, txP]; simp
    rw [h3] at h2
    rw [h2]
    rw [List.cons.injEq] at h1
    simp only [Bool.true_or]
    rw [← h1.1]
theorem pick_ba {s : Str} {l : List Pick} {n : Nat} (h : rdP n true s = some l) : l ≠ [] ∧ (∀ p ∈ l, gdP p) ∧ txP true l = s ∧ prW true (spl s) = l := by
  obtain ⟨h1, h2, p, r, rfl, h3⟩ := rdP_eq n h
  have hs : txP true (p :: r) = s := by rw [h3, txP]; simp
  refine ⟨by simp, h1, hs, ?_⟩
  have := prW_tx h1
  rw [hs] at this
  rw [this]
  have hd := h2 rfl p r rfl
  obtain ⟨a, b, c⟩ := p
  dsimp only at hd
  subst hd; rfl
end Go.VL
