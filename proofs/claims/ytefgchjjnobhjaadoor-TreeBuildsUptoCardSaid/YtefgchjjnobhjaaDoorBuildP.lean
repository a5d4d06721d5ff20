/- tree.Build, as a call. -/
import Derived.Test.YtefgchjjnobhjaaDoorBtBuild
import Derived.Test.YtefgchjjnobhjaaDoorStrs
set_option linter.unusedVariables false
set_option linter.unusedSimpArgs false
namespace Go.VL.BuildP
open Go Go.Proofs Go.VL Go.RowKit Go.VL.BtA Go.VL.BtFind Go.VL.BtClone Go.VL.BtStart Go.VL.BtNodes Go.VL.BtBuild Go.VL.Strs
set_option maxRecDepth 100000
theorem HpS.nil {P : Program} {X O : Nat → Prop} {B : Nat} {θ : Th} {w : World} : HpS P X O B θ [] w :=
  ⟨fun i o hi => by simp [look] at hi, fun i i' o1 o2 l1 l2 b hi => by simp [look] at hi, fun i o l b hi => by simp [look] at hi⟩
theorem Below.kp {O : Nat → Prop} {w w' : World} (h : Below w.heap.size w w') : Kp O w w' :=
  ⟨h.os, h.tape, h.output, h.size, fun k hk _ => h.block k hk, fun b cs e fr hc => by
    have hlt := (Array.getElem?_eq_some_iff.1 hc).1
    exact ⟨cs, fr, by rw [h.block b hlt]; exact hc, rfl⟩⟩
theorem strs_rep {W : World} {N : Nat → Prop} {b : Nat} {t : TypeId} {fr : Nat × Nat} (l : List Str) (h : W.heap[b]? = some (.cells (l.map strV).toArray t fr)) (hN : ¬ N b) : RepD W N (.slice (some ⟨b, 0, none⟩) l.length l.length) (.sl (l.map iS)) := by
  have hlt := lt_of h
  have := RepD.sl (w := W) (N := N) ⟨b, 0, none⟩ (l.map iS) l.length 1 (fun i _ => strV (l.getD i [])) (by simp) (fun _ => ⟨rfl, hN, hlt⟩) (fun e he => by
    obtain ⟨a, _, rfl⟩ := List.mem_map.1 he; rfl) (fun i j x hx => by
    rw [List.getElem?_map] at hx
    cases hp : l[i]? with
    | none => rw [hp] at hx; cases hx
    | some p =>
      rw [hp] at hx
      match j, hx with
      | 0, hx => simp [cellAt, World.cell?, h, hp]
      | j + 1, hx => simp [iS] at hx) (fun i j x hx => by
    rw [List.getElem?_map] at hx
    cases hp : l[i]? with
    | none => rw [hp] at hx; cases hx
    | some p =>
      rw [hp] at hx
      match j, hx with
      | 0, hx =>
        simp [iS] at hx; subst hx
        simp only [List.getD_eq_getElem?_getD, hp]
        exact .str _
      | j + 1, hx => simp [iS] at hx)
  rw [List.length_map] at this
  exact this
theorem cont_raw {X O : Nat → Prop} {w : World} (hG : GlobOK Tryd.prog X O w) (l : List Str) (b : Nat) (hl : l.length < 2 ^ 62) {e : TypeId} {fr : Nat × Nat} (hb : w.heap[b]? = some (.cells (l.map strV).toArray e fr)) (W : World) (nm : Str) (hB : Below w.heap.size w W) :
    Calls Tryd.prog 18 #[.slice (some ⟨b, 0, none⟩) l.length l.length, .string ⟨nm.toArray⟩] W fun e W' => e = .returned (.bool (decide (nm ∈ l))) ∧ Below W.heap.size W W' := by
  have hb2 : W.heap[b]? = _ := (hB.block b (lt_of hb)).trans hb
  refine (contains_ l nm hl (fun _ => False) (fun _ => False) W (fun _ => none) _ rfl (fun i y hy => ?_) HpS.nil (fun b hb => hb.elim) (fun _ _ => rfl) (hG.call (Below.kp hB) (fun b _ hx => hx.elim) (fun b _ hx => hx.elim))).mono ?_
  · match i, hy with
    | 0, hy => cases hy; exact .d (strs_rep l hb2 (fun hn => by rcases hn with h | ⟨_, _, _, h, _⟩; exact h; simp [look] at h))
    | 1, hy => cases hy; exact .d (.str _)
  · rintro e W' ⟨u, r, h', θ', rfl, ⟨rfl, rfl⟩, _, hr, _, hk⟩
    have e0 := hr.d_inv
    cases e0
    refine ⟨?_, hk.os, hk.tape, hk.output, hk.size, fun k hk2 => hk.block k hk2 (fun h => h)⟩
    have : l.any (nm == ·) = decide (nm ∈ l) := by
      by_cases h : nm ∈ l
      · rw [decide_eq_true h, List.any_eq_true]; exact ⟨nm, h, by simp⟩
      · rw [decide_eq_false h, List.any_eq_false]
        intro x hx hh
        have : nm = x := by simpa using hh
        exact h (this ▸ hx)
    rw [this]
theorem at_attrs {w : World} {N : Nat → Prop} {v : Value} {l : List Attr} (h : RepD w N v (.sl (l.map Attr.d))) : AtA w v l := by
  generalize hes : l.map Attr.d = es at h
  cases h with
  | nil =>
    have : l = [] := by simpa using hes
    exact .inl ⟨this, none, 0, rfl⟩
  | sl ad es' cap sz c hl hb hs hc hr =>
    subst hes
    by_cases h0 : l = []
    · subst h0
      exact .inl ⟨rfl, _, _, rfl⟩
    · right
      have hne : l.map Attr.d ≠ [] := by simpa using h0
      obtain ⟨g, o, sp⟩ := ad
      obtain ⟨rfl, _, _⟩ : sp = none ∧ _ := hb hne
      have hpos := List.length_pos_iff.mpr h0
      have hz : sz = 2 := by
        have := hs (Attr.d l[0]) (List.mem_map.2 ⟨_, List.getElem_mem _, rfl⟩)
        rw [← this]; rfl
      subst hz
      refine ⟨g, o, cap, by rw [List.length_map], hpos, fun i a hi => ?_⟩
      have q0 : (((l.map Attr.d)[i]?).bind (·[0]?)) = some (.str a.name) := by rw [List.getElem?_map, hi]; rfl
      have q1 : (((l.map Attr.d)[i]?).bind (·[1]?)) = some (.str a.value) := by rw [List.getElem?_map, hi]; rfl
      have r0 := hr i 0 _ q0
      have r1 := hr i 1 _ q1
      have c0 := hc i 0 _ q0
      have c1 := hc i 1 _ q1
      generalize c i 0 = u0 at r0 c0
      generalize c i 1 = u1 at r1 c1
      cases r0
      cases r1
      exact ⟨c0, by have := c1; rw [Nat.add_assoc] at this; exact this⟩
theorem buildC (ts : List TokT) (hsz : ∀ t ∈ ts, t.attrs.length < 2 ^ 40 ∧ t.text.length < 2 ^ 40) : CallWP Tryd.prog 4 [.d (.sl (ts.map Token.d))] [] (fun r h => r = .tup [.d (.sl (nds (pbuild ts).1)), (.d (.int .i64 ((pbuild ts).2)))] ∧ h = []) := by
  intro X O w θ vs k1 k2 k3 k4 k5 hG
  have one : ∃ v, vs = #[v] := by
    match vs, k1 with
    | ⟨[a]⟩, _ => exact ⟨a, rfl⟩
  obtain ⟨v, rfl⟩ := one
  have hv : RepD w (Nn X θ []) v (.sl (ts.map Token.d)) := (k2 0 _ rfl).d_inv
  obtain ⟨_, _, cs1, e1, fr1, q1, q2⟩ := hG ("bobbinet/tree.blocks", fun cs => cs = #[.string ⟨#[112]⟩, .string ⟨#[100, 105, 118]⟩, .string ⟨#[117, 108]⟩, .string ⟨#[111, 108]⟩, .string ⟨#[108, 105]⟩, .string ⟨#[104, 49]⟩, .string ⟨#[104, 50]⟩, .string ⟨#[116, 97, 98, 108, 101]⟩, .string ⟨#[98, 108, 111, 99, 107, 113, 117, 111, 116, 101]⟩]) 0 (by simp [Gl]) (by kernel_rfl)
  obtain ⟨_, _, cs2, e2, fr2, p1, p2⟩ := hG ("bobbinet/tree.voids", fun cs => cs = #[.string ⟨#[98, 114]⟩, .string ⟨#[104, 114]⟩, .string ⟨#[105, 109, 103]⟩, .string ⟨#[105, 110, 112, 117, 116]⟩]) 1 (by simp [Gl]) (by kernel_rfl)
  simp only at q2 p2
  subst q2 p2
  have hcb := cont_raw hG blocksN 0 (by decide) q1
  have hcv := cont_raw hG voidsN 1 (by decide) p1
  have hE : ∀ {W : World} {u : Value} {x : D}, RepD W X u x → RepD W (Nn X θ []) u x := fun {W u x} h => h.ext ⟨Nat.le_refl _, fun b _ hn => ⟨fun hn' => by
    rcases hn' with h | ⟨_, _, _, h, _⟩
    · exact hn h
    · simp [look] at h, rfl⟩⟩
  have fin : ∀ (a : Option Addr) (g o cap : Nat), v = .slice a ts.length cap → (ts ≠ [] → a = some ⟨g, o, none⟩) → (∀ (i : Nat) (t : TokT), ts[i]? = some t → ∃ av, AtA w av t.attrs ∧ w.cell? ⟨g, o + i * 5, none⟩ = some (.int .i64 t.kind) ∧ w.cell? ⟨g, o + i * 5 + 1, none⟩ = some (.string ⟨t.name.toArray⟩) ∧ w.cell? ⟨g, o + i * 5 + 2, none⟩ = some av ∧ w.cell? ⟨g, o + i * 5 + 3, none⟩ = some (.bool t.self) ∧ w.cell? ⟨g, o + i * 5 + 4, none⟩ = some (.string ⟨t.text.toArray⟩)) →
      Calls Tryd.prog 4 #[v] w fun e w' => ∃ v r h' θ', e = .returned v ∧ (r = .tup [.d (.sl (nds (pbuild ts).1)), (.d (.int .i64 ((pbuild ts).2)))] ∧ h' = []) ∧ (∀ id l, θ id = some l → θ' id = some l) ∧ RepT w' (Nn X θ' h') θ' v r ∧ HpS Tryd.prog X O w.heap.size θ' h' w' ∧ Kp O w w' := fun a g o cap hv2 ha hT => by
    subst hv2
    refine (build_raw a g o cap ha X k4 hT hsz hcb hcv).mono ?_
    rintro e W ⟨u, rfl, hr, hb⟩
    refine ⟨_, _, [], θ, rfl, ⟨rfl, rfl⟩, fun _ _ h => h, .tup _ _ rfl (fun i x hx => ?_), HpS.nil, Below.kp hb⟩
    match i, hx with
    | 0, hx => cases hx; exact .d (hE hr)
    | 1, hx => cases hx; exact .d (.int _ _)
  generalize hes : ts.map Token.d = es at hv
  cases hv with
  | nil =>
    have h0 : ts = [] := by simpa using hes
    exact fin none 0 0 0 (by rw [h0]; rfl) (fun h => absurd h0 h) (fun i t ht => by rw [h0] at ht; cases ht)
  | sl ad es' cap sz c hl hb hs hc hr =>
    subst hes
    by_cases h0 : ts = []
    · exact fin (some ad) 0 0 cap (by rw [List.length_map]) (fun h => absurd h0 h) (fun i t ht => by rw [h0] at ht; cases ht)
    · have hne : ts.map Token.d ≠ [] := by simpa using h0
      obtain ⟨g, o, sp⟩ := ad
      obtain ⟨rfl, _, _⟩ : sp = none ∧ _ := hb hne
      have hpos := List.length_pos_iff.mpr h0
      have hz : sz = 5 := by
        have := hs (Token.d ts[0]) (List.mem_map.2 ⟨_, List.getElem_mem _, rfl⟩)
        rw [← this]; rfl
      subst hz
      refine fin (some ⟨g, o, none⟩) g o cap (by rw [List.length_map]) (fun _ => rfl) (fun i t ht => ?_)
      have q : ∀ (j : Nat) (x : D), (Token.d t)[j]? = some x → ∃ u, w.cell? ⟨g, o + i * 5 + j, none⟩ = some u ∧ RepD w (Nn X θ []) u x := fun j x hx => by
        have hq : (((ts.map Token.d)[i]?).bind (·[j]?)) = some x := by rw [List.getElem?_map, ht]; exact hx
        exact ⟨_, hc i j x hq, hr i j x hq⟩
      obtain ⟨u0, c0, r0⟩ := q 0 _ rfl
      obtain ⟨u1, c1, r1⟩ := q 1 _ rfl
      obtain ⟨u2, c2, r2⟩ := q 2 _ rfl
      obtain ⟨u3, c3, r3⟩ := q 3 _ rfl
      obtain ⟨u4, c4, r4⟩ := q 4 _ rfl
      cases r0; cases r1; cases r3; cases r4
      exact ⟨u2, at_attrs r2, c0, c1, c2, c3, c4⟩
end Go.VL.BuildP
