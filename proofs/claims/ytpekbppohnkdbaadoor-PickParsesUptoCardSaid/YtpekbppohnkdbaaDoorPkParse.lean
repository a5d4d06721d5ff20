/- pick.Parse answers what its plain reader answers. -/
import Derived.Test.YtpekbppohnkdbaaDoorPkRaw2
set_option linter.unusedVariables false
set_option linter.unusedSimpArgs false
namespace Go.VL.PkParse
open Go Go.Proofs Go.VL Go.RowKit Go.Shelf Go.VL.PkIter Go.VL.PkRaw Go.VL.PickText
set_option maxRecDepth 100000
theorem pkcs_at : ∀ {l : List Pick} {i : Nat} {p : Pick} (j : Nat), l[i]? = some p → j < 3 → (pkcs l)[i * 3 + j]? = (pc p)[j]?
  | [], i, p, j, h, _ => by simp at h
  | q :: l, 0, p, j, h, hj => by
    simp at h; subst h
    show (pc q ++ pkcs l)[0 * 3 + j]? = _
    rw [List.getElem?_append_left (by simp [pc]; omega)]; simp
  | q :: l, i + 1, p, j, h, hj => by
    simp at h
    have ih := pkcs_at j h hj
    show (pc q ++ pkcs l)[(i + 1) * 3 + j]? = _
    rw [List.getElem?_append_right (by simp [pc]; omega), ← ih]
    congr 1
    simp [pc]; omega
theorem rep_row {W : World} {N : Nat → Prop} {base : Nat} {v : Value} {l : List Pick} (h : W.ownsRow base 32 3 v l.length (pkcs l)) (hN : ∀ b, base ≤ b → b < W.heap.size → ¬ N b) : RepD W N v (.sl (l.map Pick.d)) := by
  rcases h.2 with ⟨rfl, h0⟩ | ⟨g, cap, cur, rfl, h1, h2, h3, h4, h5, h6⟩
  · obtain rfl := List.length_eq_zero_iff.1 h0
    exact .nil
  · have hlt := (Array.getElem?_eq_some_iff.1 h2).1
    have hcur : ∀ k u, (pkcs l)[k]? = some u → cur[k]? = some u := fun k u hk => by
      rw [← h6, List.getElem?_take] at hk
      split at hk
      · simpa using hk
      · cases hk
    have key : ∀ (i j : Nat) (x : D), (((l.map Pick.d)[i]?).bind (·[j]?)) = some x → ∃ u, cur[i * 3 + j]? = some u ∧ RepD W N u x := by
      intro i j x hx
      rw [List.getElem?_map] at hx
      cases hp : l[i]? with
      | none => rw [hp] at hx; cases hx
      | some p =>
        rw [hp] at hx
        have hx : (Pick.d p)[j]? = some x := hx
        match j, hx with
        | 0, hx => cases hx; exact ⟨_, hcur _ _ (pkcs_at 0 hp (by omega)), .str _⟩
        | 1, hx => cases hx; exact ⟨_, hcur _ _ (pkcs_at 1 hp (by omega)), .str _⟩
        | 2, hx => cases hx; exact ⟨_, hcur _ _ (pkcs_at 2 hp (by omega)), .bool _⟩
    have := RepD.sl (w := W) (N := N) ⟨g, 0, none⟩ (l.map Pick.d) cap 3 (fun i j => cur.getD (i * 3 + j) undef) (by simpa using h3) (fun _ => ⟨rfl, hN g h1 hlt, hlt⟩) (fun e he => by
      simp at he; obtain ⟨p, _, rfl⟩ := he; rfl) (fun i j x hx => by
      obtain ⟨u, hu, _⟩ := key i j x hx
      simp [cellAt, World.cell?, h2, hu]) (fun i j x hx => by
      obtain ⟨u, hu, hr⟩ := key i j x hx
      simpa [hu] using hr)
    rw [List.length_map] at this
    exact this
theorem one_str {w : World} {N : Nat → Prop} {θ : Th} {vs : Array Value} {s : List UInt8} (h1 : vs.size = 1) (h2 : ∀ (i : Nat) (x : T), [T.d (.str s)][i]? = some x → RepT w N θ (vs.getD i undef) x) : vs = #[.string ⟨s.toArray⟩] := by
  have ha := h2 0 _ rfl
  match vs, h1 with
  | ⟨[v]⟩, _ =>
    cases ha with
    | d ha => simp at ha; cases ha; rfl
theorem Below.kp {O : Nat → Prop} {w w' : World} (h : Below w.heap.size w w') : Kp O w w' :=
  ⟨h.os, h.tape, h.output, h.size, fun k hk _ => h.block k hk, fun b cs e fr hc => by
    have hlt := (Array.getElem?_eq_some_iff.1 hc).1
    exact ⟨cs, fr, by rw [h.block b hlt]; exact hc, rfl⟩⟩
/-- A call that is told by value, at a row of picks. -/
theorem callV {f : Nat} {l : List Pick} {x : D} {X O : Nat → Prop} {w W : World} {v : Value} (hc : CallWP Tryd.prog f [.d (.sl (l.map Pick.d))] [] (fun r h => r = .d x ∧ h = []))
    (hG : GlobOK Tryd.prog X O w) (hb : Below w.heap.size w W) (hrow : W.ownsRow w.heap.size 32 3 v l.length (pkcs l)) :
    Calls Tryd.prog f #[v] W fun e W' => (∃ u, e = .returned u ∧ ∃ N, RepD W' N u x) ∧ Below W.heap.size W W' := by
  refine (hc (fun _ => False) (fun _ => False) W (fun _ => none) #[v] rfl (fun i y hy => ?_) HpS.nil (fun b hb => hb.elim) (fun _ _ => rfl) (hG.call (Below.kp hb) (fun b _ hx => hx.elim) (fun b _ hx => hx.elim))).mono ?_
  · match i, hy with
    | 0, hy => cases hy; exact .d (rep_row hrow (fun b _ _ hn => by rcases hn with h | ⟨_, _, _, h, _⟩; exact h; simp [look] at h))
  · rintro e W' ⟨u, r, h', θ', rfl, ⟨rfl, rfl⟩, _, hr, _, hk⟩
    cases hr with
    | d hr => exact ⟨⟨u, rfl, _, hr⟩, hk.os, hk.tape, hk.output, hk.size, fun k hk2 => hk.block k hk2 (fun h => h)⟩
def prs (s : Str) : List Pick × Int := if s.length > 600 then ([], 1) else if chk (prW true (spl s)) = 0 ∧ txt true (prW true (spl s)) = s then (prW true (spl s), 0) else ([], 4)
set_option maxHeartbeats 1000000 in
theorem parse_big (s : Str) (hs : 600 < s.length) (w : World) : Calls Tryd.prog 4 #[.string ⟨s.toArray⟩] w fun e W => e = .returned (.tuple #[.slice none 0 0, .int .i64 1]) ∧ W = w := by
  have hb : decide (600 < (s.length : Int)) = true := by simp; omega
  go_enter Tryd.func4, Tryd.ntmps4
  go_wp2
  exact bodyPost_ret (results_tmp2 rfl _ _ _) rfl ⟨rfl, rfl⟩
theorem parseC (s : Str) (hs : s.length ≤ 1048576) : CallWP Tryd.prog 4 [(.d (.str (s)))] [] (fun r h => r = .tup [.d (.sl ((prs s).1.map Pick.d)), (.d (.int .i64 ((prs s).2)))] ∧ h = []) := by
  intro X O w θ vs h1 h2 h3 h4 h5 hG
  obtain rfl := one_str h1 h2
  have tup : ∀ {W : World} {N : Nat → Prop} {v : Value} {L : List Pick} {c : Int}, RepD W N v (.sl (L.map Pick.d)) → RepT W N θ (.tuple #[v, .int .i64 c]) (.tup [.d (.sl (L.map Pick.d)), .d (.int .i64 c)]) := fun hr => .tup _ _ rfl fun i x hx => by
    match i, hx with
    | 0, hx => cases hx; exact .d hr
    | 1, hx => cases hx; exact .d (.int _ _)
  by_cases hb : 600 < s.length
  · have e : prs s = ([], 1) := by rw [prs, if_pos hb]
    rw [e]
    refine (parse_big s hb w).mono fun e w' ⟨he, hw⟩ => ⟨_, _, [], θ, he, ⟨rfl, rfl⟩, fun _ _ h => h, tup (L := []) .nil, HpS.nil, by subst hw; exact Kp.refl _ _⟩
  · obtain ⟨_, _, cs, e, fr, k1, m, k2⟩ := hG ("internal/bytealg.MaxLen", fun cs => ∃ m, cs = #[.int .i64 m]) (Tryd.lays145_ren.g 1) (by simp [Gl]) (by kernel_rfl)
    subst k2
    have hg := (Array.getElem?_eq_some_iff.1 k1).1
    refine (parse_raw s (by omega) m w (fun W hW => ?_) (fun W v l hW hl hn hrow => ?_) (fun W v l hW hl hn hrow => ?_)).mono ?_
    · simp [World.cell?, hW.block _ hg, k1]
    · refine (callV (chkC l (by omega) (fun p hp => by have := hn p hp; omega)) hG hW hrow).mono ?_
      rintro e W' ⟨⟨u, rfl, N, hr⟩, hb⟩
      generalize chk l = cc at *
      cases hr
      exact ⟨rfl, hb⟩
    · refine (callV (textC l hl (fun p hp => by have := hn p hp; omega)) hG hW hrow).mono ?_
      rintro e W' ⟨⟨u, rfl, N, hr⟩, hb⟩
      cases hr
      exact ⟨rfl, hb⟩
    · rintro e W' ⟨v, hbl, hv⟩
      by_cases hc : chk (prW true (spl s)) = 0 ∧ txt true (prW true (spl s)) = s
      · rw [if_pos hc] at hv
        obtain ⟨rfl, hrow⟩ := hv
        have e : prs s = (prW true (spl s), 0) := by rw [prs, if_neg hb, if_pos hc]
        rw [e]
        exact ⟨_, _, [], θ, rfl, ⟨rfl, rfl⟩, fun _ _ h => h, tup (rep_row hrow (fun b hb _ hn => by
          rcases hn with h | ⟨_, _, _, h, _⟩
          · have := h4 b h; omega
          · simp [look] at h)), HpS.nil, Below.kp hbl⟩
      · rw [if_neg hc] at hv
        subst hv
        have e : prs s = ([], 4) := by rw [prs, if_neg hb, if_neg hc]
        rw [e]
        exact ⟨_, _, [], θ, rfl, ⟨rfl, rfl⟩, fun _ _ h => h, tup (L := []) .nil, HpS.nil, Below.kp hbl⟩
end Go.VL.PkParse
