/- strings.Builder: what its inner functions come to. -/
import Derived.Test.YtpekbppohnkdbaaDoorVTy3
import Derived.Shelf.Strings.Builder1
set_option linter.unusedVariables false
set_option linter.unusedSimpArgs false
set_option linter.unusedVariables false
namespace Go.VL
open Go Go.RowKit Go.Shelf Go.Proofs
variable {P : Program} {ρ : Ren}

theorem setCell_wr {w : World} {b o : Nat} {cs : Array Value} {e : TypeId} {fr : Nat × Nat} (v : Value) (hb : w.heap[b]? = some (.cells cs e fr)) :
    Wr w b (w.setCell ⟨b, o, none⟩ v) ∧ (w.setCell ⟨b, o, none⟩ v).heap[b]? = some (.cells (cs.setIfInBounds o v) e fr) := by
  have hb1 : (w.setCell ⟨b, o, none⟩ v).heap[b]? = some (.cells (cs.setIfInBounds o v) e fr) := by simp [World.setCell, Array.getElem?_modify, hb]
  refine ⟨⟨rfl, rfl, rfl, by simp [World.setCell], fun c hc => by simp [World.setCell, Array.getElem?_modify, Ne.symm hc], fun c cs1 e1 fr1 h => ?_⟩, hb1⟩
  by_cases hc : c = b
  · subst hc
    rw [hb] at h; cases h
    exact ⟨_, _, hb1, by simp⟩
  · exact ⟨cs1, fr1, by simp only [World.setCell, Array.getElem?_modify]; rw [if_neg (Ne.symm hc)]; exact h, rfl⟩

theorem CallWP.copyCheck (f B : Nat) (hused : ∀ (b : Nat) (w : World), w.cell? ⟨b, 0, none⟩ = some (.pointer (some ⟨b, 0, none⟩)) → Calls P f #[.pointer (some ⟨b, 0, none⟩)] w fun e w' => e = .returned (.tuple #[]) ∧ w' = w)
    (hfresh : ∀ (b : Nat) (w : World), w.cell? ⟨b, 0, none⟩ = some (.pointer none) → w.shape? b = some (B, 2) → w.frozen? ⟨b, 0, none⟩ = false → Calls P f #[.pointer (some ⟨b, 0, none⟩)] w fun e w' => e = .returned (.tuple #[]) ∧ w' = w.setCell ⟨b, 0, none⟩ (.pointer (some ⟨b, 0, none⟩))) (x : T) (r : Hp) (h0 : look r 0 = none) (hu : ∀ o, upd ((0, .var B [.bs 0, x]) :: r) 0 o = (0, o) :: r) :
    CallWP P f [.ref 0 0 0] ((0, .var B [.bs 0, x]) :: r) (fun q h => q = .tup [] ∧ h = (0, .var B [.bs 0, x]) :: r) := by
  intro X O w θ vs h1 h2 h3 h4 h5 hG
  have hlk : look ((0, Ob.var B [.bs 0, x]) :: r) 0 = some (.var B [.bs 0, x]) := rfl
  obtain ⟨l, hθ, hl1, hl2, b, cs, fr, hb, hw, hnf, hsz, hcs⟩ := h3.ob 0 _ hlk
  obtain ⟨u, hu0, hu1⟩ := hcs 0 _ rfl
  have hv : vs = #[.pointer (some ⟨b, 0, none⟩)] := by
    have := h2 0 _ rfl
    cases hv : vs.getD 0 undef with
    | pointer a =>
      rw [hv] at this
      cases this with
      | ref _ _ _ l' hθ' b' hb' =>
        rw [hθ] at hθ'; cases hθ'
        rw [hb] at hb'; cases hb'
        rw [hl1, hl2] at hv
        match vs, h1, hv with
        | ⟨[y]⟩, _, hv => simp at hv; simp [hv]
        | ⟨[]⟩, h, _ => simp at h
        | ⟨_ :: _ :: _⟩, h, _ => simp at h
    | _ => rw [hv] at this; cases this
  subst hv
  have hc0 : w.cell? ⟨b, 0, none⟩ = some u := by simp [World.cell?, hw, hu0]
  have hcases : u = .pointer none ∨ u = .pointer (some ⟨b, 0, none⟩) := by
    cases hu1 with
    | bs _ _ l' hθ' b' hb' h =>
      rw [hθ] at hθ'; cases hθ'
      rw [hb] at hb'; cases hb'
      rw [hl2] at h
      exact h
  rcases hcases with rfl | rfl
  · refine (hfresh b w hc0 (by simp [World.shape?, hw, hsz]) (by
      have := hnf 0 (by rw [hsz]; simp)
      obtain ⟨lo, hi⟩ := fr
      simp only [World.frozen?, hw, Bool.and_eq_false_iff, decide_eq_false_iff_not]
      simp only at this
      omega)).mono fun e w' ⟨he, hw'⟩ => ?_
    subst hw'
    obtain ⟨hwr, hwb⟩ := setCell_wr (o := 0) (.pointer (some ⟨b, 0, none⟩)) hw
    have hbn : Nn X θ ((0, Ob.var B [.bs 0, x]) :: r) b := .inr ⟨0, _, l, hlk, hθ, hb⟩
    have hE : Ext w (Nn X θ ((0, Ob.var B [.bs 0, x]) :: r)) (w.setCell ⟨b, 0, none⟩ (.pointer (some ⟨b, 0, none⟩))) (Nn X θ ((0, Ob.var B [.bs 0, x]) :: r)) :=
      ⟨by rw [hwr.size]; exact Nat.le_refl _, fun c _ hn => ⟨hn, hwr.other c fun e => hn (e ▸ hbn)⟩⟩
    obtain ⟨g1, g2⟩ := h3.upd (ob' := .var B [.bs 0, x]) hlk hθ hb hwr.other hwr.shp hwr.size (by
      rw [hu]
      refine ⟨hl1, hl2, b, _, fr, hb, hwb, by simpa using hnf, by simpa using hsz, fun j y hy => ?_⟩
      match j, hy with
      | 0, hy =>
        cases hy
        refine ⟨.pointer (some ⟨b, 0, none⟩), by simp [Array.getElem?_setIfInBounds, hsz], .bs 0 _ l hθ b hb (.inr (by rw [hl2]))⟩
      | 1, hy =>
        obtain ⟨u', q1, q2⟩ := hcs 1 y hy
        exact ⟨u', by simpa [Array.getElem?_setIfInBounds] using q1, q2.ext hE hwr.shp (Sub.refl θ)⟩)
    rw [hu] at g1
    exact ⟨.tuple #[], .tup [], _, θ, he, ⟨rfl, rfl⟩, fun _ _ h => h, .tup #[] [] rfl (fun i x hx => by simp at hx), g1, hwr.kp (h3.rng 0 _ l b hlk hθ hb).2.2 rfl (Kp.refl O w)⟩
  · refine (hused b w hc0).mono fun e w' ⟨he, hw'⟩ => ?_
    subst hw'
    exact ⟨.tuple #[], .tup [], _, θ, he, ⟨rfl, rfl⟩, fun _ _ h => h, .tup #[] [] rfl (fun i x hx => by simp at hx), h3, Kp.refl O w'⟩
theorem liesAt_off {e : TypeId} (hc : P.cellsOf e = 1) (count o n : Nat) (hn : o + n ≤ count) : liesAt P P.depth e count o e n = true := by
  have hd : P.depth = (2 * (P.types.size + Made.depth) + 1) + 1 := rfl
  rw [hd]
  simp only [liesAt, Bool.or_eq_true]
  left
  rw [hd]
  simp [rowAt, hc, hn, sameLayout, Nat.mod_one]

theorem run_unsafeString_off (w : World) (pt it ty e : TypeId) (hp : P.underlying pt = some (.pointer e)) (hc : P.cellsOf e = 1) (g o cells : Nat) (hsh : w.shape? g = some (e, cells)) (l : List UInt8) (h0 : l ≠ []) (hn : o + l.length ≤ cells) (h63 : l.length ≤ 9223372036854775807)
    (hcell : ∀ j x, l[j]? = some x → w.cell? ((⟨g, o, none⟩ : Addr).add j) = some (.int .u8 x.toNat)) :
    (Builtin.unsafeString_ #[pt, it] ty #[.pointer (some ⟨g, o, none⟩), .int .i64 l.length]).run P w = .ok (.string ⟨l.toArray⟩) (w.freeze ⟨g, o, none⟩ l.length) := by
  have hl : l.length ≠ 0 := by simpa using h0
  have hlb := Lib.run_loadBytes (P := P) w l ⟨g, o, none⟩ .empty hcell
  have hlies := liesAt_off (P := P) hc (cells / P.cellsOf e) o l.length (by rw [hc]; simpa using hn)
  have h63' : ¬ (9223372036854775807 : Int) < (l.length : Int) := by omega
  have hdef : Builtin.unsafeString_ #[pt, it] ty #[.pointer (some ⟨g, o, none⟩), .int .i64 l.length] =
      (do
        let n ← asInt (.int .i64 l.length)
        if n < 0 then runtimePanic (.error "unsafe.String: len out of range")
        if n > IntKind.i64.max then unsupported (.unsafePointer "String: a length above the largest int")
        if n = 0 then pure (.string .empty)
        else if ← variablesAt ⟨g, o, none⟩ (← elemOf pt) n.toNat then do
          let s ← loadBytes ⟨g, o, none⟩ .empty n.toNat
          freeze ⟨g, o, none⟩ n.toNat
          pure (.string s)
        else unsupported (.unsafePointer "String: not so many bytes at ptr")) := rfl
  rw [hdef]
  have hmax : IntKind.i64.max = 9223372036854775807 := rfl
  have hneg : ¬ (l.length : Int) < 0 := by omega
  simp [asInt, asIntOf, hmax, h63', hneg, hl, variablesAt, hsh, elemOf, run_underlying hp, hlies, hlb]

set_option maxHeartbeats 1000000 in
set_option maxRecDepth 100000 in
theorem str_full (L : Lays.n169 P ρ) (X : Builder.Extra P ρ) (b g o cap : Nat) (p : Value) (l : List UInt8) (cur : Array Value) (fr fr' : Nat × Nat) (w : World) (h0 : l ≠ []) (hcap : l.length ≤ cap) (h63 : l.length ≤ 9223372036854775807)
    (hbk : w.heap[b]? = some (.cells #[p, .slice (some ⟨g, o, none⟩) l.length cap] (ρ.t 72) fr)) (hg : w.heap[g]? = some (.cells cur (ρ.t 5) fr')) (hcs : o + l.length ≤ cur.size) (hcells : ∀ j x, l[j]? = some x → cur[o + j]? = some (.int .u8 x.toNat)) :
    Calls P (ρ.f 169) #[.pointer (some ⟨b, 0, none⟩)] w fun e w' => e = .returned (.string ⟨l.toArray⟩) ∧ w' = w.drew.freeze ⟨g, o, none⟩ l.length := by
  have hl0 : l.length ≠ 0 := by simpa using h0
  have c1 : w.drew.cell? ⟨b, 1, none⟩ = some (.slice (some ⟨g, o, none⟩) l.length cap) := by
    have : w.drew.heap[b]? = some (.cells #[p, .slice (some ⟨g, o, none⟩) l.length cap] (ρ.t 72) fr) := hbk
    rw [Lib.cell_of_heap this]; rfl
  have hSD : (Builtin.unsafeSliceData_ #[(ρ.t 37)] (ρ.t 127) #[.slice (some ⟨g, o, none⟩) l.length cap]).run P w.drew = .ok (.pointer (some ⟨g, o, none⟩)) w.drew :=
    Lib.run_unsafeSliceData_row _ _ _ _ _ _ (by omega)
  have hUS : (Builtin.unsafeString_ #[(ρ.t 127), (ρ.t 3)] (ρ.t 9) #[.pointer (some ⟨g, o, none⟩), .int .i64 l.length]).run P w.drew = .ok (.string ⟨l.toArray⟩) (w.drew.freeze ⟨g, o, none⟩ l.length) := by
    have hg' : w.drew.heap[g]? = some (.cells cur (ρ.t 5) fr') := hg
    refine run_unsafeString_off w.drew (ρ.t 127) (ρ.t 3) (ρ.t 9) (ρ.t 5) L.t127 X.cellsByte g o cur.size (by simp [World.shape?, hg']) l h0 hcs h63 ?_
    intro j x hx
    have := hcells j x hx
    simp [World.cell?, Addr.add]
    by_cases hj : j = 0
    · subst hj; simpa [hg'] using this
    · simpa [hj, hg'] using this
  have mixed := L.mixed
  have t72 := L.t72; have a72 := L.a72; have z72 := L.z72; have v72 := L.v72; have u72 := run_underlying L.t72
  have t70 := L.t70; have a70 := L.a70; have z70 := L.z70; have v70 := L.v70; have u70 := run_underlying L.t70
  have t37 := L.t37; have a37 := L.a37; have z37 := L.z37; have v37 := L.v37; have u37 := run_underlying L.t37
  have t127 := L.t127; have a127 := L.a127; have z127 := L.z127; have v127 := L.v127; have u127 := run_underlying L.t127
  have t3 := L.t3; have a3 := L.a3; have z3 := L.z3; have v3 := L.v3; have u3 := run_underlying L.t3
  have t9 := L.t9; have a9 := L.a9; have z9 := L.z9; have v9 := L.v9; have u9 := run_underlying L.t9
  have t5 := X.t5; have a5 := X.a5; have z5 := X.z5; have v5 := X.v5; have u5 := run_underlying X.t5
  go_enter L.f169, Body.n169_ntmps ρ
  go_wp2
  go_region_o
  all_goals (go_wp2; go_ret; exact ⟨rfl, rfl⟩)

set_option maxHeartbeats 1000000 in
set_option maxRecDepth 100000 in
/-- .. of a builder without a byte: its slice's pointer and the world behind unsafe.SliceData are given. -/
theorem str_none (L : Lays.n169 P ρ) (X : Builder.Extra P ρ) (b cap : Nat) (p : Value) (ao q : Option Addr) (fr : Nat × Nat) (w w1 : World)
    (hbk : w.heap[b]? = some (.cells #[p, .slice ao 0 cap] (ρ.t 72) fr)) (hSD : (Builtin.unsafeSliceData_ #[(ρ.t 37)] (ρ.t 127) #[.slice ao 0 cap]).run P w.drew = .ok (.pointer q) w1)
    (c2 : w1.cell? ⟨b, 1, none⟩ = some (.slice ao 0 cap)) :
    Calls P (ρ.f 169) #[.pointer (some ⟨b, 0, none⟩)] w fun e w' => e = .returned (.string ⟨#[]⟩) ∧ w' = w1 := by
  have hUS := Any.unsafeString_none L X
  have c1 : w.drew.cell? ⟨b, 1, none⟩ = some (.slice ao 0 cap) := by
    have : w.drew.heap[b]? = some (.cells #[p, .slice ao 0 cap] (ρ.t 72) fr) := hbk
    rw [Lib.cell_of_heap this]; rfl
  have mixed := L.mixed
  have t72 := L.t72; have a72 := L.a72; have z72 := L.z72; have v72 := L.v72; have u72 := run_underlying L.t72
  have t70 := L.t70; have a70 := L.a70; have z70 := L.z70; have v70 := L.v70; have u70 := run_underlying L.t70
  have t37 := L.t37; have a37 := L.a37; have z37 := L.z37; have v37 := L.v37; have u37 := run_underlying L.t37
  have t127 := L.t127; have a127 := L.a127; have z127 := L.z127; have v127 := L.v127; have u127 := run_underlying L.t127
  have t3 := L.t3; have a3 := L.a3; have z3 := L.z3; have v3 := L.v3; have u3 := run_underlying L.t3
  have t9 := L.t9; have a9 := L.a9; have z9 := L.z9; have v9 := L.v9; have u9 := run_underlying L.t9
  have t5 := X.t5; have a5 := X.a5; have z5 := X.z5; have v5 := X.v5; have u5 := run_underlying X.t5
  go_enter L.f169, Body.n169_ntmps ρ
  go_wp2
  go_region_o
  all_goals (go_wp2; go_ret; exact ⟨rfl, rfl⟩)

theorem kp_drew (O : Nat → Prop) (w : World) : Kp O w w.drew := ⟨rfl, rfl, rfl, Nat.le_refl _, fun _ _ _ => rfl, fun _ cs _ fr h => ⟨cs, fr, h, rfl⟩⟩
theorem kp_freeze {O : Nat → Prop} {w0 w : World} (h : Kp O w0 w) {g : Nat} (hg : O g ∨ w0.heap.size ≤ g) (o n : Nat) : Kp O w0 (w.freeze ⟨g, o, none⟩ n) := by
  have hsz : w.heap.size = (w.freeze ⟨g, o, none⟩ n).heap.size := by unfold World.freeze; split <;> simp
  have hoth : ∀ c, c ≠ g → (w.freeze ⟨g, o, none⟩ n).heap[c]? = w.heap[c]? := fun c hc => by
    unfold World.freeze; split
    · rfl
    · simp [Array.getElem?_modify, Ne.symm hc]
  refine h.trans' (O' := fun c => c = g) ⟨?_, ?_, ?_, Nat.le_of_eq hsz, fun c _ hc => hoth c hc, fun c cs e fr hc => ?_⟩ (fun c hc e => by
    subst e
    rcases hg with hb | hb
    · exact hb
    · omega)
  · unfold World.freeze; split <;> rfl
  · unfold World.freeze; split <;> rfl
  · unfold World.freeze; split <;> rfl
  · by_cases hg : c = g
    · subst hg
      unfold World.freeze; split
      · exact ⟨cs, fr, hc, rfl⟩
      · obtain ⟨lo, hi⟩ := fr
        refine ⟨cs, if lo == hi then (o, o + n) else (min lo o, max hi (o + n)), ?_, rfl⟩
        simp only [Array.getElem?_modify, hc, if_true, Option.map_some]
    · exact ⟨cs, fr, by rw [hoth c hg]; exact hc, rfl⟩


theorem CallWP.string (L : Lays.n169 P ρ) (X : Builder.Extra P ρ) (B u : Nat) (hB : B = ρ.t 72) (hu : u = ρ.t 5) (f : Nat) (hf : f = ρ.f 169) (s : List UInt8) (hs63 : s.length ≤ 9223372036854775807) :
    CallWP P f [.ref 0 0 0] [(0, .var B [.bs 0, .full 1]), (1, .row u (numsD s))] (fun q h => q = .d (.str s) ∧ h = []) := by
  subst hB; subst hf; subst hu
  intro Xx O w θ vs h1 h2 h3 h4 h5 hG
  have hlk : look [(0, Ob.var (ρ.t 72) [.bs 0, .full 1]), (1, .row (ρ.t 5) (numsD s))] 0 = some (.var (ρ.t 72) [.bs 0, .full 1]) := rfl
  have hlk1 : look [(0, Ob.var (ρ.t 72) [.bs 0, .full 1]), (1, .row (ρ.t 5) (numsD s))] 1 = some (.row (ρ.t 5) (numsD s)) := rfl
  obtain ⟨l, hθ, hl1, hl2, b, cs, fr, hb, hw, hnf, hsz, hcs⟩ := h3.ob 0 _ hlk
  obtain ⟨l1, hθ1, hz1, hz2, hz3, hrow⟩ := h3.ob 1 _ hlk1
  obtain ⟨u0, hu0, _⟩ := hcs 0 _ rfl
  obtain ⟨u1, hu1, hr1⟩ := hcs 1 _ rfl
  have hz1' : l1.sz = 1 := by rw [hz1, X.cellsByte]
  have hlen : l1.len = s.length := by rw [hz2]; simp [numsD]
  have hcs2 : cs = #[u0, u1] := by
    match cs, hsz, hu0, hu1 with
    | ⟨[x, y]⟩, _, a, b => simp at a b; simp [a, b]
    | ⟨[]⟩, h, _, _ => simp at h
    | ⟨[_]⟩, h, _, _ => simp at h
    | ⟨_ :: _ :: _ :: _⟩, h, _, _ => simp at h
  have hv : vs = #[.pointer (some ⟨b, 0, none⟩)] := by
    have := h2 0 _ rfl
    cases hv : vs.getD 0 undef with
    | pointer a =>
      rw [hv] at this
      cases this with
      | ref _ _ _ l' hθ' b' hb' =>
        rw [hθ] at hθ'; cases hθ'
        rw [hb] at hb'; cases hb'
        rw [hl1, hl2] at hv
        match vs, h1, hv with
        | ⟨[y]⟩, _, hv => simp at hv; simp [hv]
        | ⟨[]⟩, h, _ => simp at h
        | ⟨_ :: _ :: _⟩, h, _ => simp at h
    | _ => rw [hv] at this; cases this
  subst hv; subst hcs2
  have fin : ∀ {w' : World} {e : Ending}, e = .returned (.string ⟨s.toArray⟩) → Kp O w w' → ∃ v r h' θ', e = .returned v ∧ (r = .d (.str s) ∧ h' = []) ∧ (∀ id l, θ id = some l → θ' id = some l) ∧ RepT w' (Nn Xx θ' h') θ' v r ∧ HpS P Xx O w.heap.size θ' h' w' ∧ Kp O w w' := fun he hk =>
    ⟨_, .d (.str s), [], θ, he, ⟨rfl, rfl⟩, fun _ _ h => h, .d (.str s), ⟨fun _ _ h => by simp [look] at h, fun _ _ _ _ _ _ _ h => by simp [look] at h, fun _ _ _ _ h => by simp [look] at h⟩, hk⟩
  cases hr1 with
  | full0 _ l' hθ' h0 =>
    rw [hθ1] at hθ'; cases hθ'
    obtain rfl : s = [] := List.eq_nil_of_length_eq_zero (by omega)
    refine (str_none L X b 0 u0 none none fr w w.drew hw rfl ?_).mono fun e w' ⟨he, hw'⟩ => fin he (hw' ▸ kp_drew O w)
    have : w.drew.heap[b]? = _ := hw
    rw [Lib.cell_of_heap this]; rfl
  | full _ l' hθ' g cap hg hcap hroom ad hab hsp hoff =>
    rw [hθ1] at hθ'; cases hθ'
    obtain ⟨adb, ado, adsp⟩ := ad
    simp only at hab hsp hoff
    subst hab; subst hsp
    rw [hg] at hrow
    obtain ⟨cur, fr', hg1, hnf', hin, hrows⟩ := hrow
    obtain ⟨k1, k2, k3⟩ := h3.rng 1 _ l1 adb hlk1 hθ1 hg
    rw [hlen] at hcap
    by_cases hs0 : s = []
    · subst hs0
      rw [hlen] at hw
      by_cases hc0 : cap = 0
      · subst hc0
        have hSD := Lib.run_unsafeSliceData_zero (P := P) w.drew #[ρ.t 37] (ρ.t 127) (ρ.t 5) L.t127 ⟨adb, ado, none⟩ 0 ((ρ.t 5), cur.size) (by have hg' : w.drew.heap[adb]? = some (.cells cur (ρ.t 5) fr') := hg1; simp [World.shape?, hg'])
        have hlt : b < w.heap.size := (h3.rng 0 _ l b hlk hθ hb).1
        refine (str_none L X b 0 u0 _ _ fr w _ hw hSD ?_).mono fun e w' ⟨he, hw'⟩ => fin he (hw' ▸ (kp_drew O w).trans (Kp.alloc _ _))
        have : (w.drew.alloc (.view ⟨adb, ado, none⟩ (ρ.t 5))).heap[b]? = _ := (Lib.alloc_old w.drew _ b hlt).trans hw
        rw [Lib.cell_of_heap this]; rfl
      · have hSD := Lib.run_unsafeSliceData_row (P := P) w.drew #[ρ.t 37] (ρ.t 127) ⟨adb, ado, none⟩ 0 cap hc0
        refine (str_none L X b cap u0 _ _ fr w _ hw hSD ?_).mono fun e w' ⟨he, hw'⟩ => fin he (hw' ▸ kp_drew O w)
        have : w.drew.heap[b]? = _ := hw
        rw [Lib.cell_of_heap this]; rfl
    · have hc0 : cap ≠ 0 := by have : s.length ≠ 0 := by simpa using hs0
                               omega
      obtain rfl := hoff hc0
      rw [hlen] at hw
      refine (str_full L X b adb l1.o0 cap u0 s cur fr fr' w hs0 hcap hs63 hw hg1 (by rw [hz1'] at hin; simpa [numsD] using hin) (fun j x hx => ?_)).mono fun e w' ⟨he, hw'⟩ => fin he (hw' ▸ kp_freeze (kp_drew O w) k3 _ _)
      obtain ⟨v, q1, q2⟩ := hrows j 0 (.int .u8 x.toNat) (by simp [numsD, hx])
      rw [hz1'] at q1
      cases q2
      simpa using q1
end Go.VL
