/- tree.builder's start, walked. -/
import Derived.Test.YtefgchjjnobhjaaDoorBtChars
import Derived.Test.YtefgchjjnobhjaaDoorBtClone
import Derived.StillTailTactics
import Derived.Deep.CutRange
import Derived.Deep.RegionLaw
import Derived.Shelf.RegionOpenPlain
import Derived.Lib.Hide
set_option linter.unusedVariables false
set_option linter.unusedSimpArgs false
namespace Go.VL.BtStart
open Go Go.Proofs Go.VL Go.RowKit Go.VL.BtA Go.VL.BtFind Go.VL.BtB Go.VL.BtChars Go.VL.BtClone
set_option maxRecDepth 100000
/-- Between two statements. -/
structure Sx (w : World) (bb bt : Nat) (Q : List Rec) (s : List Nat) (c : Int) (mute : Str) (tc : Array Value) (wx : World) : Prop where
  b : ∃ vs, Bt w bb Q s vs c mute wx
  box : wx.heap[bt]? = some (.cells tc 39 (0, 0))
section
variable {w W W' : World} {bb bt : Nat} {Q : List Rec} {s : List Nat} {vs : Value} {c : Int} {mute : Str} {tc : Array Value}
theorem Sx.below (h : Sx w bb bt Q s c mute tc W) (hb : Below W.heap.size W W') : Sx w bb bt Q s c mute tc W' := by
  obtain ⟨vs, h1⟩ := h.b
  exact ⟨⟨vs, h1.below hb⟩, (hb.block _ (lt_of h.box)).trans h.box⟩
theorem Sx.drew (h : Sx w bb bt Q s c mute tc W) : Sx w bb bt Q s c mute tc W.drew := h.below ⟨rfl, rfl, rfl, Nat.le_refl _, fun _ _ => rfl⟩
theorem Sx.drewN (h : Sx w bb bt Q s c mute tc W) (n : Nat) : Sx w bb bt Q s c mute tc (W.drewN n) := h.below ⟨rfl, rfl, rfl, Nat.le_refl _, fun _ _ => rfl⟩
theorem Sx.find (h : Sx w bb bt Q s c mute tc W) (nm : Str) : Calls Tryd.prog 9 #[.pointer (some ⟨bb, 0, none⟩), .string ⟨nm.toArray⟩] W fun e W' => e = .returned (.int .i64 ((fnd (esQ Q) nm s : Nat) : Int)) ∧ W' = W := by
  obtain ⟨vs, h1⟩ := h.b
  exact find_raw h1 nm
theorem fnd_le (es : List Ent) (nm : Str) (s : List Nat) : fnd es nm s ≤ s.length := fx_le es nm s _
theorem Sx.close (h : Sx w bb bt Q s c mute tc W) (nm : Str) : Calls Tryd.prog 8 #[.pointer (some ⟨bb, 0, none⟩), .int .i64 ((fnd (esQ Q) nm s : Nat) : Int)] W fun e W' => e = .returned (.tuple #[]) ∧ Sx w bb bt Q (pclose s (fnd (esQ Q) nm s)) c mute tc W' := by
  obtain ⟨vs, h1⟩ := h.b
  have := fnd_le (esQ Q) nm s
  refine (close_raw h1 _ (by omega)).mono fun e W' ⟨k1, k2, k3⟩ => ⟨k1, k2, keepO k3 h.box (fun e => by cases e; exact typ_ne h1.bld h.box (by decide) rfl)⟩
theorem _root_.Go.VL.BtA.Bt.bldK (h : Bt w bb Q s vs c mute W) {o : Obj} (hg : (W.alloc o).grownBy W' vs.ownBlock) : W'.heap[bb]? = some (.cells #[ptrQ Q 0, vs, .int .i64 c, strV mute] 36 (0, 0)) :=
  keepO hg (h.alloc o).bld (fun e => by
    obtain ⟨cs2, h2⟩ := own_typ (h.alloc o).stk e
    exact typ_ne (h.alloc o).bld h2 (by decide) rfl)
/-- One more, that lies there. -/
theorem _root_.Go.VL.BtA.Bt.newAt (hB : Bt w bb Q s vs c mute W) {k m : Nat} {ra n : Rec} (hra : Q[k]? = some ra) (hka : 1 ≤ k → ra.e.tx = false) (hQ : Q.length ≤ 151) {W3 : World} {g cap2 : Nat} {v : Value} (hm : (kidV Q k).length = m) (hvp : ra.vp = v)
    (hp : n.e.par = (k : Int) - 1) (hne : (n.e.tx = true → n.e.name = [] ∧ n.e.attrs = []) ∧ (n.e.tx = false → n.e.text = [])) (hvn : n.vp = .slice none 0 0) (hno : W.heap[n.o]? = some (.cells #[npV n, .slice none 0 0, strV n.e.text, .bool (!n.e.tx)] 34 (0, 0))) (hnl : w.heap.size ≤ n.o) (hnf : ∀ (j : Nat) (r : Rec), Q[j]? = some r → r.o ≠ n.o)
    (hnn : n.e.tx = false → W.heap[n.nb]? = some (.cells #[strV n.e.name, n.va, strV [], .slice none 0 0] 47 (0, 0)) ∧ W.ownsRow w.heap.size 59 2 n.va n.e.attrs.length (acs n.e.attrs))
    (hr : W3.ownsRow w.heap.size 30 1 (.slice (some ⟨g, 0, none⟩) (m + 1) cap2) (m + 1) (kidV Q k ++ [.pointer (some ⟨n.o, 0, none⟩)]))
    (hg : (W.alloc (.cells #[.pointer (some ⟨n.o, 0, none⟩)] 30)).grownBy W3 v.ownBlock)
    (hor : v.ownBlock = some g ∨ g = W.heap.size + 1) :
    (W3.cell? ⟨ra.o, 1, none⟩ = some v ∧ W3.frozen? ⟨ra.o, 1, none⟩ = false) ∧ ∃ Q', esQ Q' = esQ Q ++ [n.e] ∧ Q'.length = Q.length + 1 ∧ ptrQ Q' Q.length = .pointer (some ⟨n.o, 0, none⟩) ∧ Bt w bb Q' s vs c mute (W3.setCell ⟨ra.o, 1, none⟩ (.slice (some ⟨g, 0, none⟩) (m + 1) cap2)) ∧
      ∀ {b : Nat} {cs : Array Value} {t : TypeId} {fr : Nat × Nat}, W.heap[b]? = some (.cells cs t fr) → t ≠ 30 → t ≠ 34 → (W3.setCell ⟨ra.o, 1, none⟩ (.slice (some ⟨g, 0, none⟩) (m + 1) cap2)).heap[b]? = some (.cells cs t fr) := by
  subst hm hvp
  have hrk := (hB.alloc (.cells #[.pointer (some ⟨n.o, 0, none⟩)] 30)).rk k ra hra
  have ho : W3.heap[ra.o]? = _ := keepO hg hrk.o (fun e => by
    obtain ⟨cs, h2⟩ := own_typ hrk.row e
    exact typ_ne hrk.o h2 (by decide) rfl)
  refine ⟨⟨by simp [World.cell?, ho], by simp [World.frozen?, ho]⟩, Q.set k { ra with vp := .slice (some ⟨g, 0, none⟩) ((kidV Q k).length + 1) cap2 } ++ [n], esQ_more (ra' := { ra with vp := .slice (some ⟨g, 0, none⟩) ((kidV Q k).length + 1) cap2 }) hra rfl, by simp, ptrQ_new, ?_, fun {b cs t fr} hb t1 t2 => ?_⟩
  rotate_left
  · have hb2 : (W.alloc (.cells #[.pointer (some ⟨n.o, 0, none⟩)] 30)).heap[b]? = _ := (Below.heap_alloc W _ b (lt_of hb)).trans hb
    have h3 := keepO hg hb2 (fun e => by
      obtain ⟨cs2, h2⟩ := own_typ hrk.row e
      exact typ_ne hb2 h2 t1 rfl)
    exact keepO (setCell_grown W3 _ _) h3 (fun e => by cases e; exact typ_ne h3 ho t2 rfl)
  refine hB.part (o := .cells #[.pointer (some ⟨n.o, 0, none⟩)] 30) hra hp hka hne hQ hvn hno hnl hnf hnn hr hg ?_
  rcases hor with h2 | h2
  · exact .inl h2.symm
  · exact .inr ⟨g, rfl, by rw [h2]; omega⟩
theorem own_form {base size n : Nat} {e : TypeId} {v : Value} {xs : List Value} (h : W.ownsRow base e size v n xs) : ∃ a cap, v = .slice a n cap := by
  rcases h.2 with ⟨rfl, rfl⟩ | ⟨g, cap, cur, rfl, _⟩
  · exact ⟨none, 0, rfl⟩
  · exact ⟨_, _, rfl⟩
/-- An element lies there, in no list yet. -/
structure Nw (w : World) (Q : List Rec) (t : TokT) (o nb : Nat) (va : Value) (wx : World) : Prop where
  oc : wx.heap[o]? = some (.cells #[.pointer (some ⟨nb, 0, none⟩), .slice none 0 0, .string ⟨#[]⟩, .bool true] 34 (0, 0))
  nc : wx.heap[nb]? = some (.cells #[.string ⟨t.name.toArray⟩, va, .string ⟨#[]⟩, .slice none 0 0] 47 (0, 0))
  row : wx.ownsRow w.heap.size 59 2 va t.attrs.length (acs t.attrs)
  lo : w.heap.size ≤ o
  new : ∀ (j : Nat) (r : Rec), Q[j]? = some r → r.o ≠ o
theorem Nw.below {t : TokT} {o nb : Nat} {va : Value} (h : Nw w Q t o nb va W) (hb : Below W.heap.size W W') : Nw w Q t o nb va W' :=
  ⟨(hb.block _ (lt_of h.oc)).trans h.oc, (hb.block _ (lt_of h.nc)).trans h.nc, h.row.kept (grown_of_below hb none) (by cases va.ownBlock <;> simp), h.lo, h.new⟩
theorem nw_new {t : TokT} {va : Value} (hS : Sx w bb bt Q s c mute tc W) (hr : W.ownsRow w.heap.size 59 2 va t.attrs.length (acs t.attrs)) :
    Sx w bb bt Q s c mute tc ((W.alloc (.cells #[.string ⟨t.name.toArray⟩, va, .string ⟨#[]⟩, .slice none 0 0] 47)).alloc (.cells #[.pointer (some ⟨W.heap.size, 0, none⟩), .slice none 0 0, .string ⟨#[]⟩, .bool true] 34)) ∧
    Nw w Q t (W.heap.size + 1) W.heap.size va ((W.alloc (.cells #[.string ⟨t.name.toArray⟩, va, .string ⟨#[]⟩, .slice none 0 0] 47)).alloc (.cells #[.pointer (some ⟨W.heap.size, 0, none⟩), .slice none 0 0, .string ⟨#[]⟩, .bool true] 34)) := by
  obtain ⟨vs, hB⟩ := hS.b
  have hb : Below W.heap.size W ((W.alloc (.cells #[.string ⟨t.name.toArray⟩, va, .string ⟨#[]⟩, .slice none 0 0] 47)).alloc (.cells #[.pointer (some ⟨W.heap.size, 0, none⟩), .slice none 0 0, .string ⟨#[]⟩, .bool true] 34)) := ((Below.refl _ W).alloc (Nat.le_refl _) _).alloc (by simp) _
  have hsz := hB.bel.size
  refine ⟨hS.below hb, ?_, (Below.heap_alloc _ _ _ (by simp)).trans (World.alloc_heap_new W _), (hr.alloc _).alloc _, by omega, fun j r hj e => ?_⟩
  · have := World.alloc_heap_new (W.alloc (.cells #[.string ⟨t.name.toArray⟩, va, .string ⟨#[]⟩, .slice none 0 0] 47)) (.cells #[.pointer (some ⟨W.heap.size, 0, none⟩), .slice none 0 0, .string ⟨#[]⟩, .bool true] 34)
    rwa [World.size_alloc] at this
  · have := lt_of (hB.rk j r hj).o
    omega
def tcV (t : TokT) (av : Value) : Array Value := #[.int .i64 t.kind, .string ⟨t.name.toArray⟩, av, .bool t.self, .string ⟨t.text.toArray⟩]
set_option maxHeartbeats 1000000 in
theorem start_raw (h : Bt w bb Q s vs ((Q.length : Int) - 1) mute W) (hQ : Q.length ≤ 151) (t : TokT) (av : Value) (hat : AtA w av t.attrs) (hal : t.attrs.length < 2 ^ 40)
    (hcb : ∀ (W : World) (nm : Str), Below w.heap.size w W → Calls Tryd.prog 18 #[.slice (some ⟨0, 0, none⟩) 9 9, .string ⟨nm.toArray⟩] W fun e W' => e = .returned (.bool (decide (nm ∈ blocksN))) ∧ Below W.heap.size W W')
    (hcv : ∀ (W : World) (nm : Str), Below w.heap.size w W → Calls Tryd.prog 18 #[.slice (some ⟨1, 0, none⟩) 4 4, .string ⟨nm.toArray⟩] W fun e W' => e = .returned (.bool (decide (nm ∈ voidsN))) ∧ Below W.heap.size W W') :
    Calls Tryd.prog 7 #[.pointer (some ⟨bb, 0, none⟩), .agg (tcV t av)] W fun e W' => e = .returned (.tuple #[]) ∧ ∃ Q' vs', esQ Q' = (pstart (esQ Q) s t).1 ∧ Bt w bb Q' (pstart (esQ Q) s t).2.1 vs' ((Q'.length : Int) - 1) (pstart (esQ Q) s t).2.2 W' := by
  have hS0 : Sx w bb W.heap.size Q s ((Q.length : Int) - 1) mute (tcV t av) (W.alloc (.cells (tcV t av) 39)) := ⟨⟨vs, h.alloc _⟩, World.alloc_heap_new W _⟩
  have hne : bb ≠ W.heap.size := by have := lt_of h.bld; omega
  have hS1 : Sx w bb W.heap.size Q s ((Q.length : Int) - 1) [] (tcV t av) ((W.alloc (.cells (tcV t av) 39)).setCell ⟨bb, 3, none⟩ (strV [])) :=
    ⟨⟨vs, (h.alloc _).setMute []⟩, keepO (setCell_grown _ _ _) hS0.box (fun e => by cases e; exact hne rfl)⟩
  have m3 : (W.alloc (.cells (tcV t av) 39)).cell? ⟨bb, 3, none⟩ = some (strV mute) := (h.alloc _).b3
  have m4 : (W.alloc (.cells (tcV t av) 39)).frozen? ⟨bb, 3, none⟩ = false := (h.alloc _).bf 3
  simp only [tcV, strV] at m3 m4 hS1
  unfold tcV
  go_enter Tryd.func7, Tryd.ntmps7
  go_upto_region 2 with fail
  obtain ⟨W1, hW1⟩ : ∃ W1, (W.alloc (.cells #[.int .i64 t.kind, .string ⟨t.name.toArray⟩, av, .bool t.self, .string ⟨t.text.toArray⟩] 39)).setCell ⟨bb, 3, none⟩ (.string ⟨#[]⟩) = W1 := ⟨_, rfl⟩
  have hS1 : Sx w bb W.heap.size Q s ((Q.length : Int) - 1) [] (tcV t av) W1 := by rw [← hW1]; exact hS1
  rw [hW1]
  obtain ⟨bt, hbt⟩ : ∃ bt, W.heap.size = bt := ⟨_, rfl⟩
  rw [hbt] at hS1 ⊢
  clear hW1 m3 m4 hS0 h hne
  have nameC : ∀ {wx : World} {s2 : List Nat} {mu : Str}, Sx w bb bt Q s2 ((Q.length : Int) - 1) mu (tcV t av) wx → wx.cell? ⟨bt, 1, none⟩ = some (.string ⟨t.name.toArray⟩) := fun hx => by simp [World.cell?, hx.box, tcV]
  have selfC : ∀ {wx : World} {s2 : List Nat} {mu : Str}, Sx w bb bt Q s2 ((Q.length : Int) - 1) mu (tcV t av) wx → wx.cell? ⟨bt, 3, none⟩ = some (.bool t.self) := fun hx => by simp [World.cell?, hx.box, tcV]
  have attrC : ∀ {wx : World} {s2 : List Nat} {mu : Str}, Sx w bb bt Q s2 ((Q.length : Int) - 1) mu (tcV t av) wx → wx.cell? ⟨bt, 2, none⟩ = some av := fun hx => by simp [World.cell?, hx.box, tcV]
  go_cut [1, 13] from 10 to 13 (fun _ v wx => v = .bool (decide (t.name ∈ blocksN)) ∧ Sx w bb bt Q s ((Q.length : Int) - 1) [] (tcV t av) wx)
  case first =>
    have n1 := nameC hS1
    go_still_tail 3, (by kernel_rfl)
    change wpList _ _ _ _ _ W1.drew
    have hS2 := hS1.drew
    go_wp2_with (refine (hcb _ _ (by obtain ⟨vs2, h2⟩ := hS2.b; exact h2.bel)).mono ?_; rintro e W2 ⟨rfl, hb2⟩)
    go_meet
    exact ⟨rfl, hS2.below hb2⟩
  case rest =>
    obtain ⟨rfl, hS1⟩ := hcut
    go_upto_if 13 with fail
    go_cut [] from 13 to 17 (fun wx => Sx w bb bt Q (ps1 (esQ Q) s t.name) ((Q.length : Int) - 1) [] (tcV t av) wx)
    case first =>
      by_cases hb : t.name ∈ blocksN
      · have e : ps1 (esQ Q) s t.name = pclose s (fnd (esQ Q) sP s) := by unfold ps1; rw [if_pos hb]
        have c1 := hS1.find [112]
        have c2 := hS1.close [112]
        go_wp2_with (first | (go_at_call 9; refine c1.mono ?_; rintro e W2 ⟨rfl, rfl⟩) | (go_at_call 8; refine c2.mono ?_; rintro e W2 ⟨rfl, hS2⟩))
        go_meet
        rw [e]; exact hS2
      · have e : ps1 (esQ Q) s t.name = s := by unfold ps1; rw [if_neg hb]
        go_wp2_with fail
        go_meet
        rw [e]; exact hS1
    case rest =>
      obtain ⟨s1, hs1⟩ : ∃ s1, ps1 (esQ Q) s t.name = s1 := ⟨_, rfl⟩
      have hS2 := hcut
      rw [hs1] at hS2
      clear hcut hS1 hcb
      have c1 := hS2.find [108, 105]
      go_upto_region 5 with (go_at_call 9; refine c1.mono ?_; rintro e W2 ⟨rfl, rfl⟩)
      go_cut [34] from 20 to 34 (fun v wx => v = .bool (decide (t.name = sLi ∧ fnd (esQ Q) sLi s1 > fnd (esQ Q) sUl s1 ∧ fnd (esQ Q) sLi s1 > fnd (esQ Q) sOl s1)) ∧ Sx w bb bt Q s1 ((Q.length : Int) - 1) [] (tcV t av) wx)
      case first =>
        have n1 := nameC hS2
        have c2 : Calls Tryd.prog 9 #[.pointer (some ⟨bb, 0, none⟩), .string ⟨#[117, 108]⟩] _ _ := hS2.find [117, 108]
        have c3 : Calls Tryd.prog 9 #[.pointer (some ⟨bb, 0, none⟩), .string ⟨#[111, 108]⟩] _ _ := hS2.find [111, 108]
        by_cases h1b : (t.name == [108, 105]) = true
        · by_cases h2 : fnd (esQ Q) [108, 105] s1 > fnd (esQ Q) [117, 108] s1
          · have h2i : ((fnd (esQ Q) [117, 108] s1 : Nat) : Int) < ((fnd (esQ Q) [108, 105] s1 : Nat) : Int) := by omega
            by_cases h3 : fnd (esQ Q) [108, 105] s1 > fnd (esQ Q) [111, 108] s1
            · have h3i : ((fnd (esQ Q) [111, 108] s1 : Nat) : Int) < ((fnd (esQ Q) [108, 105] s1 : Nat) : Int) := by omega
              go_wp2_with (first | (go_at_call_of 9 (Value.string ⟨#[117, 108]⟩); refine c2.mono ?_; rintro e W3 ⟨rfl, rfl⟩) | (go_at_call_of 9 (Value.string ⟨#[111, 108]⟩); refine c3.mono ?_; rintro e W3 ⟨rfl, rfl⟩))
              go_meet
              exact ⟨congrArg Value.bool (decide_eq_true ⟨show t.name = [108, 105] by simpa using h1b, h2, h3⟩).symm, hS2⟩
            · have h3i : ¬ ((fnd (esQ Q) [111, 108] s1 : Nat) : Int) < ((fnd (esQ Q) [108, 105] s1 : Nat) : Int) := by omega
              go_wp2_with (first | (go_at_call_of 9 (Value.string ⟨#[117, 108]⟩); refine c2.mono ?_; rintro e W3 ⟨rfl, rfl⟩) | (go_at_call_of 9 (Value.string ⟨#[111, 108]⟩); refine c3.mono ?_; rintro e W3 ⟨rfl, rfl⟩))
              go_meet
              exact ⟨congrArg Value.bool (decide_eq_false (fun hx => h3 hx.2.2)).symm, hS2⟩
          · have h2i : ¬ ((fnd (esQ Q) [117, 108] s1 : Nat) : Int) < ((fnd (esQ Q) [108, 105] s1 : Nat) : Int) := by omega
            go_wp2_with (first | (go_at_call_of 9 (Value.string ⟨#[117, 108]⟩); refine c2.mono ?_; rintro e W3 ⟨rfl, rfl⟩) | (go_at_call_of 9 (Value.string ⟨#[111, 108]⟩); refine c3.mono ?_; rintro e W3 ⟨rfl, rfl⟩))
            go_meet
            exact ⟨congrArg Value.bool (decide_eq_false (fun hx => h2 hx.2.1)).symm, hS2⟩
        · have h1c : (t.name == [108, 105]) = false := by simpa using h1b
          go_wp2_with fail
          go_meet
          exact ⟨congrArg Value.bool (decide_eq_false (fun hx => h1b (by simpa [sLi] using hx.1))).symm, hS2⟩
      case rest =>
        obtain ⟨rfl, hS3⟩ := hcut
        go_upto_if 34 with fail
        go_cut [] from 34 to 37 (fun wx => Sx w bb bt Q (ps2 (esQ Q) s1 t.name) ((Q.length : Int) - 1) [] (tcV t av) wx)
        case first =>
          by_cases hb : t.name = sLi ∧ fnd (esQ Q) sLi s1 > fnd (esQ Q) sUl s1 ∧ fnd (esQ Q) sLi s1 > fnd (esQ Q) sOl s1
          · have e : ps2 (esQ Q) s1 t.name = pclose s1 (fnd (esQ Q) sLi s1) := by unfold ps2; rw [if_pos hb]
            have hd := decide_eq_true hb
            rw [hd]
            clear hd hb
            have c2 := hS3.close [108, 105]
            go_wp2_with (go_at_call 8; refine c2.mono ?_; rintro e W2 ⟨rfl, hS4⟩)
            go_meet
            rw [e]; exact hS4
          · have e : ps2 (esQ Q) s1 t.name = s1 := by unfold ps2; rw [if_neg hb]
            have hd := decide_eq_false hb
            rw [hd]
            clear hd hb
            go_wp2_with fail
            go_meet
            rw [e]; exact hS3
        case rest =>
          obtain ⟨s2, hs2⟩ : ∃ s2, ps2 (esQ Q) s1 t.name = s2 := ⟨_, rfl⟩
          have hS4 := hcut
          rw [hs2] at hS4
          clear hcut hS3 c1
          obtain ⟨⟨vs2, hB⟩, hbox⟩ := id hS4
          obtain ⟨g, cap, rfl, hcap⟩ := hB.form
          have d1 := hB.b1
          have hpst : pstart (esQ Q) s t = if s2.length + 1 > 10 then (esQ Q, s2, if t.self = false ∧ (t.name = sScript ∨ t.name = sStyle) then t.name else [])
              else (esQ Q ++ [⟨(topS s2 : Int) - 1, t.name, t.attrs, [], false⟩], if t.self = false ∧ t.name ∉ voidsN then s2 ++ [(esQ Q).length + 1] else s2, []) := by
            simp only [pstart, hs1, hs2]
          have n1 := nameC hS4
          have sc := selfC hS4
          by_cases hd : s2.length + 1 > 10
          · have hdi : (10 : Int) < ((s2.length + 1 : Nat) : Int) := by omega
            rw [if_pos hd] at hpst
            have m1 := hB.b3
            unfold strV at m1
            have m2 := hB.bf 3
            cases hself : t.self with
            | true =>
              rw [hself] at sc
              go_wp2_with fail
              exact bodyPost_ret (results_none rfl _ _ _) rfl ⟨rfl, Q, _, by rw [hpst], by rw [hpst]; simpa [hself] using hB⟩
            | false =>
              rw [hself] at sc
              by_cases k1 : (t.name == [115, 99, 114, 105, 112, 116]) = true
              · have e1 : t.name = sScript := by simpa [sScript] using k1
                have e2 := hB.setMute t.name
                have e3 : (if t.self = false ∧ (t.name = sScript ∨ t.name = sStyle) then t.name else []) = t.name := if_pos ⟨hself, .inl e1⟩
                rw [e3] at hpst
                clear e1 e3
                go_wp2_with fail
                exact bodyPost_ret (results_none rfl _ _ _) rfl ⟨rfl, Q, _, by rw [hpst], by rw [hpst]; exact e2⟩
              · have k1c : (t.name == [115, 99, 114, 105, 112, 116]) = false := by simpa using k1
                by_cases k2 : (t.name == [115, 116, 121, 108, 101]) = true
                · have e1 : t.name = sStyle := by simpa [sStyle] using k2
                  have e2 := hB.setMute t.name
                  have e3 : (if t.self = false ∧ (t.name = sScript ∨ t.name = sStyle) then t.name else []) = t.name := if_pos ⟨hself, .inr e1⟩
                  rw [e3] at hpst
                  clear e1 e3
                  go_wp2_with fail
                  exact bodyPost_ret (results_none rfl _ _ _) rfl ⟨rfl, Q, _, by rw [hpst], by rw [hpst]; exact e2⟩
                · have k2c : (t.name == [115, 116, 121, 108, 101]) = false := by simpa using k2
                  have e3 : (if t.self = false ∧ (t.name = sScript ∨ t.name = sStyle) then t.name else []) = [] := if_neg (fun hx => by
                    rcases hx.2 with hx | hx
                    · exact k1 (by rw [hx]; rfl)
                    · exact k2 (by rw [hx]; rfl))
                  rw [e3] at hpst
                  go_wp2_with fail
                  exact bodyPost_ret (results_none rfl _ _ _) rfl ⟨rfl, Q, _, by rw [hpst], by rw [hpst]; exact hB⟩
          · have hdi : ¬ (10 : Int) < ((s2.length + 1 : Nat) : Int) := by omega
            rw [if_neg hd] at hpst
            go_upto_region 10 with fail
            have a1 := attrC hS4
            go_cut [5] from 62 to 70 (fun v wx => ∃ o nb va, v = .pointer (some ⟨o, 0, none⟩) ∧ Sx w bb bt Q s2 ((Q.length : Int) - 1) [] (tcV t av) wx ∧ Nw w Q t o nb va wx)
            case first =>
              have hS5 := hS4.drew
              have hat5 : AtA wc.drew av t.attrs := by obtain ⟨vs5, h5⟩ := hS5.b; exact hat.below h5.bel
              have hn5 : w.heap.size ≤ wc.drew.heap.size := by obtain ⟨vs5, h5⟩ := hS5.b; exact h5.bel.size
              have hcl := clone_raw hn5 hal hat5
              have nm5 : ∀ {W5 : World}, Below wc.drew.heap.size wc.drew W5 → W5.cell? ⟨bt, 1, none⟩ = some (.string ⟨t.name.toArray⟩) := fun hb => nameC (hS5.below hb)
              go_region_law (first
                | (go_simp; refine hcl.mono ?_; rintro e W5 ⟨u, rfl, hb5, hrow5⟩; obtain ⟨a5, cap5, rfl⟩ := own_form hrow5; have hk5 := nm5 hb5))
              all_goals (go_wp2_with fail; go_meet)
              all_goals exact ⟨_, _, _, rfl, (nw_new (hS5.below hb5) hrow5).1, (nw_new (hS5.below hb5) hrow5).2⟩
            case rest =>
              obtain ⟨o, nb, va, rfl, hS5, hN⟩ := hcut
              clear hS4 hbox hB d1 n1 sc a1
              obtain ⟨vs5, hB5⟩ := hS5.b
              obtain ⟨ra, hra, hc⟩ := hB5.top
              have hka : 1 ≤ topS s2 → ra.e.tx = false := fun h2 => by rcases hc with ⟨h0, _⟩ | ⟨_, ht, _⟩; omega; exact ht
              have hl := last_raw hB5
              rw [ptrQ_at hra] at hl
              obtain ⟨a, cap6, hvp⟩ := vp_form (hB5.rk _ ra hra).row
              have hkl := kidV_len hB5 (k := topS s2)
              have hcn := cnt (n := Q.length) (by omega)
              obtain ⟨m, hm⟩ : ∃ m, (kidV Q (topS s2)).length = m := ⟨_, rfl⟩
              rw [hm] at hvp hkl
              have hrow : ∀ {W2 : World}, Bt w bb Q s2 vs5 ((Q.length : Int) - 1) [] W2 → W2.ownsRow w.heap.size 30 1 (.slice a m cap6) m (kidV Q (topS s2)) := fun hB => by
                have := (hB.rk _ ra hra).row
                rw [hm, hvp] at this
                exact this
              have hnew : ∀ {W6 W3 : World} {g2 cap2 : Nat}, Bt w bb Q s2 vs5 ((Q.length : Int) - 1) [] W6 → Nw w Q t o nb va W6 → W3.ownsRow w.heap.size 30 1 (.slice (some ⟨g2, 0, none⟩) (m + 1) cap2) (m + 1) (kidV Q (topS s2) ++ [.pointer (some ⟨o, 0, none⟩)]) →
                  (W6.alloc (.cells #[.pointer (some ⟨o, 0, none⟩)] 30)).grownBy W3 (Value.slice a m cap6).ownBlock → ((Value.slice a m cap6).ownBlock = some g2 ∨ g2 = W6.heap.size + 1) → _ := fun {W6 W3 g2 cap2} q1 q2 q3 q4 q5 =>
                q1.newAt (n := { o := o, vp := .slice none 0 0, nb := nb, va := va, e := ⟨(topS s2 : Int) - 1, t.name, t.attrs, [], false⟩ }) hra hka hQ hm hvp rfl ⟨fun h => (by cases h), fun _ => rfl⟩ rfl q2.oc q2.lo q2.new (fun _ => ⟨q2.nc, q2.row⟩) q3 q4 q5
              go_upto_region 14 with (first
                | (go_at_call 20; refine hl.mono ?_; rintro e W6 ⟨rfl, hB6, hb6⟩; have hrk := hB6.rk _ ra hra; have d1 : W6.cell? ⟨ra.o, 1, none⟩ = some (.slice a m cap6) := (by simp [World.cell?, hrk.o, hvp]))
                | (at_builtin; go_loud (refine app_o rfl _ _ rfl (hrow hB6) rfl _ rfl rfl rfl (by omega) hB6.bel.size ?_); intro g2 cap2 W3 hown' hgrow hor; obtain ⟨⟨f1, f2⟩, Q', q1, q2, q3, hP, hkeep⟩ := hnew hB6 (hN.below hb6) hown' hgrow hor; have p1 := hP.b2; have p2 := hP.bf 2))
              have hS7 : Sx w bb bt Q' s2 (Q.length : Int) [] (tcV t av) ((W3.setCell ⟨ra.o, 1, none⟩ (.slice (some ⟨g2, 0, none⟩) (m + 1) cap2)).setCell ⟨bb, 2, none⟩ (.int .i64 (Q.length : Int))) := by
                have hbx := hkeep (hS5.below hb6).box (by decide) (by decide)
                exact ⟨⟨vs5, hP.setCount _⟩, keepO (setCell_grown _ _ _) hbx (fun e => by cases e; exact typ_ne hP.bld hbx (by decide) rfl)⟩
              revert hS7
              generalize (W3.setCell ⟨ra.o, 1, none⟩ (.slice (some ⟨g2, 0, none⟩) (m + 1) cap2)).setCell ⟨bb, 2, none⟩ (.int .i64 (Q.length : Int)) = W7
              intro hS7
              clear hP p1 p2 hkeep f1 f2 hown' hgrow hor hnew hrow hl
              have nameC7 : ∀ {wx : World}, Sx w bb bt Q' s2 (Q.length : Int) [] (tcV t av) wx → wx.cell? ⟨bt, 1, none⟩ = some (.string ⟨t.name.toArray⟩) := fun hx => by simp [World.cell?, hx.box, tcV]
              have selfC7 : ∀ {wx : World}, Sx w bb bt Q' s2 (Q.length : Int) [] (tcV t av) wx → wx.cell? ⟨bt, 3, none⟩ = some (.bool t.self) := fun hx => by simp [World.cell?, hx.box, tcV]
              go_cut [99] from 90 to 99 (fun v wx => v = .bool (decide (t.self = false ∧ t.name ∉ voidsN)) ∧ Sx w bb bt Q' s2 (Q.length : Int) [] (tcV t av) wx)
              case first =>
                have n7 := nameC7 hS7
                have s7 := selfC7 hS7
                cases hself : t.self with
                | true =>
                  rw [hself] at s7
                  go_quiet (fail)
                  go_wp2
                  go_meet
                  exact ⟨congrArg Value.bool (decide_eq_false (fun hx => by rw [hself] at hx; cases hx.1)).symm, hS7.drewN _⟩
                | false =>
                  rw [hself] at s7
                  go_still_tail 7, (by kernel_rfl)
                  change wpList _ _ _ _ _ W7.drew
                  have hS8 := hS7.drew
                  go_wp2_with (go_at_call 18; refine (hcv _ _ (by obtain ⟨vs2, h2⟩ := hS8.b; exact h2.bel)).mono ?_; rintro e W2 ⟨rfl, hb2⟩)
                  go_meet
                  refine ⟨?_, hS8.below hb2⟩
                  by_cases hx : t.name ∈ voidsN <;> simp [hx, hself]
              case rest =>
                obtain ⟨rfl, hS9⟩ := hcut
                obtain ⟨⟨vs9, hB9⟩, hbox9⟩ := hS9
                obtain ⟨g9, cap9, rfl, hcap9⟩ := hB9.form
                have d9 := hB9.b1
                have f9 := hB9.bf 1
                have hel := esQ_len (Q := Q) (by intro e; rw [e] at hra; cases hra)
                by_cases hv : t.self = false ∧ t.name ∉ voidsN
                · have hd := decide_eq_true hv
                  rw [hd]
                  rw [if_pos hv] at hpst
                  clear hd hv
                  have hrow9 := hB9.stk
                  go_wp2_with (at_builtin; go_loud (refine app_o rfl _ _ rfl hrow9 rfl _ rfl rfl rfl (by omega) hB9.bel.size ?_); intro g3 cap3 W10 hown' hgrow hor; have p0 := hB9.bldK hgrow; have p1 : W10.cell? ⟨bb, 1, none⟩ = some (.slice (some ⟨g9, 0, none⟩) (s2.length + 1) cap9) := (by simp [World.cell?, p0]); have p2 : W10.frozen? ⟨bb, 1, none⟩ = false := (by simp [World.frozen?, p0]))
                  go_end0
                  rw [hpst]
                  have hpush := hB9.push (x := Q.length) (vs' := .slice (some ⟨g3, 0, none⟩) (s2.length + 1 + 1) cap3) (W' := W10) (by omega) ⟨_, by rw [q1, List.getElem?_append_right (by omega), show Q.length - 1 - (esQ Q).length = 0 by omega]; rfl, rfl⟩ (by rw [q3]; exact hown') hgrow (by
                    rcases hor with h2 | h2
                    · exact .inl h2.symm
                    · exact .inr ⟨g3, rfl, by omega⟩) (by omega)
                  refine ⟨rfl, Q', .slice (some ⟨g3, 0, none⟩) (s2.length + 1 + 1) cap3, q1, ?_⟩
                  rw [show ((Q'.length : Int) - 1) = Q.length by omega, show (esQ Q).length + 1 = Q.length from hel]
                  exact hpush
                · have hd := decide_eq_false hv
                  rw [hd]
                  rw [if_neg hv] at hpst
                  clear hd hv
                  go_wp2_with fail
                  go_end0
                  rw [hpst]
                  exact ⟨rfl, Q', _, q1, by rw [show ((Q'.length : Int) - 1) = Q.length by omega]; exact hB9⟩
end
end Go.VL.BtStart
