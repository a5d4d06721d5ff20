/- The state after a step: new objects, changed objects, objects that are given up. -/
import Derived.Test.YtefgchjjnobhjaaDoorVC
set_option linter.unusedVariables false
set_option linter.unusedSimpArgs false
namespace Go.VL
open Go Go.RowKit

variable {P : Program} {X O : Nat → Prop} {w0 w w' : World} {θ θ' : Th} {st : St} {a : Act}

def Th.set (θ : Th) (n : Nat) (l : Lay) : Th := fun i => if i = n then some l else θ i

theorem Th.set_sub {n : Nat} {l : Lay} (h : θ n = none) : Sub θ (θ.set n l) := by
  intro id l' hl
  unfold Th.set
  by_cases he : id = n
  · subst he; rw [h] at hl; cases hl
  · simp [he, hl]

theorem Sat.move {h' : Hp} {n' : Nat} (hs : Sat P X O w0 θ st a w) (he : Ext w (Nn X θ st.h) w' (Nn X θ' h')) (hz : Szp w w') (hθ : Sub θ θ')
    (hp : HpS P X O w0.heap.size θ' h' w') (hf : ∀ id, n' ≤ id → θ' id = none) (hk : Kp O w0 w') : Sat P X O w0 θ' ⟨st.t, h', n', st.nt⟩ a w' :=
  ⟨fun i => (hs.tm i).ext he hz hθ, hp, hf, hs.dfr, hs.nts, hk, hs.xb, hs.gl⟩

theorem Sat.put {d : Nat} {v : Value} {x : T} (hs : Sat P X O w0 θ st a w) (hd : d < st.nt) (hv : RepT w (Nn X θ st.h) θ v x) :
    Sat P X O w0 θ ⟨(d, x) :: st.t, st.h, st.n, st.nt⟩ (a.put (some d) v) w := by
  refine ⟨fun i => ?_, hs.hp, hs.fresh, hs.dfr, by simp [Act.put, hs.nts], hs.kp, hs.xb, hs.gl⟩
  rw [get_cons]
  have h1 : ((a.put (some d) v).tmps.getD i undef) = if d = i then v else a.tmps.getD i undef := by
    simp only [Act.put, Array.getD_eq_getD_getElem?]
    rw [Array.getElem?_setIfInBounds]
    by_cases hdi : d = i
    · subst hdi
      simp [hs.nts, hd]
    · simp [hdi]
  rw [h1]
  by_cases hdi : d = i
  · rw [if_pos hdi, if_pos hdi]; exact hv
  · rw [if_neg hdi, if_neg hdi]; exact hs.tm i

/-- What is left behind an operation. -/
def Post (P : Program) (X O : Nat → Prop) (w0 : World) (θ : Th) (K : St → Prop) (a : Act) (w : World) : Prop :=
  ∃ st θ', Sub θ θ' ∧ Sat P X O w0 θ' st a w ∧ K st

theorem Post.weaken {K : St → Prop} (h : Post P X O w0 θ' K a w) (hθ : Sub θ θ') : Post P X O w0 θ K a w :=
  let ⟨st, θ2, h1, h2, h3⟩ := h
  ⟨st, θ2, hθ.trans h1, h2, h3⟩

theorem putK_post {dst : Option Nat} {x : T} {K : St → Prop} {v : Value} (h : putK dst x K st) (hs : Sat P X O w0 θ st a w) (hv : RepT w (Nn X θ st.h) θ v x) :
    Post P X O w0 θ K (a.put dst v) w := by
  rw [putK_eq] at h
  cases dst with
  | none => exact ⟨st, θ, Sub.refl θ, hs, h⟩
  | some d =>
    simp only at h
    cases hb : Nat.blt d st.nt with
    | false => simp [hb] at h
    | true =>
      simp only [hb] at h
      exact ⟨_, θ, Sub.refl θ, hs.put (Nat.blt_eq.mp hb) hv, h⟩

theorem alloc_heap (w : World) (o : Obj) (b : Nat) : (w.alloc o).heap[b]? = if b = w.heap.size then some o else w.heap[b]? := by
  show (w.heap.push o)[b]? = _
  rw [Array.getElem?_push]

theorem Szp.alloc (w : World) (o : Obj) : Szp w (w.alloc o) := fun b cs e fr hb => by
  refine ⟨cs, fr, ?_, rfl⟩
  rw [alloc_heap]
  have : b ≠ w.heap.size := fun h => by subst h; simp at hb
  simp [this, hb]

theorem Kp.alloc (w : World) (o : Obj) : Kp O w (w.alloc o) :=
  ⟨rfl, rfl, rfl, by simp, fun b hb _ => by rw [alloc_heap, if_neg (by omega)], Szp.alloc w o⟩

theorem Nn_cons {n : Nat} {ob : Ob} {h : Hp} {l : Lay} {b : Nat} (hb : Nn X (θ.set n l) ((n, ob) :: h) b) :
    Nn X θ h b ∨ l.blk = some b := by
  rcases hb with hx | ⟨id, o, l', h1, h2, h3⟩
  · exact .inl (.inl hx)
  · by_cases he : id = n
    · subst he
      simp [Th.set] at h2
      subst h2
      exact .inr h3
    · have hne : ¬ n = id := fun e => he e.symm
      rw [look_cons, if_neg hne] at h1
      simp [Th.set, he] at h2
      exact .inl (.inr ⟨id, o, l', h1, h2, h3⟩)

theorem Ext.alloc {n : Nat} {ob : Ob} {h : Hp} {l : Lay} {o : Obj} (hb : l.blk = some w.heap.size ∨ l.blk = none) :
    Ext w (Nn X θ h) (w.alloc o) (Nn X (θ.set n l) ((n, ob) :: h)) := by
  refine ⟨by simp, fun b hlt hN => ⟨fun hN' => ?_, by rw [alloc_heap, if_neg (by omega)]⟩⟩
  rcases Nn_cons hN' with h1 | h1
  · exact hN h1
  · rcases hb with hb | hb
    · rw [hb] at h1; cases h1; omega
    · rw [hb] at h1; cases h1

theorem HpS.dom {h : Hp} {B : Nat} (hp : HpS P X O B θ h w) : ∀ id o, look h id = some o → ∃ l, θ id = some l := fun id o ho => let ⟨l, h1, _⟩ := hp.ob id o ho; ⟨l, h1⟩

theorem HpS.alloc {n : Nat} {ob : Ob} {h : Hp} {l : Lay} {o : Obj} {B : Nat} (hp : HpS P X O B θ h w) (hn : θ n = none) (hX : ∀ b, X b → b < w.heap.size) (hB : B ≤ w.heap.size)
    (hb : l.blk = some w.heap.size ∨ l.blk = none) (hob : ObS P (w.alloc o) (Nn X (θ.set n l) ((n, ob) :: h)) (θ.set n l) l ob) : HpS P X O B (θ.set n l) ((n, ob) :: h) (w.alloc o) := by
  have hdom := hp.dom
  have hne : ∀ {id o'}, look h id = some o' → id ≠ n := fun {id o'} ho he => by
    obtain ⟨l1, h1⟩ := hdom _ _ ho
    rw [he, hn] at h1; cases h1
  have hset : ∀ {id l'}, id ≠ n → (θ.set n l) id = some l' → θ id = some l' := fun {id l'} hi h2 => by simpa [Th.set, hi] using h2
  refine ⟨fun id ob' hl => ?_, fun id id' ob1 ob2 l1 l2 b h1 h2 h3 h4 h5 h6 => ?_, fun id ob' l' b h1 h2 h3 => ?_⟩
  · rw [look_cons] at hl
    by_cases he : n = id
    · subst he
      simp at hl; subst hl
      exact ⟨l, by simp [Th.set], hob⟩
    · rw [if_neg he] at hl
      obtain ⟨l', k1, k2⟩ := hp.ob id ob' hl
      refine ⟨l', Th.set_sub hn id l' k1, k2.ext (Ext.alloc hb) (Szp.alloc w o) (Th.set_sub hn) (fun b hb' => ?_)⟩
      rw [alloc_heap, if_neg]
      have := (hp.rng id ob' l' b hl k1 hb').1
      omega
  · rw [look_cons] at h1 h2
    by_cases e1 : n = id <;> by_cases e2 : n = id'
    · rw [← e1, ← e2]
    · rw [if_neg e2] at h2
      subst e1
      simp [Th.set] at h3; subst h3
      have k4 := hset (fun e => e2 e.symm) h4
      have := (hp.rng id' ob2 l2 b h2 k4 h6).1
      rcases hb with hb | hb <;> rw [hb] at h5 <;> cases h5
      omega
    · rw [if_neg e1] at h1
      subst e2
      simp [Th.set] at h4; subst h4
      have k3 := hset (fun e => e1 e.symm) h3
      have := (hp.rng id ob1 l1 b h1 k3 h5).1
      rcases hb with hb | hb <;> rw [hb] at h6 <;> cases h6
      omega
    · rw [if_neg e1] at h1
      rw [if_neg e2] at h2
      exact hp.inj id id' ob1 ob2 l1 l2 b h1 h2 (hset (fun e => e1 e.symm) h3) (hset (fun e => e2 e.symm) h4) h5 h6
  · rw [look_cons] at h1
    by_cases he : n = id
    · subst he
      simp [Th.set] at h2; subst h2
      rcases hb with hb | hb <;> rw [hb] at h3 <;> cases h3
      exact ⟨by simp, fun hx => by have := hX _ hx; omega, .inr hB⟩
    · rw [if_neg he] at h1
      obtain ⟨k1, k2, k3⟩ := hp.rng id ob' l' b h1 (hset (fun e => he e.symm) h2) h3
      exact ⟨by simp; omega, k2, k3⟩
end Go.VL

/- Objects that turn, and objects that are given up. -/
namespace Go.VL
open Go Go.RowKit

variable {P : Program} {X O : Nat → Prop} {w0 w w' : World} {θ θ' : Th} {st : St} {a : Act}

theorem trL_length (f : T → T) : ∀ xs : List T, (trL f xs).length = xs.length
  | [] => by simp [trL]
  | _ :: r => by simp [trL, trL_length f r]
theorem trL_get (f : T → T) : ∀ (xs : List T) (i : Nat), (trL f xs)[i]? = (xs[i]?).map (·.tr f)
  | [], i => by simp [trL]
  | x :: r, 0 => by simp [trL]
  | x :: r, i + 1 => by simp [trL, trL_get f r i]

theorem Nn_upd {h : Hp} {id : Nat} {o : Ob} {b : Nat} : Nn X θ (upd h id o) b ↔ Nn X θ h b := by
  unfold Nn
  constructor
  · rintro (hx | ⟨i, ob, l, h1, h2, h3⟩)
    · exact .inl hx
    · rw [look_upd] at h1
      by_cases he : id = i
      · rw [if_pos he] at h1
        cases hl : look h i with
        | none => simp [hl] at h1
        | some o' => exact .inr ⟨i, o', l, hl, h2, h3⟩
      · rw [if_neg he] at h1
        exact .inr ⟨i, ob, l, h1, h2, h3⟩
  · rintro (hx | ⟨i, ob, l, h1, h2, h3⟩)
    · exact .inl hx
    · by_cases he : id = i
      · exact .inr ⟨i, o, l, by rw [look_upd, if_pos he, h1]; rfl, h2, h3⟩
      · exact .inr ⟨i, ob, l, by rw [look_upd, if_neg he]; exact h1, h2, h3⟩

theorem HpS.upd {h : Hp} {id : Nat} {ob ob' : Ob} {l : Lay} {b B : Nat} (hp : HpS P X O B θ h w) (hl : look h id = some ob) (hθ : θ id = some l) (hb : l.blk = some b)
    (hw : ∀ c, c ≠ b → w'.heap[c]? = w.heap[c]?) (hz : Szp w w') (hs : w'.heap.size = w.heap.size) (hob : ObS P w' (Nn X θ (upd h id ob')) θ l ob') :
    HpS P X O B θ (Go.VL.upd h id ob') w' ∧ Ext w (Nn X θ h) w' (Nn X θ (Go.VL.upd h id ob')) := by
  have hE : Ext w (Nn X θ h) w' (Nn X θ (Go.VL.upd h id ob')) := ⟨by omega, fun c hc hN => ⟨fun hN' => hN (Nn_upd.mp hN'), hw c (fun e => hN (.inr ⟨id, ob, l, hl, hθ, e ▸ hb⟩))⟩⟩
  have key : ∀ {i o}, look (Go.VL.upd h id ob') i = some o → (i = id ∧ o = ob') ∨ (i ≠ id ∧ look h i = some o) := fun {i o} hi => by
    rw [look_upd] at hi
    by_cases he : id = i
    · rw [if_pos he, ← he, hl] at hi
      simp at hi
      exact .inl ⟨he.symm, hi.symm⟩
    · rw [if_neg he] at hi
      exact .inr ⟨fun e => he e.symm, hi⟩
  have old : ∀ {i o}, look (Go.VL.upd h id ob') i = some o → ∃ o', look h i = some o' := fun {i o} hi => by
    rcases key hi with ⟨rfl, _⟩ | ⟨_, h2⟩
    · exact ⟨ob, hl⟩
    · exact ⟨o, h2⟩
  refine ⟨⟨fun i o hi => ?_, fun i i' o1 o2 l1 l2 c h1 h2 h3 h4 h5 h6 => ?_, fun i o l1 c h1 h2 h3 => ?_⟩, hE⟩
  · rcases key hi with ⟨rfl, rfl⟩ | ⟨hne, h2⟩
    · exact ⟨l, hθ, hob⟩
    · obtain ⟨l1, k1, k2⟩ := hp.ob i o h2
      refine ⟨l1, k1, k2.ext hE hz (Sub.refl θ) (fun c hc => hw c (fun e => ?_))⟩
      subst e
      exact hne (hp.inj i id o ob l1 l c h2 hl k1 hθ hc hb)
  · obtain ⟨o1', h1'⟩ := old h1
    obtain ⟨o2', h2'⟩ := old h2
    exact hp.inj i i' o1' o2' l1 l2 c h1' h2' h3 h4 h5 h6
  · obtain ⟨o1', h1'⟩ := old h1
    obtain ⟨k1, k2, k3⟩ := hp.rng i o1' l1 c h1' h2 h3
    exact ⟨by omega, k2, k3⟩

theorem memN_iff {l : List Nat} {i : Nat} : memN l i = true ↔ i ∈ l := by
  induction l with
  | nil => simp [memN]
  | cons x r ih =>
    simp only [memN]
    by_cases he : x = i
    · subst he; simp
    · rw [beqf he]
      simp only [ih, List.mem_cons]
      constructor
      · exact .inr
      · rintro (rfl | h)
        · exact absurd rfl he
        · exact h

theorem look_remL {l : List Nat} : ∀ {h : Hp} {j : Nat}, look (remL h l) j = if j ∈ l then none else look h j := by
  induction l with
  | nil => intro h j; simp [remL]
  | cons x r ih =>
    intro h j
    simp only [remL, ih, look_rem, List.mem_cons]
    by_cases h1 : j ∈ r
    · simp [h1]
    · by_cases h2 : x = j
      · subst h2; simp
      · have : ¬ j = x := fun e => h2 e.symm
        simp [h1, h2, this]

theorem Nn_remL {l : List Nat} {h : Hp} {b : Nat} (hb : Nn X θ (remL h l) b) : Nn X θ h b := by
  rcases hb with hx | ⟨i, ob, l', h1, h2, h3⟩
  · exact .inl hx
  · rw [look_remL] at h1
    by_cases he : i ∈ l
    · simp [he] at h1
    · rw [if_neg he] at h1
      exact .inr ⟨i, ob, l', h1, h2, h3⟩

theorem Ext.shrink {N N' : Nat → Prop} (h : ∀ b, N' b → N b) : Ext w N w N' := ⟨Nat.le_refl _, fun b _ hn => ⟨fun k => hn (h b k), rfl⟩⟩

theorem HpS.remL {l : List Nat} {h : Hp} {B : Nat} (hp : HpS P X O B θ h w) : HpS P X O B θ (remL h l) w := by
  have key : ∀ {i o}, look (Go.VL.remL h l) i = some o → look h i = some o := fun {i o} hi => by
    rw [look_remL] at hi
    by_cases he : i ∈ l
    · simp [he] at hi
    · rwa [if_neg he] at hi
  refine ⟨fun i o hi => ?_, fun i i' o1 o2 l1 l2 c h1 h2 => hp.inj i i' o1 o2 l1 l2 c (key h1) (key h2), fun i o l1 c h1 => hp.rng i o l1 c (key h1)⟩
  obtain ⟨l1, k1, k2⟩ := hp.ob i o (key hi)
  exact ⟨l1, k1, k2.ext (Ext.shrink fun b => Nn_remL) (Szp.refl w) (Sub.refl θ) (fun _ _ => rfl)⟩

/-- A row that is no longer own reads by value. -/
theorem row_val {h : Hp} {id e : Nat} {es : List (List D)} {l : Lay} {B : Nat} {N' : Nat → Prop} (hp : HpS P X O B θ h w) (hl : look h id = some (.row e es)) (hθ : θ id = some l)
    (hN' : ∀ b, N' b → Nn X θ h b) (hfree : ∀ b, l.blk = some b → ¬ N' b) {off len cap b : Nat} {ad : Addr} (hb : l.blk = some b) (hab : ad.block = b) (hsp : ad.spot = none)
    (hlc : len ≤ cap) (ho : cap ≠ 0 → ad.off = l.o0 + off * l.sz) (hin : len = ((es.drop off).take len).length) : RepD w N' (.slice (some ad) len cap) (.sl ((es.drop off).take len)) := by
  obtain ⟨l', h1, h2, h3, h4, h5⟩ := hp.ob id _ hl
  rw [hθ] at h1; cases h1
  simp only [hb] at h5
  obtain ⟨cs, fr, k1, k2, k3, k4⟩ := h5
  have hblt := (hp.rng id _ l b hl hθ hb).1
  have hw : w.heap[ad.block]? = some (.cells cs e fr) := by rw [hab]; exact k1
  have hget : ∀ i, (((es.drop off).take len)[i]?) = if i < len then es[off + i]? else none := fun i => by
    rw [List.getElem?_take, List.getElem?_drop]
  have hfree' := hfree b hb
  subst hab
  have hcell : ∀ (i j : Nat) (x : D), ((((es.drop off).take len)[i]?).bind (·[j]?) = some x) → i < len ∧ (es[off + i]?).bind (·[j]?) = some x := fun i j x hx => by
    rw [hget] at hx
    by_cases hi : i < len
    · rw [if_pos hi] at hx; exact ⟨hi, hx⟩
    · rw [if_neg hi] at hx; simp at hx
  have hgen : RepD w N' (.slice (some ad) ((es.drop off).take len).length cap) (.sl ((es.drop off).take len)) := by
    refine .sl ad _ cap l.sz (fun i j => (cs[l.o0 + (off + i) * l.sz + j]?).getD undef) (by omega) (fun _ => ⟨hsp, hfree', hblt⟩)
      (fun x hx => h4 x (List.mem_of_mem_drop (List.mem_of_mem_take hx))) (fun i j x hx => ?_) (fun i j x hx => ?_)
    · obtain ⟨hi, hx'⟩ := hcell i j x hx
      obtain ⟨u, u1, u2⟩ := k4 (off + i) j x hx'
      have hoff := ho (by omega)
      have e1 : ad.off + i * l.sz + j = l.o0 + (off + i) * l.sz + j := by rw [hoff, Nat.add_mul]; omega
      rw [e1]
      simp [cellAt, World.cell?, hw, u1]
    · obtain ⟨hi, hx'⟩ := hcell i j x hx
      obtain ⟨u, u1, u2⟩ := k4 (off + i) j x hx'
      simp only [u1, Option.getD_some]
      exact u2.ext (Ext.shrink hN')
  rw [← hin] at hgen
  exact hgen

theorem T.tr_d (f : T → T) (x : D) : (T.d x).tr f = f (.d x) := by simp [T.tr]

theorem tr_list {N N' : Nat → Prop} {θ : Th} {f : T → T} {vs : Array Value} {xs : List T} (hx : ∀ (i : Nat) (x : T), xs[i]? = some x → RepT w N' θ (vs.getD i undef) (x.tr f)) :
    ∀ (i : Nat) (x : T), (trL f xs)[i]? = some x → RepT w N' θ (vs.getD i undef) x := fun i x h => by
  rw [trL_get] at h
  cases hxi : xs[i]? with
  | none => simp [hxi] at h
  | some y =>
    simp [hxi] at h
    subst h
    exact hx i y hxi

theorem RepT.frz {l : List Nat} {h : Hp} {B : Nat} {v : Value} {t : T} (hp : HpS P X O B θ h w) (ht : RepT w (Nn X θ h) θ v t) :
    RepT w (Nn X θ (Go.VL.remL h l)) θ v (t.tr (frzF h l)) := by
  have hE : Ext w (Nn X θ h) w (Nn X θ (Go.VL.remL h l)) := Ext.shrink fun b => Nn_remL
  have hfree : ∀ {id ob l1 b}, id ∈ l → look h id = some ob → θ id = some l1 → l1.blk = some b → ¬ Nn X θ (Go.VL.remL h l) b := by
    intro id ob l1 b hm h1 h2 h3 hN
    rcases hN with hx | ⟨i, o, l2, k1, k2, k3⟩
    · exact (hp.rng id ob l1 b h1 h2 h3).2.1 hx
    · rw [look_remL] at k1
      by_cases he : i ∈ l
      · simp [he] at k1
      · rw [if_neg he] at k1
        have := hp.inj i id o ob l2 l1 b k1 h1 k2 h2 k3 h3
        subst this
        exact he hm
  induction ht with
  | d hd => simp only [T.tr, frzF]; exact .d (hd.ext hE)
  | agg vs xs hl _ ih => simp only [T.tr]; exact .agg vs _ (by rw [trL_length]; exact hl) (tr_list (N := Nn X θ h) ih)
  | tup vs xs hl _ ih => simp only [T.tr]; exact .tup vs _ (by rw [trL_length]; exact hl) (tr_list (N := Nn X θ h) ih)
  | fn f vs xs hl _ ih => simp only [T.tr]; exact .fn f vs _ (by rw [trL_length]; exact hl) (tr_list (N := Nn X θ h) ih)
  | full id l1 hl b cap hb hlc hz ad hab hsp ho =>
    simp only [T.tr, frzF]
    cases hm : memN l id with
    | false => exact .full id l1 hl b cap hb hlc hz ad hab hsp ho
    | true =>
      simp only [valF]
      cases hlk : look h id with
      | none => exact .dead _
      | some ob =>
        cases ob with
        | row e es =>
          obtain ⟨l2, k1, k2, k3, k4⟩ := hp.ob id _ hlk
          rw [hl] at k1; cases k1
          have := row_val (N' := Nn X θ (Go.VL.remL h l)) (off := 0) (len := l1.len) (cap := cap) (ad := ad) hp hlk hl (fun b => Nn_remL) (fun b hb' => hfree (memN_iff.mp hm) hlk hl hb') hb hab hsp hlc (by simpa using ho) (by simp [k3])
          rw [List.drop_zero, List.take_of_length_le (by omega)] at this
          exact .d this
        | var t ts => exact .dead _
        | map es => exact .dead _
        | iter s p => exact .dead _
  | full0 id l1 hl h0 =>
    simp only [T.tr, frzF]
    cases hm : memN l id with
    | false => exact .full0 id l1 hl h0
    | true =>
      simp only [valF]
      cases hlk : look h id with
      | none => exact .dead _
      | some ob =>
        cases ob with
        | row e es =>
          obtain ⟨l2, k1, k2, k3, k4⟩ := hp.ob id _ hlk
          rw [hl] at k1; cases k1
          have : es = [] := List.length_eq_zero_iff.mp (by omega)
          subst this
          exact .d .nil
        | var t ts => exact .dead _
        | map es => exact .dead _
        | iter s p => exact .dead _
  | own id off len l1 hl b hb ad cap hlc hab hsp hin ho hz =>
    simp only [T.tr, frzF]
    cases hm : memN l id with
    | false => exact .own id off len l1 hl b hb ad cap hlc hab hsp hin ho hz
    | true =>
      simp only [valF]
      cases hlk : look h id with
      | none => exact .dead _
      | some ob =>
        cases ob with
        | row e es =>
          obtain ⟨l2, k1, k2, k3, k4⟩ := hp.ob id _ hlk
          rw [hl] at k1; cases k1
          exact .d (row_val (N' := Nn X θ (Go.VL.remL h l)) (off := off) (len := len) (cap := cap) (ad := ad) hp hlk hl (fun b => Nn_remL) (fun b hb' => hfree (memN_iff.mp hm) hlk hl hb') hb hab hsp hlc ho (by simp; omega))
        | var t ts => exact .dead _
        | map es => exact .dead _
        | iter s p => exact .dead _
  | own0 id off l1 hl =>
    simp only [T.tr, frzF]
    cases hm : memN l id with
    | false => exact .own0 id off l1 hl
    | true =>
      simp only [valF]
      cases hlk : look h id with
      | none => exact .dead _
      | some ob =>
        cases ob with
        | row e es => simp only [List.take_zero]; exact .d .nil
        | var t ts => exact .dead _
        | map es => exact .dead _
        | iter s p => exact .dead _
  | nils => simp only [T.tr, frzF]; exact .nils
  | ref id i off l1 hl b hb =>
    simp only [T.tr, frzF]
    cases hm : memN l id with
    | false => exact .ref id i off l1 hl b hb
    | true => exact .dead _
  | cref ad cs c hb hc hr => simp only [T.tr, frzF]; exact (RepT.cref (θ := θ) ad cs c hb hc hr).ext hE (Szp.refl w) (Sub.refl θ)
  | nilp => simp only [T.tr, frzF]; exact .nilp
  | nilf => simp only [T.tr, frzF]; exact .nilf
  | nili => simp only [T.tr, frzF]; exact .nili
  | ifc t _ ih => simp only [T.tr]; exact .ifc t ih
  | mp id l1 hl b hb =>
    simp only [T.tr, frzF]
    cases hm : memN l id with
    | false => exact .mp id l1 hl b hb
    | true => exact .dead _
  | itr id l1 hl b hb =>
    simp only [T.tr, frzF]
    cases hm : memN l id with
    | false => exact .itr id l1 hl b hb
    | true => exact .dead _
  | bs id v l1 hl b hb h =>
    simp only [T.tr, frzF]
    cases hm : memN l id with
    | false => exact .bs id v l1 hl b hb h
    | true => exact .dead _
  | dead v => simp only [T.tr, frzF]; exact .dead v

theorem get_frzE {f : T → T} (hf : f .dead = .dead) : ∀ (e : Env) (i : Nat), get (frzE f e) i = (get e i).tr f
  | [], i => by simp [frzE, get, T.tr, hf]
  | (k, x) :: r, i => by
    simp only [frzE, get]
    cases Nat.beq k i with
    | true => rfl
    | false => exact get_frzE hf r i
def Ob.tr (f : T → T) : Ob → Ob
  | .var t cs => .var t (trL f cs)
  | o => o
theorem look_frzH {f : T → T} : ∀ (h : Hp) (i : Nat), look (frzH f h) i = (look h i).map (Ob.tr f)
  | [], i => by simp [frzH, look]
  | (k, .row e es) :: r, i => by simp only [frzH, look]; cases Nat.beq k i <;> simp [Ob.tr, look_frzH r i]
  | (k, .var t cs) :: r, i => by simp only [frzH, look]; cases Nat.beq k i <;> simp [Ob.tr, look_frzH r i]
  | (k, .map es) :: r, i => by simp only [frzH, look]; cases Nat.beq k i <;> simp [Ob.tr, look_frzH r i]
  | (k, .iter s p) :: r, i => by simp only [frzH, look]; cases Nat.beq k i <;> simp [Ob.tr, look_frzH r i]
theorem Nn_frzH {f : T → T} {h : Hp} {b : Nat} : Nn X θ (frzH f h) b ↔ Nn X θ h b := by
  unfold Nn
  constructor
  · rintro (hx | ⟨i, ob, l, h1, h2, h3⟩)
    · exact .inl hx
    · rw [look_frzH] at h1
      cases hl : look h i with
      | none => simp [hl] at h1
      | some o' => exact .inr ⟨i, o', l, hl, h2, h3⟩
  · rintro (hx | ⟨i, ob, l, h1, h2, h3⟩)
    · exact .inl hx
    · exact .inr ⟨i, ob.tr f, l, by rw [look_frzH, h1]; rfl, h2, h3⟩

theorem Sat.frz (hs : Sat P X O w0 θ st a w) (l : List Nat) : Sat P X O w0 θ (st.frz l) a w := by
  unfold St.frz
  cases l with
  | nil => exact hs
  | cons x r =>
    simp only
    generalize hl : x :: r = l
    have hN : (Nn X θ (frzH (frzF st.h l) (Go.VL.remL st.h l))) = Nn X θ (Go.VL.remL st.h l) := funext fun b => propext Nn_frzH
    have hE : Ext w (Nn X θ st.h) w (Nn X θ (Go.VL.remL st.h l)) := Ext.shrink fun b => Nn_remL
    refine ⟨fun i => ?_, ⟨fun i o hi => ?_, fun i i' o1 o2 l1 l2 c h1 h2 => ?_, fun i o l1 c h1 => ?_⟩, hs.fresh, hs.dfr, hs.nts, hs.kp, hs.xb, hs.gl⟩
    · rw [get_frzE rfl]
      show RepT w (Nn X θ (frzH (frzF st.h l) (Go.VL.remL st.h l))) θ _ _
      rw [hN]
      exact (hs.tm i).frz hs.hp
    · show ∃ l', θ i = some l' ∧ ObS P w (Nn X θ (frzH (frzF st.h l) (Go.VL.remL st.h l))) θ l' o
      rw [hN]
      rw [look_frzH, look_remL] at hi
      by_cases he : i ∈ l
      · simp [he] at hi
      · rw [if_neg he] at hi
        cases ho : look st.h i with
        | none => simp [ho] at hi
        | some o' =>
          simp [ho] at hi
          obtain ⟨l1, k1, k2⟩ := hs.hp.ob i o' ho
          refine ⟨l1, k1, ?_⟩
          have k3 := k2.ext hE (Szp.refl w) (Sub.refl θ) (fun _ _ => rfl)
          cases o' with
          | row e es => simp [Ob.tr] at hi; subst hi; exact k3
          | map es => simp [Ob.tr] at hi; subst hi; exact k3
          | iter s p => simp [Ob.tr] at hi; subst hi; exact k3
          | var t ts =>
            simp [Ob.tr] at hi; subst hi
            obtain ⟨e1, e2, b, cs, fr, m1, m2, m3, m4, m5⟩ := k2
            refine ⟨e1, e2, b, cs, fr, m1, m2, m3, by rw [trL_length]; exact m4, fun j x hx => ?_⟩
            rw [trL_get] at hx
            cases ht : ts[j]? with
            | none => simp [ht] at hx
            | some y =>
              simp [ht] at hx
              subst hx
              obtain ⟨u, u1, u2⟩ := m5 j y ht
              exact ⟨u, u1, u2.frz hs.hp⟩
    · have key : ∀ {i o}, look (frzH (frzF st.h l) (Go.VL.remL st.h l)) i = some o → ∃ o', look st.h i = some o' := fun {i o} hi => by
        rw [look_frzH, look_remL] at hi
        by_cases he : i ∈ l
        · simp [he] at hi
        · rw [if_neg he] at hi
          cases ho : look st.h i with
          | none => simp [ho] at hi
          | some o' => exact ⟨o', rfl⟩
      obtain ⟨o1', k1⟩ := key h1
      obtain ⟨o2', k2⟩ := key h2
      exact hs.hp.inj i i' o1' o2' l1 l2 c k1 k2
    · have : ∃ o', look st.h i = some o' := by
        rw [look_frzH, look_remL] at h1
        by_cases he : i ∈ l
        · simp [he] at h1
        · rw [if_neg he] at h1
          cases ho : look st.h i with
          | none => simp [ho] at h1
          | some o' => exact ⟨o', rfl⟩
      obtain ⟨o', k⟩ := this
      exact hs.hp.rng i o' l1 c k
end Go.VL
