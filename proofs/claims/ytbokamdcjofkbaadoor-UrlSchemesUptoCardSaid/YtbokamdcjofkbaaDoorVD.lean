/- The state after a step: new objects, changed objects, objects that are given up. -/
import Derived.Test.YtbokamdcjofkbaaDoorVC
set_option linter.unusedVariables false
set_option linter.unusedSimpArgs false
namespace Go.VL
open Go Go.RowKit

variable {P : Program} {X O : Nat → Prop} {w0 w w' : World} {θ θ' : Th} {st : St} {a : Act}

def Th.set (θ : Th) (n : Nat) (l : Lay) : Th := fun i => if i = n then some l else θ i

theorem Th.set_sub {n : Nat} {l : Lay} (h : θ n = none) : Sub θ (θ.set n l) := by
  intro id l' hl
  unfold Th.set
  by_cases he : id = n
  · subst he; rw [h] at hl; cases hl
  · simp [he, hl]

theorem Sat.move {h' : Hp} {n' : Nat} (hs : Sat P X O w0 θ st a w) (he : Ext w (Nn X θ st.h) w' (Nn X θ' h')) (hz : Szp w w') (hθ : Sub θ θ')
    (hp : HpS P X O w0.heap.size θ' h' w') (hf : ∀ id, n' ≤ id → θ' id = none) (hk : Kp O w0 w') : Sat P X O w0 θ' ⟨st.t, h', n', st.nt⟩ a w' :=
  ⟨fun i => (hs.tm i).ext he hz hθ, hp, hf, hs.dfr, hs.nts, hk, hs.xb, hs.gl⟩

theorem Sat.put {d : Nat} {v : Value} {x : T} (hs : Sat P X O w0 θ st a w) (hd : d < st.nt) (hv : RepT w (Nn X θ st.h) θ v x) :
    Sat P X O w0 θ ⟨(d, x) :: st.t, st.h, st.n, st.nt⟩ (a.put (some d) v) w := by
  refine ⟨fun i => ?_, hs.hp, hs.fresh, hs.dfr, by simp [Act.put, hs.nts], hs.kp, hs.xb, hs.gl⟩
  rw [get_cons]
  have h1 : ((a.put (some d) v).tmps.getD i undef) = if d = i then v else a.tmps.getD i undef := by
    simp only [Act.put, Array.getD_eq_getD_getElem?]
    rw [Array.getElem?_setIfInBounds]
    by_cases hdi : d = i
    · subst hdi
      simp [hs.nts, hd]
    · simp [hdi]
  rw [h1]
  by_cases hdi : d = i
  · rw [if_pos hdi, if_pos hdi]; exact hv
  · rw [if_neg hdi, if_neg hdi]; exact hs.tm i

/-- What is left behind an operation. -/
def Post (P : Program) (X O : Nat → Prop) (w0 : World) (θ : Th) (K : St → Prop) (a : Act) (w : World) : Prop :=
  ∃ st θ', Sub θ θ' ∧ Sat P X O w0 θ' st a w ∧ K st

theorem Post.weaken {K : St → Prop} (h : Post P X O w0 θ' K a w) (hθ : Sub θ θ') : Post P X O w0 θ K a w :=
  let ⟨st, θ2, h1, h2, h3⟩ := h
  ⟨st, θ2, hθ.trans h1, h2, h3⟩

theorem putK_post {dst : Option Nat} {x : T} {K : St → Prop} {v : Value} (h : putK dst x K st) (hs : Sat P X O w0 θ st a w) (hv : RepT w (Nn X θ st.h) θ v x) :
    Post P X O w0 θ K (a.put dst v) w := by
  rw [putK_eq] at h
  cases dst with
  | none => exact ⟨st, θ, Sub.refl θ, hs, h⟩
  | some d =>
    simp only at h
    cases hb : Nat.blt d st.nt with
    | false => simp [hb] at h
    | true =>
      simp only [hb] at h
      exact ⟨_, θ, Sub.refl θ, hs.put (Nat.blt_eq.mp hb) hv, h⟩

theorem alloc_heap (w : World) (o : Obj) (b : Nat) : (w.alloc o).heap[b]? = if b = w.heap.size then some o else w.heap[b]? := by
  show (w.heap.push o)[b]? = _
  rw [Array.getElem?_push]

theorem Szp.alloc (w : World) (o : Obj) : Szp w (w.alloc o) := fun b cs e fr hb => by
  refine ⟨cs, fr, ?_, rfl⟩
  rw [alloc_heap]
  have : b ≠ w.heap.size := fun h => by subst h; simp at hb
  simp [this, hb]

theorem Kp.alloc (w : World) (o : Obj) : Kp O w (w.alloc o) :=
  ⟨rfl, rfl, rfl, by simp, fun b hb _ => by rw [alloc_heap, if_neg (by omega)], Szp.alloc w o⟩

theorem Nn_cons {n : Nat} {ob : Ob} {h : Hp} {l : Lay} {b : Nat} (hb : Nn X (θ.set n l) ((n, ob) :: h) b) :
    Nn X θ h b ∨ l.blk = some b := by
  rcases hb with hx | ⟨id, o, l', h1, h2, h3⟩
  · exact .inl (.inl hx)
  · by_cases he : id = n
    · subst he
      simp [Th.set] at h2
      subst h2
      exact .inr h3
    · have hne : ¬ n = id := fun e => he e.symm
      rw [look_cons, if_neg hne] at h1
      simp [Th.set, he] at h2
      exact .inl (.inr ⟨id, o, l', h1, h2, h3⟩)

theorem Ext.alloc {n : Nat} {ob : Ob} {h : Hp} {l : Lay} {o : Obj} (hb : l.blk = some w.heap.size ∨ l.blk = none) :
    Ext w (Nn X θ h) (w.alloc o) (Nn X (θ.set n l) ((n, ob) :: h)) := by
  refine ⟨by simp, fun b hlt hN => ⟨fun hN' => ?_, by rw [alloc_heap, if_neg (by omega)]⟩⟩
  rcases Nn_cons hN' with h1 | h1
  · exact hN h1
  · rcases hb with hb | hb
    · rw [hb] at h1; cases h1; omega
    · rw [hb] at h1; cases h1

theorem HpS.dom {h : Hp} {B : Nat} (hp : HpS P X O B θ h w) : ∀ id o, look h id = some o → ∃ l, θ id = some l := fun id o ho => let ⟨l, h1, _⟩ := hp.ob id o ho; ⟨l, h1⟩

theorem HpS.alloc {n : Nat} {ob : Ob} {h : Hp} {l : Lay} {o : Obj} {B : Nat} (hp : HpS P X O B θ h w) (hn : θ n = none) (hX : ∀ b, X b → b < w.heap.size) (hB : B ≤ w.heap.size)
    (hb : l.blk = some w.heap.size ∨ l.blk = none) (hob : ObS P (w.alloc o) (Nn X (θ.set n l) ((n, ob) :: h)) (θ.set n l) l ob) : HpS P X O B (θ.set n l) ((n, ob) :: h) (w.alloc o) := by
  have hdom := hp.dom
  have hne : ∀ {id o'}, look h id = some o' → id ≠ n := fun {id o'} ho he => by
    obtain ⟨l1, h1⟩ := hdom _ _ ho
    rw [he, hn] at h1; cases h1
  have hset : ∀ {id l'}, id ≠ n → (θ.set n l) id = some l' → θ id = some l' := fun {id l'} hi h2 => by simpa [Th.set, hi] using h2
  refine ⟨fun id ob' hl => ?_, fun id id' ob1 ob2 l1 l2 b h1 h2 h3 h4 h5 h6 => ?_, fun id ob' l' b h1 h2 h3 => ?_⟩
  · rw [look_cons] at hl
    by_cases he : n = id
    · subst he
      simp at hl; subst hl
      exact ⟨l, by simp [Th.set], hob⟩
    · rw [if_neg he] at hl
      obtain ⟨l', k1, k2⟩ := hp.ob id ob' hl
      refine ⟨l', Th.set_sub hn id l' k1, k2.ext (Ext.alloc hb) (Szp.alloc w o) (Th.set_sub hn) (fun b hb' => ?_)⟩
      rw [alloc_heap, if_neg]
      have := (hp.rng id ob' l' b hl k1 hb').1
      omega
  · rw [look_cons] at h1 h2
    by_cases e1 : n = id <;> by_cases e2 : n = id'
    · rw [← e1, ← e2]
    · rw [if_neg e2] at h2
      subst e1
      simp [Th.set] at h3; subst h3
      have k4 := hset (fun e => e2 e.symm) h4
      have := (hp.rng id' ob2 l2 b h2 k4 h6).1
      rcases hb with hb | hb <;> rw [hb] at h5 <;> cases h5
      omega
    · rw [if_neg e1] at h1
      subst e2
      simp [Th.set] at h4; subst h4
      have k3 := hset (fun e => e1 e.symm) h3
      have := (hp.rng id ob1 l1 b h1 k3 h5).1
      rcases hb with hb | hb <;> rw [hb] at h6 <;> cases h6
      omega
    · rw [if_neg e1] at h1
      rw [if_neg e2] at h2
      exact hp.inj id id' ob1 ob2 l1 l2 b h1 h2 (hset (fun e => e1 e.symm) h3) (hset (fun e => e2 e.symm) h4) h5 h6
  · rw [look_cons] at h1
    by_cases he : n = id
    · subst he
      simp [Th.set] at h2; subst h2
      rcases hb with hb | hb <;> rw [hb] at h3 <;> cases h3
      exact ⟨by simp, fun hx => by have := hX _ hx; omega, .inr hB⟩
    · rw [if_neg he] at h1
      obtain ⟨k1, k2, k3⟩ := hp.rng id ob' l' b h1 (hset (fun e => he e.symm) h2) h3
      exact ⟨by simp; omega, k2, k3⟩
end Go.VL
