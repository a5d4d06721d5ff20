/- From what a law comes to, to what its row says. -/
import Derived.Test.YtefgchjjnobhjaaDoorVIn
import Derived.OpenShut
import Derived.Carry
import Derived.WideShapes
import Derived.ChangeSame
set_option linter.unusedVariables false
set_option linter.unusedSimpArgs false
namespace Go.VL
open Go Go.RowKit Go.ChangeShapes Go.WideShapes

def oneD : List D → T
  | [x] => .d x
  | _ => .dead
def argD (P : Program) (t : Nat) (l : List D) : T := match P.underlying t with
  | some (.struct _) => .agg (l.map .d)
  | _ => oneD l

mutual
def szD : D → Nat
  | .str s => s.length + 1
  | .sl es => szLL es + 1
  | _ => 1
def szL : List D → Nat
  | [] => 0
  | x :: r => szD x + szL r
def szLL : List (List D) → Nat
  | [] => 0
  | x :: r => szL x + szLL r
end

variable {H : Type} {enc : TypeId × Value → H} {P : Program} {w : World} {sp : Nat → Bool}

theorem one_rep {u : Value} {l : List D} {θ : Th} (h : Holds w [u] l) : RepT w (fun _ => False) θ u (oneD l) := by
  match l, h with
  | [], h => exact .dead _
  | [x], h =>
    obtain ⟨v, h1, h2⟩ := h.2 0 x rfl
    simp at h1; subst h1
    exact .d h2
  | _ :: _ :: _, h => exact .dead _

theorem arg_rep {S : List Nat} (hS : ∀ t ∈ S, goodB P S t = true) {t : TypeId} {v : Value} {d : DataW H} {ps : List MemPlace} {r : Reach} {b : Nat} {θ : Th} (ht : t ∈ S) (hval : Value.okWide P w r b t v) (h : DataW.Trod enc P w 0 sp true t v d ps) :
    RepT w (fun _ => False) θ v (argD P t (dOf d)) ∧ TyD P t (dOf d) := by
  obtain ⟨fuel, hf⟩ := h
  obtain ⟨h1, h2, h3⟩ := trod_rep hS fuel t _ d ps ht hf
  refine ⟨?_, h3⟩
  have hg := hS t ht
  unfold goodB at hg
  unfold argD
  split at hg
  · rename_i hu
    obtain ⟨b, rfl⟩ := okWide_bool hu hval
    rw [hu]; exact one_rep h1
  · rename_i k hu
    obtain ⟨n, rfl⟩ := okWide_int hu hval
    rw [hu]; exact one_rep h1
  · rename_i hu
    obtain ⟨n, rfl⟩ := okWide_string hu hval
    rw [hu]; exact one_rep h1
  · rename_i e hu
    obtain ⟨a, n, c, rfl⟩ := okWide_slice hu hval
    rw [hu]; exact one_rep h1
  · rename_i fs hu
    obtain ⟨cs, rfl, hl⟩ := okWide_struct hu hval
    rw [hu]
    refine .agg cs _ (by have := h1.1; simp [Value.cells] at this; simp [this]) fun i x hx => ?_
    simp only [List.getElem?_map] at hx
    cases hy : (dOf d)[i]? with
    | none => simp [hy] at hx
    | some y =>
      simp [hy] at hx
      subst hx
      obtain ⟨u, u1, u2⟩ := h1.2 i y hy
      have : cs[i]? = some u := by simpa [Value.cells] using u1
      rw [show cs.getD i undef = u by simp [Array.getD_eq_getD_getElem?, this]]
      exact .d u2
  · cases hg

theorem CallWP.law {f : Nat} {args : List T} {vs : Array Value} (h : CallWP P f args [] fun r _ => r = .d (.bool true)) (hl : vs.size = args.length) (hr : ∀ (i : Nat) (x : T), args[i]? = some x → RepT w (fun _ => False) (fun _ => none) (vs.getD i undef) x)
    (hG : GlobOK P (fun _ => False) (fun _ => False) w) :
    Calls P f vs w fun e W' => e = .returned (.bool true) ∧ Below w.heap.size w W' := by
  have hN : Nn (fun _ => False) (fun _ => none) [] = fun _ => False := by
    funext b
    refine propext ⟨fun hb => ?_, False.elim⟩
    rcases hb with h | ⟨i, o, l, h, _⟩
    · exact h
    · simp [look] at h
  refine (h (fun _ => False) (fun _ => False) w (fun _ => none) vs hl (by rw [hN]; exact hr) ⟨fun i o hi => by simp [look] at hi, fun i i' o1 o2 l1 l2 b hi => by simp [look] at hi, fun i o l b hi => by simp [look] at hi⟩ (fun _ hb => hb.elim) (fun _ _ => rfl) hG).mono ?_
  intro e W' ⟨v, r, h', θ', he, hq, _, hv, _, hk⟩
  subst he; subst hq
  refine ⟨by rw [hv.bool_inv], hk.os, hk.tape, hk.output, hk.size, fun b hb => hk.block b hb (fun h => h)⟩

theorem trod_below {t : TypeId} (hl : laidOutB P = true) (hr : P.readableRec t = true) (hrow : t < P.types.size) {W W' : World} {v : Value} {d : DataW H} {ps : List MemPlace} (h : DataW.Trod enc P W 0 (fun _ => true) true t v d ps) (hb : Below W.heap.size W W') :
    DataW.Trod enc P W' 0 (fun b => decide (b < W.heap.size)) true t v d ps :=
  Below.trod hl hr hrow h hb (let ⟨n, hn⟩ := h; DataW.trod_lt n t _ _ hn)
/-- A program that has none of the tables. -/
theorem GlobOK.none {X O : Nat → Prop} (h : (Gl.all fun x => (P.globalNamed x.1).isNone) = true) : GlobOK P X O w := fun x g hx hg => by
  have := List.all_eq_true.mp h x hx
  rw [hg] at this; cases this
theorem var_cells {n : String} {g : Nat} {cs : Array Value} (hg : P.globalNamed n = some g) (h : w.var? P n = some cs) : ∃ e fr, w.heap[g]? = some (.cells cs e fr) := by
  unfold World.var? at h
  rw [hg] at h
  simp only [Option.bind_some] at h
  split at h
  · rename_i cs' e fr hk
    cases h
    exact ⟨e, fr, hk⟩
  · cases h
end Go.VL
