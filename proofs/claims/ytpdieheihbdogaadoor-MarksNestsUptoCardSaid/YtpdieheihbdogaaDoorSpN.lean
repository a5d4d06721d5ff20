/- Nested rows of one's own: a list of nodes of which the last one's parts, and their last one's, and so on, lie in rows of one's own. -/
import Derived.Test.YtpdieheihbdogaaDoorVTab
import Derived.Test.YtpdieheihbdogaaDoorVTy
import Derived.Test.YtpdieheihbdogaaDoorVNest
import Derived.WalkKit
import Derived.Laws.OwnMore
import Derived.Deep.AppendLies
set_option linter.unusedVariables false
set_option linter.unusedSimpArgs false
namespace Go.VL.SpN
open Go Go.Proofs Go.VL Go.RowKit
set_option maxRecDepth 100000
/-- The cells xs hold the nodes es; nothing that they point to lies in a block of A. -/
structure Cl (w : World) (A : Nat → Prop) (xs : List Value) (es : List Nd) : Prop where
  len : xs.length = es.length * 4
  at_ : ∀ (i j : Nat) (x : D), ((nds es)[i]?).bind (·[j]?) = some x → ∃ u, xs[i * 4 + j]? = some u ∧ RepD w A u x
theorem Cl.nil {w : World} {A : Nat → Prop} : Cl w A [] [] := ⟨rfl, fun i j x h => by simp [nds] at h⟩
theorem RepD.frame {w w' : World} {A A' : Nat → Prop} {v : Value} {x : D} (h : RepD w A v x) (hs : w.heap.size ≤ w'.heap.size) (hf : ∀ k, k < w.heap.size → ¬ A k → w'.heap[k]? = w.heap[k]?) (hA : ∀ b, A' b → A b ∨ w.heap.size ≤ b) : RepD w' A' v x :=
  h.ext ⟨hs, fun b hb hn => ⟨fun h' => (hA b h').elim hn (by omega), hf b hb hn⟩⟩
theorem Cl.frame {w w' : World} {A A' : Nat → Prop} {xs : List Value} {es : List Nd} (h : Cl w A xs es) (hs : w.heap.size ≤ w'.heap.size) (hf : ∀ k, k < w.heap.size → ¬ A k → w'.heap[k]? = w.heap[k]?) (hA : ∀ b, A' b → A b ∨ w.heap.size ≤ b) : Cl w' A' xs es :=
  ⟨h.len, fun i j x hx => by
    obtain ⟨u, h1, h2⟩ := h.at_ i j x hx
    exact ⟨u, h1, RepD.frame h2 hs hf hA⟩⟩
theorem Cl.snoc {w : World} {A : Nat → Prop} {xs ys : List Value} {es : List Nd} {n : Nd} (h : Cl w A xs es) (hl : ys.length = 4) (hn : ∀ (j : Nat) (x : D), n.d[j]? = some x → ∃ u, ys[j]? = some u ∧ RepD w A u x) : Cl w A (xs ++ ys) (es ++ [n]) := by
  refine ⟨by simp [h.len, hl]; omega, fun i j x hx => ?_⟩
  rw [nds_app] at hx
  by_cases hi : i < es.length
  · rw [List.getElem?_append_left (by rw [nds_len]; exact hi)] at hx
    obtain ⟨u, h1, h2⟩ := h.at_ i j x hx
    have hlt : i * 4 + j < xs.length := (List.getElem?_eq_some_iff.1 h1).1
    exact ⟨u, by rw [List.getElem?_append_left hlt]; exact h1, h2⟩
  · rw [List.getElem?_append_right (by rw [nds_len]; omega), nds_len] at hx
    have h0 : i - es.length = 0 := by
      rcases Nat.eq_zero_or_pos (i - es.length) with h0 | h0
      · exact h0
      · rw [List.getElem?_eq_none (by rw [nds_len]; simp; omega)] at hx; cases hx
    rw [h0] at hx
    have hx : n.d[j]? = some x := hx
    obtain ⟨u, h1, h2⟩ := hn j x hx
    refine ⟨u, ?_, h2⟩
    rw [List.getElem?_append_right (by rw [h.len]; omega), h.len, show i * 4 + j - es.length * 4 = j by omega]
    exact h1
/-- A row in cells, as data. -/
theorem Cl.rep {w : World} {A : Nat → Prop} {n0 : Nat} {v : Value} {xs : List Value} {es : List Nd} (h : w.ownsRow n0 36 4 v es.length xs) (hc : Cl w A xs es) (hA : ∀ g, v.ownBlock = some g → ¬ A g) : RepD w A v (.sl (nds es)) := by
  rcases h.2 with ⟨rfl, h0⟩ | ⟨g, cap, cur, rfl, h1, h2, h3, h4, h5, h6⟩
  · obtain rfl := List.length_eq_zero_iff.1 h0
    exact .nil
  · have hlt := (Array.getElem?_eq_some_iff.1 h2).1
    have hcur : ∀ k u, xs[k]? = some u → cur[k]? = some u := fun k u hk => by
      rw [← h6, List.getElem?_take] at hk
      split at hk
      · simpa using hk
      · cases hk
    have key : ∀ (i j : Nat) (x : D), (((nds es)[i]?).bind (·[j]?)) = some x → ∃ u, cur[i * 4 + j]? = some u ∧ RepD w A u x := fun i j x hx => by
      obtain ⟨u, k1, k2⟩ := hc.at_ i j x hx
      exact ⟨u, hcur _ _ k1, k2⟩
    have := RepD.sl (w := w) (N := A) ⟨g, 0, none⟩ (nds es) cap 4 (fun i j => cur.getD (i * 4 + j) undef) (by rw [nds_len]; exact h3) (fun _ => ⟨rfl, hA g rfl, hlt⟩) (fun e he => nds_each e he) (fun i j x hx => by
      obtain ⟨u, hu, _⟩ := key i j x hx
      simp [cellAt, World.cell?, h2, hu]) (fun i j x hx => by
      obtain ⟨u, hu, hr⟩ := key i j x hx
      simpa [hu] using hr)
    rw [nds_len] at this
    exact this
/-- o levels of rows within rows, each the last one's parts of the one above; gs: their blocks. -/
def Sp (w : World) (A : Nat → Prop) (n0 : Nat) : Nat → Value → List Nd → List Nat → Prop
  | 0, v, es, gs => ∃ xs, w.ownsRow n0 36 4 v es.length xs ∧ Cl w A xs es ∧ gs = v.ownBlock.toList
  | o + 1, v, es, gs => ∃ pre nm ps xp u g gs', es = pre ++ [.mk nm [] [] ps] ∧ gs = g :: gs' ∧ v.ownBlock = some g ∧ g ∉ gs' ∧
      w.ownsRow n0 36 4 v (pre.length + 1) (xp ++ [.string ⟨nm.toArray⟩, .slice none 0 0, .string ⟨#[]⟩, u]) ∧ Cl w A xp pre ∧ Sp w A n0 o u ps gs'
theorem ownsRow_fr {W W' : World} {base : Nat} {e : TypeId} {size : Nat} {v : Value} {k : Nat} {xs : List Value} (h : W.ownsRow base e size v k xs) (hb : ∀ g, v.ownBlock = some g → W'.heap[g]? = W.heap[g]?) : W'.ownsRow base e size v k xs := by
  refine ⟨h.1, ?_⟩
  rcases h.2 with h2 | ⟨g, cap, cur, rfl, h2, h3, h4⟩
  · exact .inl h2
  · exact .inr ⟨g, cap, cur, rfl, h2, (hb g rfl).trans h3, h4⟩
theorem Sp.frame {w w' : World} {A A' : Nat → Prop} {n0 : Nat} (hs : w.heap.size ≤ w'.heap.size) (hf : ∀ k, k < w.heap.size → ¬ A k → w'.heap[k]? = w.heap[k]?) (hA : ∀ b, A' b → A b ∨ w.heap.size ≤ b) :
    ∀ (o : Nat) {v : Value} {es : List Nd} {gs : List Nat}, Sp w A n0 o v es gs → (∀ k, k ∈ gs → w'.heap[k]? = w.heap[k]?) → Sp w' A' n0 o v es gs
  | 0, v, es, gs, ⟨xs, h1, h2, h3⟩, hg => ⟨xs, ownsRow_fr h1 (fun g he => hg g (by rw [h3, he]; simp)), h2.frame hs hf hA, h3⟩
  | o + 1, v, es, gs, ⟨pre, nm, ps, xp, u, g, gs', h1, h2, h3, h4, h5, h6, h7⟩, hg =>
    ⟨pre, nm, ps, xp, u, g, gs', h1, h2, h3, h4, ownsRow_fr h5 (fun k he => hg k (by rw [h3] at he; cases he; rw [h2]; simp)), h6.frame hs hf hA, Sp.frame hs hf hA o h7 (fun k hk => hg k (by rw [h2]; simp [hk]))⟩
theorem Sp.rng {w : World} {A : Nat → Prop} {n0 : Nat} : ∀ (o : Nat) {v : Value} {es : List Nd} {gs : List Nat}, Sp w A n0 o v es gs → ∀ g ∈ gs, n0 ≤ g ∧ g < w.heap.size
  | 0, v, es, gs, ⟨xs, h1, h2, h3⟩, g, hg => h1.lt g (by rw [h3] at hg; simpa using hg)
  | o + 1, v, es, gs, ⟨pre, nm, ps, xp, u, g', gs', h1, h2, h3, h4, h5, h6, h7⟩, g, hg => by
    rw [h2] at hg
    rcases List.mem_cons.1 hg with rfl | hg
    · exact h5.lt g h3
    · exact Sp.rng o h7 g hg
theorem Cl.oneUp {w : World} {A : Nat → Prop} {xp : List Value} {pre : List Nd} {nm : Str} {ps : List Nd} {u : Value} (h : Cl w A xp pre) (hu : RepD w A u (.sl (nds ps))) : Cl w A (xp ++ [.string ⟨nm.toArray⟩, .slice none 0 0, .string ⟨#[]⟩, u]) (pre ++ [.mk nm [] [] ps]) :=
  h.snoc rfl fun j x hx => by
    match j, hx with
    | 0, hx => cases hx; exact ⟨_, rfl, .str nm⟩
    | 1, hx => cases hx; exact ⟨_, rfl, .nil⟩
    | 2, hx => cases hx; exact ⟨_, rfl, .str []⟩
    | 3, hx => cases hx; exact ⟨_, rfl, hu⟩
/-- The whole, as data. -/
theorem Sp.rep {w : World} {A A' : Nat → Prop} {n0 : Nat} (hA : ∀ b, A' b → A b) : ∀ (o : Nat) {v : Value} {es : List Nd} {gs : List Nat}, Sp w A n0 o v es gs → (∀ g ∈ gs, ¬ A' g) → RepD w A' v (.sl (nds es))
  | 0, v, es, gs, ⟨xs, h1, h2, h3⟩, hg => (h2.frame (Nat.le_refl _) (fun _ _ _ => rfl) (fun b hb => .inl (hA b hb))).rep h1 (fun g he => hg g (by rw [h3, he]; simp))
  | o + 1, v, es, gs, ⟨pre, nm, ps, xp, u, g, gs', h1, h2, h3, h4, h5, h6, h7⟩, hg => by
    subst h1
    have hu := Sp.rep hA o h7 (fun k hk => hg k (by rw [h2]; simp [hk]))
    have h5' : w.ownsRow n0 36 4 v (pre ++ [Nd.mk nm [] [] ps]).length (xp ++ [.string ⟨nm.toArray⟩, .slice none 0 0, .string ⟨#[]⟩, u]) := by simpa using h5
    exact ((h6.frame (Nat.le_refl _) (fun _ _ _ => rfl) (fun b hb => .inl (hA b hb))).oneUp hu).rep h5' (fun k he => hg k (by rw [h3] at he; cases he; rw [h2]; simp))
/-- Fewer levels. -/
theorem Sp.less {w : World} {A : Nat → Prop} {n0 : Nat} : ∀ (k o : Nat) {v : Value} {es : List Nd} {gs : List Nat}, Sp w A n0 o v es gs → k ≤ o → ∃ gs', (∀ g ∈ gs', g ∈ gs) ∧ ∀ A', (∀ b, A' b → A b) → (∀ g ∈ gs, A' g → g ∈ gs') → Sp w A' n0 k v es gs'
  | 0, 0, v, es, gs, h, _ => ⟨gs, fun _ h => h, fun A' hA _ => Sp.frame (Nat.le_refl _) (fun _ _ _ => rfl) (fun b hb => .inl (hA b hb)) 0 h (fun _ _ => rfl)⟩
  | 0, o + 1, v, es, gs, ⟨pre, nm, ps, xp, u, g, gs', h1, h2, h3, h4, h5, h6, h7⟩, _ => by
    refine ⟨[g], by simp [h2], fun A' hA hg => ?_⟩
    subst h1
    have hu := Sp.rep hA o h7 (fun k hk ha => by
      have := hg k (by rw [h2]; simp [hk]) ha
      simp at this; subst this; exact h4 hk)
    exact ⟨_, by simpa using h5, (h6.frame (Nat.le_refl _) (fun _ _ _ => rfl) (fun b hb => .inl (hA b hb))).oneUp hu, by rw [h3]; rfl⟩
  | k + 1, o + 1, v, es, gs, ⟨pre, nm, ps, xp, u, g, gs', h1, h2, h3, h4, h5, h6, h7⟩, hk => by
    obtain ⟨gs2, k1, k2⟩ := Sp.less k o h7 (by omega)
    refine ⟨g :: gs2, fun x hx => ?_, fun A' hA hg => ?_⟩
    · rw [h2]
      rcases List.mem_cons.1 hx with rfl | hx
      · simp
      · simp [k1 x hx]
    · refine ⟨pre, nm, ps, xp, u, g, gs2, h1, rfl, h3, fun h => h4 (k1 g h), h5, h6.frame (Nat.le_refl _) (fun _ _ _ => rfl) (fun b hb => .inl (hA b hb)), k2 A' hA (fun x hx ha => ?_)⟩
      have := hg x (by rw [h2]; simp [hx]) ha
      rcases List.mem_cons.1 this with rfl | h
      · exact absurd hx h4
      · exact h
  | k + 1, 0, v, es, gs, h, hk => absurd hk (by omega)
end Go.VL.SpN
