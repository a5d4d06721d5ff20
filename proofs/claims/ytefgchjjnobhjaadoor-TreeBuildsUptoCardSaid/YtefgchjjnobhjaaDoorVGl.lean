/- Package variables that a door seat lists. -/
import Derived.Lib.LaidTab
import Derived.Stop.LaidErr
import Derived.Test.YtefgchjjnobhjaaDoorVLaw
set_option linter.unusedVariables false
set_option linter.unusedSimpArgs false
namespace Go.VL
open Go Go.RowKit Go.ChangeShapes Go.WideShapes
variable {P : Program} {w : World}
/-- A program that has strings.asciiSpace alone. -/
theorem GlobOK.space (hE : P.globalNamed "strconv.ErrSyntax" = Option.none) (hm : P.globalNamed "internal/bytealg.MaxLen" = Option.none) (hb : P.globalNamed "bobbinet/tree.blocks" = Option.none) (hv : P.globalNamed "bobbinet/tree.voids" = Option.none) (ht : Lib.TabIs P w "strings.asciiSpace" .u8 Lib.asciiSpaceTab) : GlobOK P (fun _ => False) (fun _ => False) w := fun x g hx hg => by
  refine ⟨id, id, ?_⟩
  simp only [Gl, List.mem_cons, List.not_mem_nil, or_false] at hx
  rcases hx with rfl | rfl | rfl | rfl | rfl
  · obtain ⟨e, fr, h⟩ := var_cells hg ht
    exact ⟨_, e, fr, h, rfl⟩
  · rw [hm] at hg; cases hg
  · rw [hE] at hg; cases hg
  · rw [hb] at hg; cases hg
  · rw [hv] at hg; cases hg
/-- A program that has internal/bytealg.MaxLen alone: it holds some number. -/
theorem GlobOK.maxLen (hE : P.globalNamed "strconv.ErrSyntax" = Option.none) (hs : P.globalNamed "strings.asciiSpace" = Option.none) (hb : P.globalNamed "bobbinet/tree.blocks" = Option.none) (hv : P.globalNamed "bobbinet/tree.voids" = Option.none)
    (hM : ∀ g, P.globalNamed "internal/bytealg.MaxLen" = some g → ∃ m e fr, w.heap[g]? = some (.cells #[.int .i64 m] e fr)) : GlobOK P (fun _ => False) (fun _ => False) w := fun x g hx hg => by
  refine ⟨id, id, ?_⟩
  simp only [Gl, List.mem_cons, List.not_mem_nil, or_false] at hx
  rcases hx with rfl | rfl | rfl | rfl | rfl
  · rw [hs] at hg; cases hg
  · obtain ⟨m, e, fr, h⟩ := hM g hg
    exact ⟨_, e, fr, h, m, rfl⟩
  · rw [hE] at hg; cases hg
  · rw [hb] at hg; cases hg
  · rw [hv] at hg; cases hg
/-- .. that has internal/bytealg.MaxLen and strconv.ErrSyntax. -/
theorem GlobOK.maxErr (hs : P.globalNamed "strings.asciiSpace" = Option.none) (hb : P.globalNamed "bobbinet/tree.blocks" = Option.none) (hv : P.globalNamed "bobbinet/tree.voids" = Option.none)
    (hM : ∀ g, P.globalNamed "internal/bytealg.MaxLen" = some g → ∃ m e fr, w.heap[g]? = some (.cells #[.int .i64 m] e fr))
    (hE : ∃ v, w.var? P "strconv.ErrSyntax" = some #[v] ∧ (v = .nilIface ∨ ∃ t p, v = .iface t p)) : GlobOK P (fun _ => False) (fun _ => False) w := fun x g hx hg => by
  refine ⟨id, id, ?_⟩
  simp only [Gl, List.mem_cons, List.not_mem_nil, or_false] at hx
  rcases hx with rfl | rfl | rfl | rfl | rfl
  · rw [hs] at hg; cases hg
  · obtain ⟨m, e, fr, h⟩ := hM g hg
    exact ⟨_, e, fr, h, m, rfl⟩
  · obtain ⟨v, h1, h2⟩ := hE
    unfold World.var? at h1
    rw [hg] at h1
    simp only [Option.bind_some] at h1
    cases ho : w.heap[g]? with
    | none => simp [ho] at h1
    | some o =>
      simp only [ho] at h1
      cases o <;> simp at h1
      subst h1
      exact ⟨_, _, _, rfl, v, rfl, h2⟩
  · rw [hb] at hg; cases hg
  · rw [hv] at hg; cases hg
/-- A variable of one number holds some number. -/
theorem int_of_shape {g : Nat} {t : TypeId} {zero : Array Value} (h : w.ShapedOpen P) (hg : g < P.globals.size)
    (h0 : ((begin P (fun _ _ => 0) default).world.heap[g]?).bind Obj.row? = some (zero, t)) (hz : zero.size = 1)
    (hb : P.buildable t = true) (hc : P.cellTypes P.depth t = some [t]) (hu : P.underlying t = some (.int .i64)) : ∃ m e fr, w.heap[g]? = some (.cells #[.int .i64 m] e fr) := by
  obtain ⟨cs, hh, hs, hr⟩ := h.1 g zero t hg h0
  obtain ⟨ts, hts, _, hall⟩ := hr hb
  rw [hc] at hts
  cases hts
  have h1 : 0 < cs.size := by omega
  obtain ⟨u, hu', hok⟩ := hall 0 cs[0] (by simp [h1])
  have : u = t := by simpa using hu'.symm
  subst this
  unfold Cell.ok at hok
  rw [hu] at hok
  have hcs : cs = #[cs[0]] := by
    apply Array.ext
    · simp; omega
    · intro i h2 h3
      have : i = 0 := by simp at h3; omega
      subst this
      rfl
  cases hv : cs[0] <;> rw [hv] at hok <;> first | (simp at hok; done) | skip
  obtain ⟨rfl, _⟩ := hok
  rw [hv] at hcs
  exact ⟨_, u, _, by rw [hh, hcs]⟩
end Go.VL

/- Package variables that are arrays of texts. -/
namespace Go.VL
open Go Go.RowKit Go.Lib
def strTab {H : Type} (ss : List (List UInt8)) : DataW H := .agg (ss.map fun s => .lit (.string s))
theorem cells_of_strs {H : Type} {enc : TypeId × Value → H} {P : Program} {w : World} {base : Nat} {sp : Nat → Bool} {held : Bool} {fuel : Nat} {t e : TypeId} {n : Nat} {cs : List Value} {ss : List (List UInt8)} {p : List MemPlace}
    (ht : P.underlying t = some (.array n e)) (he : P.underlying e = some .string) (hce : P.cellsOf e = 1) (hct : P.cellsOf t = n)
    (h : DataW.trod enc P w base sp held fuel t cs = some (strTab ss, p)) : cs = ss.map fun s => Value.string ⟨s.toArray⟩ := by
  cases fuel with
  | zero => simp [DataW.trod] at h
  | succ fuel =>
    simp only [DataW.trod, ht, hce, hct, Nat.mul_one] at h
    split at h
    · rename_i hl
      obtain ⟨xs, hm, hx⟩ := Option.map_eq_some_iff.1 h
      have hxs : xs.map (·.1) = ss.map fun s => (DataW.lit (.string s) : DataW H) := by
        have := congrArg Prod.fst hx
        simpa [strTab] using this
      have hxl : xs.length = n := by simpa using mapM_length hm
      have hzl : ss.length = n := by
        have := congrArg List.length hxs
        simp at this
        omega
      apply List.ext_getElem?
      intro i
      by_cases hi : i < n
      · obtain ⟨b, hb, hf⟩ := mapM_at hm i i (by simp [hi])
        obtain ⟨z, hc, rfl, _⟩ := DataW.trod_string he hf
        have h1 : cs[i]? = some (.string z) := by
          have := congrArg (·[0]?) hc
          simpa [List.getElem?_take, List.getElem?_drop] using this
        have h2 : (xs.map (·.1))[i]? = some (DataW.lit (.string z.data.toList) : DataW H) := by simp [hb]
        rw [hxs] at h2
        simp only [List.getElem?_map, Option.map_eq_some_iff, DataW.lit.injEq, Lit.string.injEq] at h2
        obtain ⟨z', hz', rfl⟩ := h2
        simp [h1, hz']
      · rw [List.getElem?_eq_none (by omega), List.getElem?_eq_none (by simp; omega)]
    · cases h
theorem strs_of_head {P : Program} {W : World} {name : String} {ss : List (List UInt8)} {rest : List (String × DataW Unit)} {g : Nat} {t e : TypeId} {n : Nat}
    (hg : P.globalNamed name = some g) (hty : (P.globals[g]?).map (·.type) = some t) (ht : P.underlying t = some (.array n e)) (he : P.underlying e = some .string) (hce : P.cellsOf e = 1) (hct : P.cellsOf t = n)
    (h : laidMet P ((name, strTab ss) :: rest) W) : W.var? P name = some (ss.map fun s => Value.string ⟨s.toArray⟩).toArray := by
  obtain ⟨ps, ⟨g', t', cs, fuel, p, q, hg', ht', hvar, hd, _, _⟩, _⟩ := h
  obtain rfl := Option.some.inj (hg.symm.trans hg')
  obtain rfl := Option.some.inj (hty.symm.trans ht')
  rw [hvar, ← cells_of_strs ht he hce hct hd]
/-- A program that has tree.blocks and tree.voids. -/
theorem GlobOK.tree {P : Program} {w : World} (hs : P.globalNamed "strings.asciiSpace" = Option.none) (hE : P.globalNamed "strconv.ErrSyntax" = Option.none) (hm : P.globalNamed "internal/bytealg.MaxLen" = Option.none)
    (hb : w.var? P "bobbinet/tree.blocks" = some (([[112], [100, 105, 118], [117, 108], [111, 108], [108, 105], [104, 49], [104, 50], [116, 97, 98, 108, 101], [98, 108, 111, 99, 107, 113, 117, 111, 116, 101]] : List (List UInt8)).map fun s => Value.string ⟨s.toArray⟩).toArray)
    (hv : w.var? P "bobbinet/tree.voids" = some (([[98, 114], [104, 114], [105, 109, 103], [105, 110, 112, 117, 116]] : List (List UInt8)).map fun s => Value.string ⟨s.toArray⟩).toArray) : GlobOK P (fun _ => False) (fun _ => False) w := fun x g hx hg => by
  refine ⟨id, id, ?_⟩
  simp only [Gl, List.mem_cons, List.not_mem_nil, or_false] at hx
  rcases hx with rfl | rfl | rfl | rfl | rfl
  · rw [hs] at hg; cases hg
  · rw [hm] at hg; cases hg
  · rw [hE] at hg; cases hg
  · obtain ⟨e, fr, h⟩ := var_cells hg hb
    exact ⟨_, e, fr, h, rfl⟩
  · obtain ⟨e, fr, h⟩ := var_cells hg hv
    exact ⟨_, e, fr, h, rfl⟩
end Go.VL
