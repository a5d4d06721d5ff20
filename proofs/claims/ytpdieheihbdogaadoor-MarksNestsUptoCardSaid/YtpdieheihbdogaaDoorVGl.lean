/- Package variables that a door seat lists. -/
import Derived.Test.YtpdieheihbdogaaDoorVLaw
set_option linter.unusedVariables false
set_option linter.unusedSimpArgs false
namespace Go.VL
open Go Go.RowKit Go.ChangeShapes Go.WideShapes
variable {P : Program} {w : World}
/-- A program that has strings.asciiSpace alone. -/
theorem GlobOK.space (hE : P.globalNamed "strconv.ErrSyntax" = Option.none) (hm : P.globalNamed "internal/bytealg.MaxLen" = Option.none) (hb : P.globalNamed "bobbinet/tree.blocks" = Option.none) (hv : P.globalNamed "bobbinet/tree.voids" = Option.none) (ht : Lib.TabIs P w "strings.asciiSpace" .u8 Lib.asciiSpaceTab) : GlobOK P (fun _ => False) (fun _ => False) w := fun x g hx hg => by
  refine ⟨id, id, ?_⟩
  simp only [Gl, List.mem_cons, List.not_mem_nil, or_false] at hx
  rcases hx with rfl | rfl | rfl | rfl | rfl
  · obtain ⟨e, fr, h⟩ := var_cells hg ht
    exact ⟨_, e, fr, h, rfl⟩
  · rw [hm] at hg; cases hg
  · rw [hE] at hg; cases hg
  · rw [hb] at hg; cases hg
  · rw [hv] at hg; cases hg
/-- A program that has internal/bytealg.MaxLen alone: it holds some number. -/
theorem GlobOK.maxLen (hE : P.globalNamed "strconv.ErrSyntax" = Option.none) (hs : P.globalNamed "strings.asciiSpace" = Option.none) (hb : P.globalNamed "bobbinet/tree.blocks" = Option.none) (hv : P.globalNamed "bobbinet/tree.voids" = Option.none)
    (hM : ∀ g, P.globalNamed "internal/bytealg.MaxLen" = some g → ∃ m e fr, w.heap[g]? = some (.cells #[.int .i64 m] e fr)) : GlobOK P (fun _ => False) (fun _ => False) w := fun x g hx hg => by
  refine ⟨id, id, ?_⟩
  simp only [Gl, List.mem_cons, List.not_mem_nil, or_false] at hx
  rcases hx with rfl | rfl | rfl | rfl | rfl
  · rw [hs] at hg; cases hg
  · obtain ⟨m, e, fr, h⟩ := hM g hg
    exact ⟨_, e, fr, h, m, rfl⟩
  · rw [hE] at hg; cases hg
  · rw [hb] at hg; cases hg
  · rw [hv] at hg; cases hg
/-- .. that has internal/bytealg.MaxLen and strconv.ErrSyntax. -/
theorem GlobOK.maxErr (hs : P.globalNamed "strings.asciiSpace" = Option.none) (hb : P.globalNamed "bobbinet/tree.blocks" = Option.none) (hv : P.globalNamed "bobbinet/tree.voids" = Option.none)
    (hM : ∀ g, P.globalNamed "internal/bytealg.MaxLen" = some g → ∃ m e fr, w.heap[g]? = some (.cells #[.int .i64 m] e fr))
    (hE : ∃ v, w.var? P "strconv.ErrSyntax" = some #[v] ∧ (v = .nilIface ∨ ∃ t p, v = .iface t p)) : GlobOK P (fun _ => False) (fun _ => False) w := fun x g hx hg => by
  refine ⟨id, id, ?_⟩
  simp only [Gl, List.mem_cons, List.not_mem_nil, or_false] at hx
  rcases hx with rfl | rfl | rfl | rfl | rfl
  · rw [hs] at hg; cases hg
  · obtain ⟨m, e, fr, h⟩ := hM g hg
    exact ⟨_, e, fr, h, m, rfl⟩
  · obtain ⟨v, h1, h2⟩ := hE
    unfold World.var? at h1
    rw [hg] at h1
    simp only [Option.bind_some] at h1
    cases ho : w.heap[g]? with
    | none => simp [ho] at h1
    | some o =>
      simp only [ho] at h1
      cases o <;> simp at h1
      subst h1
      exact ⟨_, _, _, rfl, v, rfl, h2⟩
  · rw [hb] at hg; cases hg
  · rw [hv] at hg; cases hg
/-- A variable of one number holds some number. -/
theorem int_of_shape {g : Nat} {t : TypeId} {zero : Array Value} (h : w.ShapedOpen P) (hg : g < P.globals.size)
    (h0 : ((begin P (fun _ _ => 0) default).world.heap[g]?).bind Obj.row? = some (zero, t)) (hz : zero.size = 1)
    (hb : P.buildable t = true) (hc : P.cellTypes P.depth t = some [t]) (hu : P.underlying t = some (.int .i64)) : ∃ m e fr, w.heap[g]? = some (.cells #[.int .i64 m] e fr) := by
  obtain ⟨cs, hh, hs, hr⟩ := h.1 g zero t hg h0
  obtain ⟨ts, hts, _, hall⟩ := hr hb
  rw [hc] at hts
  cases hts
  have h1 : 0 < cs.size := by omega
  obtain ⟨u, hu', hok⟩ := hall 0 cs[0] (by simp [h1])
  have : u = t := by simpa using hu'.symm
  subst this
  unfold Cell.ok at hok
  rw [hu] at hok
  have hcs : cs = #[cs[0]] := by
    apply Array.ext
    · simp; omega
    · intro i h2 h3
      have : i = 0 := by simp at h3; omega
      subst this
      rfl
  cases hv : cs[0] <;> rw [hv] at hok <;> first | (simp at hok; done) | skip
  obtain ⟨rfl, _⟩ := hok
  rw [hv] at hcs
  exact ⟨_, u, _, by rw [hh, hcs]⟩
end Go.VL
