/- The law Names answers true: every constant table of api keeps its order and its numbers. No condition. -/
import Derived.Test.YtleedkindimmiaaPNamesx1
namespace Go.Proofs.Ytleedkindimmiaa.Pure
open Go.RowKit Go.Proofs.Ytleedkindimmiaa.PNames Go.Proofs.YtleedkindimmiaaW.PrintWords Go.Proofs.YtleedkindimmiaaW.PrintLast

/-- YOURS: ∃ k, bobbinetlaw_Names.f k  = some true
What it reaches (each with k first where it has rounds; `.mono`: more rounds tell the same; `.l0`, ..: its loops, with `.mono_l`): bobbinetlaw_Names.f -/
theorem Names : bobbinetlaw_Names.Pure := by
  refine ⟨60, ?_⟩
  decide +kernel

end Go.Proofs.Ytleedkindimmiaa.Pure
