/- strings.Fields here. -/
import Derived.Test.YtdiflegjgikpeaaDoorVTab
import Derived.Test.YtdiflegjgikpeaaDoorVFields
import Derived.Shelf.Lay
set_option linter.unusedVariables false
set_option linter.unusedSimpArgs false
namespace Go.Proofs
open Go.Shelf
shelf_lay Lays.n157 Nm 157 at Tryd as Tryd.lays157
end Go.Proofs
namespace Go.VL.Fields
open Go Go.Proofs Go.VL
theorem fields_ (s : Str) (hs : s.length < 4294967281) (ha : ∀ b ∈ s, b.toNat < 128) : CallWP Tryd.prog 17 [(.d (.str (s)))] [] (fun r h => r = .d (.sl ((Lib.fields s).map iS)) ∧ h = []) :=
  CallWP.fields Tryd.lays157 (by kernel_rfl) (by kernel_rfl) 17 (by kernel_rfl) s hs ha
end Go.VL.Fields
