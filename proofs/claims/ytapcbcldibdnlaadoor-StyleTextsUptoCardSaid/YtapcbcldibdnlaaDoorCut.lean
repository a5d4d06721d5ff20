/- strings.Cut and strings.Trim here. -/
import Derived.Test.YtapcbcldibdnlaaDoorVTab
import Derived.Test.YtapcbcldibdnlaaDoorVCut
import Derived.Shelf.Lay
set_option linter.unusedVariables false
set_option linter.unusedSimpArgs false
namespace Go.Proofs
open Go.Shelf
shelf_lay Lays.n145 Nm 145 at Tryd as Tryd.lays145
shelf_lay Lays.n160 Nm 160 at Tryd as Tryd.lays160
end Go.Proofs
namespace Go.VL.Cut
open Go Go.Proofs Go.VL
theorem cutC (s t : Str) (hs : s.length < 4294967281) : CallWP Tryd.prog 18 [(.d (.str (s))), (.d (.str (t)))] [] (fun r h => r = .tup [(.d (.str ((Lib.cut s t).1))), (.d (.str ((Lib.cut s t).2.1))), (.d (.bool ((Lib.cut s t).2.2)))] ∧ h = []) :=
  CallWP.cut Tryd.lays145 (by kernel_rfl) 18 (by kernel_rfl) s t hs
theorem trimC (s t : Str) (hs : s.length < 4294967281) (ht : t.length < 4294967281) (ha : ∀ b ∈ t, b.toNat < 128) : CallWP Tryd.prog 20 [(.d (.str (s))), (.d (.str (t)))] [] (fun r h => r = (.d (.str (Lib.trimS s t))) ∧ h = []) :=
  CallWP.trim Tryd.lays160 (fun w => by kernel_rfl) (by kernel_rfl) 20 (by kernel_rfl) s t hs ht ha
end Go.VL.Cut
