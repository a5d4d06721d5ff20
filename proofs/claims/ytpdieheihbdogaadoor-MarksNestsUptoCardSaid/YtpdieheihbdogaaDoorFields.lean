/- strings.Fields here. -/
import Derived.Test.YtpdieheihbdogaaDoorVTab
import Derived.Test.YtpdieheihbdogaaDoorVFields
import Derived.Shelf.Lays
set_option linter.unusedVariables false
set_option linter.unusedSimpArgs false
namespace Go.Proofs
open Go.Shelf
def Tryd.lays157_ren : Go.Shelf.Ren := ⟨fun | 157 => 25 | 229 => 30 | 199 => 31 | 261 => 34 | 311 => 36 | 312 => 37 | n => n, fun | 9 => 9 | 31 => 22 | 3 => 3 | 5 => 5 | 4 => 4 | 119 => 55 | 0 => 0 | 40 => 57 | 152 => 59 | 21 => 21 | 154 => 61 | 51 => 62 | 141 => 64 | 196 => 69 | 193 => 66 | 198 => 72 | 49 => 70 | 194 => 67 | 201 => 75 | 226 => 78 | 46 => 79 | 227 => 80 | n => n, fun | 0 => 0 | 6 => 1 | n => n⟩
theorem Tryd.lays157 : Go.Proofs.Lays.n157 Tryd.prog Tryd.lays157_ren := {
  mixed := by kernel_rfl
  f157 := Tryd.func25.trans (congrArg some (by kernel_rfl))
  f199 := Tryd.func31.trans (congrArg some (by kernel_rfl))
  f229 := Tryd.func30.trans (congrArg some (by kernel_rfl))
  f261 := Tryd.func34.trans (congrArg some (by kernel_rfl))
  f311 := Tryd.func36.trans (congrArg some (by kernel_rfl))
  f312 := Tryd.func37.trans (congrArg some (by kernel_rfl))
  t0 := Tryd.underlying0
  a0 := Tryd.isAgg0
  z0 := Tryd.sizeOf0
  v0 := Tryd.zeroValue0
  t3 := Tryd.underlying3
  a3 := Tryd.isAgg3
  z3 := Tryd.sizeOf3
  v3 := Tryd.zeroValue3
  t4 := Tryd.underlying4
  a4 := Tryd.isAgg4
  z4 := Tryd.sizeOf4
  v4 := Tryd.zeroValue4
  t5 := Tryd.underlying5
  a5 := Tryd.isAgg5
  z5 := Tryd.sizeOf5
  v5 := Tryd.zeroValue5
  t9 := Tryd.underlying9
  a9 := Tryd.isAgg9
  z9 := Tryd.sizeOf9
  v9 := Tryd.zeroValue9
  t21 := Tryd.underlying21
  a21 := Tryd.isAgg21
  z21 := Tryd.sizeOf21
  v21 := Tryd.zeroValue21
  t31 := Tryd.underlying22
  a31 := Tryd.isAgg22
  z31 := Tryd.sizeOf22
  v31 := Tryd.zeroValue22
  t40 := Tryd.underlying57
  a40 := Tryd.isAgg57
  z40 := Tryd.sizeOf57
  v40 := Tryd.zeroValue57
  t46 := Tryd.underlying79
  a46 := Tryd.isAgg79
  z46 := Tryd.sizeOf79
  v46 := Tryd.zeroValue79
  t49 := Tryd.underlying70
  a49 := Tryd.isAgg70
  z49 := Tryd.sizeOf70
  v49 := Tryd.zeroValue70
  t51 := Tryd.underlying62
  a51 := Tryd.isAgg62
  z51 := Tryd.sizeOf62
  v51 := Tryd.zeroValue62
  t119 := Tryd.underlying55
  a119 := Tryd.isAgg55
  z119 := Tryd.sizeOf55
  t141 := Tryd.underlying64
  a141 := Tryd.isAgg64
  z141 := Tryd.sizeOf64
  v141 := Tryd.zeroValue64
  t152 := Tryd.underlying59
  a152 := Tryd.isAgg59
  z152 := Tryd.sizeOf59
  v152 := Tryd.zeroValue59
  t154 := Tryd.underlying61
  a154 := Tryd.isAgg61
  z154 := Tryd.sizeOf61
  v154 := Tryd.zeroValue61
  t193 := Tryd.underlying66
  a193 := Tryd.isAgg66
  z193 := Tryd.sizeOf66
  v193 := Tryd.zeroValue66
  t194 := Tryd.underlying67
  a194 := Tryd.isAgg67
  z194 := Tryd.sizeOf67
  v194 := Tryd.zeroValue67
  t196 := Tryd.underlying69
  a196 := Tryd.isAgg69
  z196 := Tryd.sizeOf69
  v196 := Tryd.zeroValue69
  t198 := Tryd.underlying72
  a198 := Tryd.isAgg72
  z198 := Tryd.sizeOf72
  v198 := Tryd.zeroValue72
  t201 := Tryd.underlying75
  a201 := Tryd.isAgg75
  z201 := Tryd.sizeOf75
  v201 := Tryd.zeroValue75
  t226 := Tryd.underlying78
  a226 := Tryd.isAgg78
  z226 := Tryd.sizeOf78
  v226 := Tryd.zeroValue78
  t227 := Tryd.underlying80
  a227 := Tryd.isAgg80
  z227 := Tryd.sizeOf80
  v227 := Tryd.zeroValue80
  g0 := by kernel_rfl
  g6 := by kernel_rfl }
end Go.Proofs
namespace Go.VL.Fields
open Go Go.Proofs Go.VL
theorem fields_ (s : Str) (hs : s.length < 4294967281) (ha : ∀ b ∈ s, b.toNat < 128) : CallWP Tryd.prog 25 [(.d (.str (s)))] [] (fun r h => r = .d (.sl ((Lib.fields s).map iS)) ∧ h = []) :=
  CallWP.fields Tryd.lays157 (by kernel_rfl) (by kernel_rfl) 25 (by kernel_rfl) s hs ha
end Go.VL.Fields
