/- Addresses in plain lists: what is trimmed and taken out. -/
import Derived.Test.YtbokamdcjofkbaaGreatDoorVStyle
import Derived.Lib.SlTrimSet
set_option linter.unusedVariables false
set_option linter.unusedSimpArgs false
namespace Go.VL
open Go
def ctl : Str := [0, 1, 2, 3, 4, 5, 6, 7, 8, 9, 10, 11, 12, 13, 14, 15, 16, 17, 18, 19, 20, 21, 22, 23, 24, 25, 26, 27, 28, 29, 30, 31, 32]
def isC (c : UInt8) : Bool := decide (c.toNat ≤ 32)
/-- No tab, no line end. -/
def keepU (c : UInt8) : Bool := decide (c.toNat ≠ 9 ∧ c.toNat ≠ 10 ∧ c.toNat ≠ 13)
def filtU (s : Str) : Str := s.filter keepU
def trimU (s : Str) : Str := trimR isC (s.dropWhile isC)
def stripU (s : Str) : Str := filtU (trimU s)
theorem ctl_low : ∀ b ∈ ctl, b.toNat < 128 := by decide
theorem ctl_isC (c : UInt8) : ctl.contains c = isC c := by
  have h : ∀ y : Fin 256, ctl.contains (UInt8.ofNat y.val) = isC (UInt8.ofNat y.val) := by decide +kernel
  have := h ⟨c.toNat, c.toNat_lt⟩
  simpa only [UInt8.ofNat_toNat] using this
theorem trimU_eq (s : Str) : Lib.trimS s ctl = trimU s := by
  have e : (ctl.contains ·) = isC := funext ctl_isC
  show (trimR (ctl.contains ·) s).dropWhile (ctl.contains ·) = _
  rw [e, trim_comm]; rfl
theorem trimU_len (s : Str) : (trimU s).length ≤ s.length := by
  have h1 := trimR_len isC (s.dropWhile isC)
  have h2 := dropWhile_len isC s
  unfold trimU
  omega
theorem filtU_len (s : Str) : (filtU s).length ≤ s.length := List.length_filter_le _ _
theorem stripU_len (s : Str) : (stripU s).length ≤ s.length := Nat.le_trans (filtU_len _) (trimU_len s)
theorem filtU_snoc (s : Str) (c : UInt8) : filtU (s ++ [c]) = filtU s ++ if keepU c then [c] else [] := by
  unfold filtU
  rw [List.filter_append]
  cases h : keepU c <;> simp [List.filter, h]
end Go.VL
