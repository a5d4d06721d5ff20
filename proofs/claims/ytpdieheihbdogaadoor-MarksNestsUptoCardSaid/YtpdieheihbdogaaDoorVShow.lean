/- What is refused of nodes that are to be shown. -/
import Derived.Test.YtpdieheihbdogaaDoorVName
import Derived.Test.YtpdieheihbdogaaDoorVTy4
set_option linter.unusedVariables false
set_option linter.unusedSimpArgs false
set_option linter.unusedVariables false
namespace Go.VL
open Go
def voidL : List Str := [[98, 114], [104, 114], [105, 109, 103], [105, 110, 112, 117, 116]]
def shutL : List Str := [[115, 99, 114, 105, 112, 116], [115, 116, 121, 108, 101], [116, 101, 120, 116, 97, 114, 101, 97], [116, 105, 116, 108, 101]]
def voidB (s : Str) : Bool := voidL.any (s == ·)
def shutB (s : Str) : Bool := shutL.any (s == ·)
def prevText (l : List Nd) (j : Nat) : Bool := if j = 0 then false else match l[j - 1]? with | some n => n.name == [] | none => false
/-- of one node: at: what is refused of its attributes; part: of its parts; pt: is a text ahead of it. -/
def nodeF (deep : Bool) (at_ part : Int) (pt : Bool) (nm : Str) (as : List Attr) (tx : Str) (ps : List Nd) : Int :=
  if deep = true then 6
  else if nm = [] then (if 0 < as.length ∨ 0 < ps.length ∨ tx = [] ∨ pt = true then 4 else 0)
  else if nameB nm = false then 5
  else if at_ ≠ 0 then at_
  else if tx ≠ [] ∨ (voidB nm = true ∧ 0 < ps.length) ∨ shutB nm = true then 4
  else part
def shAt (chkA : List Attr → Int) (rec : List Nd → Int) (deep : Bool) (l : List Nd) (j : Nat) : Int := match l[j]? with
  | some n => nodeF deep (chkA n.attrs) (rec n.ps) (prevText l j) n.name n.attrs n.text n.ps
  | none => 0
def shF (chkA : List Attr → Int) : Nat → List Nd → Int
  | 0, l => firstNZ (shAt chkA (fun _ => 0) true l) l.length
  | d + 1, l => firstNZ (shAt chkA (shF chkA d) false l) l.length
theorem nds_part {l : List Nd} {a : Str} {b : List Attr} {c : Str} {ps : List Nd} {i : Nat} (h : l[i]? = some (.mk a b c ps)) : a.length ≤ szLL (nds l) ∧ c.length ≤ szLL (nds l) ∧ szLL (b.map Attr.d) ≤ szLL (nds l) ∧ szLL (nds ps) ≤ szLL (nds l) := by
  have := szLL_mem (c := (Nd.mk a b c ps).d) (es := nds l) (by rw [nds_eq]; exact List.mem_map_of_mem (List.mem_of_getElem? h))
  simp only [Nd.d, szL, szD] at this
  omega
theorem len_nds : ∀ l : List Nd, l.length ≤ szLL (nds l)
  | [] => by simp
  | n :: r => by
    have := len_nds r
    cases n
    simp only [nds, szLL, Nd.d, szL, szD, List.length_cons]
    omega
theorem prevText_succ {l : List Nd} {i : Nat} {a b c ps} (h : l[i]? = some (Nd.mk a b c ps)) : prevText l (i + 1) = (a == []) := by simp [prevText, h, Nd.name]
end Go.VL
