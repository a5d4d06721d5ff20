/- A text told as bytes: a row of the call's own. -/
import Derived.Test.YtefgchjjnobhjaaDoorVQ
import Derived.Test.YtefgchjjnobhjaaDoorVM
import Derived.Test.YtefgchjjnobhjaaDoorVJ
import Derived.Lib.ConvBytes
import Derived.Laws.AppendOwn
set_option linter.unusedVariables false
set_option linter.unusedSimpArgs false
namespace Go.VL
open Go Go.RowKit

variable {P : Program} {X O : Nat → Prop} {w0 w w' : World} {θ θ' : Th} {st : St} {a : Act} {N : Nat → Prop}

theorem bytesWorld_eq (w : World) (e : Nat) (s : ByteArray) : Lib.bytesWorld w e s = (w.drew).alloc (.cells (Lib.bytesCells w e s) e ((Lib.bytesCells w e s).size, (Lib.bytesCells w e s).size + 1)) := by
  have hk : ∀ (A : Array Obj) (o : Obj) (f : Obj → Obj) (n : Nat), A.size = n → (A.push o).modify n f = A.push (f o) := fun A o f n hn => by
    apply Array.ext_getElem?
    intro i
    rw [Array.getElem?_modify, Array.getElem?_push, Array.getElem?_push]
    by_cases hi : i = A.size
    · subst hn; subst hi; simp
    · have : ¬ n = i := fun h => hi (by omega)
      simp [hi, this]
  unfold Lib.bytesWorld World.freeze
  simp only [Nat.one_ne_zero, if_false]
  have h3 : (w.drew.alloc (.cells (Lib.bytesCells w e s) e)).heap = w.drew.heap.push (.cells (Lib.bytesCells w e s) e) := rfl
  rw [h3, hk w.drew.heap _ _ w.heap.size rfl]
  simp only [beq_self_eq_true, if_true]
  rfl
theorem evToBytes_sound {tab : Tab} (tk : TabOK P tab) (hs : Sat P X O w0 θ st a w) {s t : Nat} {v : Value} {x : T} {e : Nat} {u : List UInt8} {dst : Option Nat} {K : St → Prop} (hv : RepT w (Nn X θ st.h) θ v x)
    (hb : toBytes tab s t x = some (e, u)) (h : newK dst (.row e (numsD u)) T.full K st) : ∃ u' w', (convert s t v).run P w = .ok u' w' ∧ Post P X O w0 θ K (a.put dst u') w' := by
  unfold toBytes at hb
  split at hb
  case h_2 => cases hb
  rename_i str
  split at hb
  case h_2 => cases hb
  rename_i i j hi hj
  split at hb
  case h_2 => cases hb
  rename_i e' q1 q2
  split at hb
  case h_2 => cases hb
  rename_i h8
  cases hb
  have hu := tab.str_of tk hi q1
  have hu2 := tab.slice_of tk hj q2
  obtain rfl := hv.str_inv
  unfold Tab.isU8 at h8
  cases hy : tab.ty e with
  | none => simp [hy] at h8
  | some y =>
    simp only [hy] at h8
    split at h8
    case h_2 => cases h8
    rename_i hk8
    have hu8 := tab.int_of tk hy hk8
    have hsz : y.size = 1 := Nat.eq_of_beq_eq_true h8
    have hrun := Lib.run_convert_string_bytes w s t e ⟨u.toArray⟩ hu hu2 hu8
    rw [bytesWorld_eq] at hrun
    obtain ⟨info, d, i1, i2, i3, i4, i5⟩ := tk.ty e y hy
    have hP : P.cellsOf e = 1 := by simp [Program.cellsOf, i1, i4, hsz]
    have hsd := hs.drew (w.drawn + 1)
    refine ⟨_, _, hrun, ?_⟩
    have hle : u.length ≤ grownCap w (ByteArray.mk u.toArray).size 0 e := by
      have := grownCap_ge w (ByteArray.mk u.toArray).size 0 e
      simpa [ByteArray.size] using this
    have hsz0 : (ByteArray.mk u.toArray).size = u.length := by simp [ByteArray.size]
    generalize hcap : grownCap w (ByteArray.mk u.toArray).size 0 e = cap at *
    have e2 : ((u.map fun b => Value.int .u8 (b.toNat : Int)) ++ List.replicate (cap - u.length) (Value.int .u8 0)).toArray = Lib.bytesCells w e ⟨u.toArray⟩ := by
      unfold Lib.bytesCells
      rw [hcap, hsz0]
      simp
    have hN : (Lib.bytesCells w e ⟨u.toArray⟩).size = cap := by
      rw [← e2]; simp; omega
    have key := row_new (dst := dst) (es := numsD u) (vs := u.map fun b => Value.int .u8 (b.toNat : Int)) (rest := List.replicate (cap - u.length) (Value.int .u8 0)) (K := K) (e := e) (sz := 1) (cap := cap) (fr := ((Lib.bytesCells w e ⟨u.toArray⟩).size, (Lib.bytesCells w e ⟨u.toArray⟩).size + 1)) hsd hP.symm ?_ ?_ ?_ ?_ h
    · have e1 : (numsD u).length = (ByteArray.mk u.toArray).size := by rw [hsz0]; simp [numsD]
      rw [e1, e2] at key
      exact key
    · refine ⟨by simp [numsD], fun c hc => ?_, fun i j x hx => ?_⟩
      · obtain ⟨b, _, rfl⟩ := List.mem_map.mp hc
        rfl
      · unfold numsD at hx
        rw [List.getElem?_map] at hx
        cases hb : u[i]? with
        | none => simp [hb] at hx
        | some b =>
          simp only [hb, Option.map_some, Option.bind_some] at hx
          cases j with
          | succ j => simp at hx
          | zero =>
            simp at hx
            subst hx
            exact ⟨.int .u8 b.toNat, by simp [hb], .int _ _⟩
    · simp; omega
    · simp [numsD]; omega
    · rw [hN]
      intro o ho h
      simp only [xz] at h ho
      simp at ho
      omega
end Go.VL
