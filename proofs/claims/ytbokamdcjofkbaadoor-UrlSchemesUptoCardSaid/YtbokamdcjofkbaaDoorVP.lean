/- Literals, make, bytes, conversions, ranges over strings. -/
import Derived.Test.YtbokamdcjofkbaaDoorVO
set_option linter.unusedVariables false
set_option linter.unusedSimpArgs false
namespace Go.VL
open Go Go.RowKit

variable {P : Program} {X O : Nat → Prop} {w0 w w' : World} {θ θ' : Th} {st : St} {a : Act} {N : Nat → Prop}

theorem zq_dcell {h : Hp} {u : Value} {x : T} {d : D} (hz : zq u x = true) (hd : dcell h x = some d) : RepD w N u d := by
  have hr := zq_rep (w := w) (N := N) (θ := fun _ => none) hz
  cases x with
  | d y => simp [dcell] at hd; subst hd; exact hr.d_inv
  | nils => simp [dcell, valF] at hd; subst hd; have := hr.nils_inv; subst this; exact .nil
  | full id => obtain ⟨l, h1, _⟩ := hr.full_inv; cases h1
  | own id o l => obtain ⟨l, h1, _⟩ := hr.own_inv; cases h1
  | _ => simp [dcell, valF] at hd

theorem flat_zero {h : Hp} {zs : List T} {zd : List D} {zc : Array Value} (hz : ∀ (j : Nat) (x : T), zs[j]? = some x → ∃ u, zc[j]? = some u ∧ zq u x = true) (hd : dcells h zs = some zd) :
    zd.length = zs.length ∧ ∀ (j : Nat) (d : D), zd[j]? = some d → ∃ u, zc[j]? = some u ∧ RepD w N u d := by
  obtain ⟨h1, h2⟩ := dcells_spec hd
  refine ⟨h1, fun j d hj => ?_⟩
  obtain ⟨x, x1, x2⟩ := h2 j d hj
  obtain ⟨u, u1, u2⟩ := hz j x x1
  exact ⟨u, u1, zq_dcell u2 x2⟩

/-- So many zeros. -/
theorem flat_rep {zd : List D} {zc : Array Value} {n : Nat} (hl : zd.length = zc.size) (hz : ∀ (j : Nat) (d : D), zd[j]? = some d → ∃ u, zc[j]? = some u ∧ RepD w N u d) :
    FlatD w N ((List.range (n * zc.size)).map fun k => zc[k % zc.size]!) (List.replicate n zd) zc.size := by
  refine ⟨by simp, fun c hc => by rw [(List.mem_replicate.mp hc).2, hl], fun i j x hx => ?_⟩
  rw [List.getElem?_replicate] at hx
  by_cases hi : i < n
  · rw [if_pos hi] at hx
    simp only [Option.bind_some] at hx
    obtain ⟨u, u1, u2⟩ := hz j x hx
    have hj : j < zc.size := by rw [← hl]; exact (List.getElem?_eq_some_iff.mp hx).1
    have hm : (i * zc.size + j) % zc.size = j := by rw [Nat.mul_comm, Nat.mul_add_mod]; exact Nat.mod_eq_of_lt hj
    refine ⟨u, ?_, u2⟩
    rw [List.getElem?_map, List.getElem?_range (mul_add_lt hi hj)]
    simp only [Option.map_some, hm]
    rw [Array.getElem?_eq_getElem hj] at u1
    cases u1
    simp [hj]
  · rw [if_neg hi] at hx; simp at hx

theorem evMake_sound {tab : Tab} (tk : TabOK P tab) (hs : Sat P X O w0 θ st a w) {t : Nat} {vl vc : Value} {l c : T} {dst : Option Nat} {K : St → Prop} (hl : RepT w (Nn X θ st.h) θ vl l) (hc : RepT w (Nn X θ st.h) θ vc c)
    (h : evMake tab t l c dst st K) : ∃ u w', (Instr.makeSlice t vl vc).run P w = .ok u w' ∧ Post P X O w0 θ K (a.put dst u) w' := by
  unfold evMake at h
  split at h
  case h_2 => exact h.elim
  rename_i i n m ht
  obtain rfl := hl.int_inv
  obtain rfl := hc.int_inv
  cases hk : i.k <;> simp only [hk] at h <;> try exact h.elim
  rename_i e
  have hu := tab.slice_of tk ht hk
  cases hy : tab.ty e with
  | none => simp [hy] at h
  | some y =>
    simp only [hy] at h
    split at h
    case h_2 => exact h.elim
    rename_i z hz hpos
    have hpos := Nat.blt_eq.mp hpos
    cases hd : dcells st.h z with
    | none => simp [hd] at h
    | some zd =>
      simp only [hd] at h
      obtain ⟨⟨q1, q2, q3, q4⟩, h⟩ := h
      obtain ⟨info, zv, i1, i2, i3, i4, i5, i6, _, i7⟩ := zero_of tk hy hz
      obtain ⟨z1, z2⟩ := flat_zero (w := w) (N := Nn X θ st.h) i7 hd
      have hszP : info.size = P.cellsOf e := by simp [Program.cellsOf, i1]
      have hws : ∀ {k : Int}, 0 ≤ k → k ≤ 9223372036854775807 → IntKind.i64.wrap k = k := fun {k} h0 h1 => InR_wrap (by simp only [InR]; omega)
      have hf := flat_rep (w := w) (N := Nn X θ st.h) (n := n.toNat) (by omega) z2
      have hlist : List.range (n.toNat * zv.cells.size) ++ List.range' (n.toNat * zv.cells.size) ((m.toNat - n.toNat) * zv.cells.size) = List.range (m.toNat * zv.cells.size) := by
        rw [List.range_eq_range', List.range_eq_range']
        have := @List.range'_append_1 0 (n.toNat * zv.cells.size) ((m.toNat - n.toNat) * zv.cells.size)
        rw [Nat.zero_add, ← Nat.add_mul, show n.toNat + (m.toNat - n.toNat) = m.toNat by omega] at this
        exact this
      have hwn := hws q1 (by omega)
      have hwm := hws (show 0 ≤ m by omega) q4
      refine ⟨_, _, ?_, row_new (fr := (0, 0)) (e := e) (cap := m.toNat) (rest := ((List.range' (n.toNat * zv.cells.size) ((m.toNat - n.toNat) * zv.cells.size)).map fun k => zv.cells[k % zv.cells.size]!)) hs (by omega) hf ?_ ?_ (nf0 _) h⟩
      · have hb48 : ¬ ((info.bytes : Int) * m > 2 ^ 48) := by
          have : ((info.bytes : Int) * m) = m * (y.bytes : Int) := by rw [i6, Int.mul_comm]
          rw [this]
          have : (2 : Int) ^ 48 = 281474976710656 := by decide
          omega
        have c1 : ¬ (m < 0) := by omega
        have c2 : ¬ (n < 0) := by omega
        have c3 : ¬ (n > m) := by omega
        have hn0 : ¬ (m.toNat * info.size = 0) ∨ m.toNat = 0 := by
          rcases Nat.eq_zero_or_pos m.toNat with h0 | h0
          · exact .inr h0
          · left; have := Nat.mul_pos h0 (show 0 < info.size by omega); omega
        simp only [Instr.makeSlice, Sem.run_bind, run_underlying' hu, Result.andThen_ok, asInt, asIntOf, pure_bind, run_typeInfo' i1, hwn, hwm]
        simp only [c1, c2, c3, hb48, decide_false, Bool.or_false, Bool.false_eq_true, if_false, Sem.run_bind, run_askRoom, Result.andThen_ok, run_sizeOf i1]
        have hss : info.size = zv.cells.size := by omega
        rw [hss, ← List.map_append, hlist]
        by_cases h00 : m.toNat * zv.cells.size = 0
        · rw [if_pos h00, h00]
          simp only [newRow, Sem.run_bind, run_newObj, Result.andThen_ok, Sem.run_pure, List.length_replicate, List.range_zero, List.map_nil]
          have : ∀ f : Nat → Value, Array.map f (Array.range 0) = ([] : List Value).toArray := fun f => by simp
          rw [this]
          rfl
        · rw [if_neg h00]
          simp only [newRow, Sem.run_bind, run_zeroValue i1 i2, run_newObj, Result.andThen_ok, Sem.run_pure, List.length_replicate]
          have : Array.map (fun x => zv.cells[x % zv.cells.size]!) (Array.range (m.toNat * zv.cells.size)) = (List.map (fun k => zv.cells[k % zv.cells.size]!) (List.range (m.toNat * zv.cells.size))).toArray := by
            apply Array.ext'; simp
          rw [this]
          rfl
      · rw [← List.map_append, hlist]; simp
      · simp; omega

theorem evIx_sound {tab : Tab} (tk : TabOK P tab) {t : Nat} {v vi : Value} {x ix : T} {K : T → Prop} (hv : RepT w N θ v x) (hvi : RepT w N θ vi ix) (h : evIx tab t x ix K) :
    ∃ u r, (Instr.index t v vi).run P w = .ok u w ∧ RepT w N θ u r ∧ K r := by
  unfold evIx at h
  split at h
  case h_2 => exact h.elim
  rename_i i k n ht
  obtain rfl := hvi.int_inv
  split at h
  · rename_i s hk
    have hu := tab.str_of tk ht hk
    obtain rfl := hv.str_inv
    obtain ⟨⟨h0, h1⟩, h⟩ := h
    have hlt : n.toNat < s.length := by omega
    refine ⟨_, _, ?_, .int _ _, h s[n.toNat] (by simp [hlt])⟩
    have hg : (⟨s.toArray⟩ : ByteArray)[n.toNat]? = some s[n.toNat] := by
      have : n.toNat < (⟨s.toArray⟩ : ByteArray).size := by simpa [ByteArray.size] using hlt
      rw [getElem?_pos (⟨s.toArray⟩ : ByteArray) n.toNat this]
      rfl
    simp only [Instr.index, asIntOf, pure_bind, Sem.run_bind, run_underlying' hu, Result.andThen_ok, h0, if_true, hg, Sem.run_pure]
  · rename_i len e cs hk
    have hu := tab.array_of tk ht hk
    cases hy : tab.ty e with
    | none => simp [hy] at h
    | some y =>
      simp only [hy] at h
      obtain ⟨⟨h0, h1⟩, l, hl, h⟩ := h
      obtain ⟨info, d, i1, i2, i3, i4, _⟩ := tk.ty e y hy
      cases hv with
      | agg vs _ hsz hx =>
        have hld : ldT tab e (dropN cs (n.toNat * y.size)) K := by
          unfold ldT
          simp only [hy, hl]
          cases ha : y.k.agg with
          | true => simpa [ha] using h
          | false =>
            simp only [ha] at h
            obtain ⟨e1, e2⟩ := takeN_eq _ _ _ hl
            cases l with
            | nil => exact h.elim
            | cons v r =>
              cases r with
              | cons _ _ => exact h.elim
              | nil =>
                simp only at h
                cases hq : dropN cs (n.toNat * y.size) with
                | nil => rw [hq] at e1; simp at e1
                | cons v' r' =>
                  rw [hq] at e1
                  cases hys : y.size with
                  | zero => rw [hys] at e1; simp at e1
                  | succ k => rw [hys] at e1; simp at e1; rw [← e1.1]; exact h
        obtain ⟨u, r, h2, h3, h4⟩ := part_sound tk hsz hx hld
        refine ⟨u, r, ?_, h3, h4⟩
        simp only [Instr.index, asIntOf, pure_bind, Sem.run_bind, run_underlying' hu, Result.andThen_ok, h0, h1, and_self, if_true, run_sizeOf i1, i4]
        exact h2
  · exact h.elim

theorem evNext_sound (hs : Sat P X O w0 θ st a w) {ty : Nat} {v : Value} {x : T} {dst : Option Nat} {K : St → Prop} (hv : RepT w (Nn X θ st.h) θ v x) (h : evNext x dst st K) :
    ∃ u w', (Instr.next v true ty).run P w = .ok u w' ∧ Post P X O w0 θ K (a.put dst u) w' := by
  unfold evNext at h
  simp only [forceS_eq, withSt_eq] at h
  split at h
  case h_2 => exact h.elim
  rename_i id
  cases hlk : look st.h id with
  | none => simp [hlk] at h
  | some ob =>
    cases ob <;> simp only [hlk] at h <;> try exact h.elim
    rename_i s pos
    cases hv with
    | itr _ L hθ b hb =>
      obtain ⟨L', k1, b', k2, k3⟩ := hs.hp.ob id _ hlk
      rw [hθ] at k1; cases k1
      rw [hb] at k2; cases k2
      have hsz : (⟨s.toArray⟩ : ByteArray).size = s.length := by simp [ByteArray.size]
      have hg : (getObj b).run P w = .ok (.stringIter ⟨s.toArray⟩ pos) w := by simp [getObj, Sem.run, k3]
      by_cases hp : pos < s.length
      · have h := h.1 (decide_eq_true hp)
        have hw : Wr w b { w with heap := w.heap.setIfInBounds b (.stringIter ⟨s.toArray⟩ (pos + (Utf8.decode ⟨s.toArray⟩ pos).2)) } :=
          ⟨rfl, rfl, rfl, by simp, fun c hc => by simp [Ne.symm hc], fun c cs e fr hcs => by
            by_cases hc : c = b
            · subst hc; rw [k3] at hcs; cases hcs
            · exact ⟨cs, fr, by simp [Ne.symm hc, hcs], rfl⟩⟩
        have hlt : b < w.heap.size := (Array.getElem?_eq_some_iff.mp k3).1
        have hs1 := hs.wrote (ob' := .iter s (pos + (Utf8.decode ⟨s.toArray⟩ pos).2)) hlk hθ hb hw ⟨b, hb, by simp [hlt]⟩
        refine ⟨_, _, ?_, putK_post h hs1 (v := .tuple #[.bool true, goInt pos, .int .i32 (Utf8.decode ⟨s.toArray⟩ pos).1]) ?_⟩
        · simp only [Instr.next, Sem.run_bind, hg, Result.andThen_ok, hsz, hp, if_true, setObj, Sem.run, k3, Sem.run_pure]
        · refine .tup _ _ rfl (fun i x hx => ?_)
          match i with
          | 0 => simp at hx; subst hx; exact .bool true
          | 1 => simp at hx; subst hx; exact .int _ _
          | 2 => simp at hx; subst hx; exact .int _ _
          | i + 3 => simp at hx
      · have h := h.2 (decide_eq_false hp)
        refine ⟨_, _, ?_, putK_post h hs (v := .tuple #[.bool false]) ?_⟩
        · simp only [Instr.next, Sem.run_bind, hg, Result.andThen_ok, hsz, hp, if_false, Sem.run_pure]
        · refine .tup _ _ rfl (fun i x hx => ?_)
          match i with
          | 0 => simp at hx; subst hx; exact .bool false
          | i + 1 => simp at hx

theorem fill_zip {vs : Array Value} {off : Nat} : ∀ (l : List Value) (k : Nat) (cs : Array Value), off + k + l.length ≤ cs.size →
    ((l.zipIdx k).foldl (fun cs (p : Value × Nat) => cs.setIfInBounds (off + p.2) p.1) cs).size = cs.size ∧ ∀ q, ((l.zipIdx k).foldl (fun cs (p : Value × Nat) => cs.setIfInBounds (off + p.2) p.1) cs)[q]? = if off + k ≤ q ∧ q < off + k + l.length then l[q - (off + k)]? else cs[q]?
  | [], k, cs, _ => ⟨rfl, fun q => by rw [if_neg (fun hh => by simp at hh; omega)]; rfl⟩
  | v :: r, k, cs, h => by
    simp only [List.zipIdx_cons, List.foldl_cons]
    simp only [List.length_cons] at h
    obtain ⟨h1, h2⟩ := fill_zip (vs := vs) (off := off) r (k + 1) (cs.setIfInBounds (off + k) v) (by simp; omega)
    refine ⟨by rw [h1]; simp, fun q => ?_⟩
    rw [h2 q]
    by_cases h0 : q = off + k
    · subst h0
      rw [if_neg (by omega), if_pos (by simp)]
      simp [Array.getElem?_setIfInBounds]
      omega
    · by_cases h3 : off + (k + 1) ≤ q ∧ q < off + (k + 1) + r.length
      · rw [if_pos h3, if_pos (by simp; omega)]
        obtain ⟨m, rfl⟩ : ∃ m, q = off + (k + 1) + m := ⟨q - (off + (k + 1)), by omega⟩
        rw [show off + (k + 1) + m - (off + (k + 1)) = m by omega, show off + (k + 1) + m - (off + k) = m + 1 by omega]
        simp
      · rw [if_neg h3, if_neg (by simp; omega)]
        simp [Ne.symm h0]

theorem fill_step {place : Nat → Option (Nat × Nat)} {i off sz : Nat} {v : Value} {r : List (Nat × Value)} {cs : Array Value} (hp : place i = some (off, sz)) (hv : v.cells.size = sz) (hin : off + sz ≤ cs.size) :
    ∃ cs' : Array Value, Instr.fill place cs ((i, v) :: r) = Instr.fill place cs' r ∧ cs'.size = cs.size ∧ ∀ q, cs'[q]? = if off ≤ q ∧ q < off + sz then v.cells[q - off]? else cs[q]? := by
  obtain ⟨h1, h2⟩ := fill_zip (vs := v.cells) (off := off) v.cells.toList 0 cs (by simp; omega)
  refine ⟨_, ?_, h1, fun q => ?_⟩
  · simp only [Instr.fill, hp]
    rw [if_neg (by simp; omega)]
    congr 1
    rw [← Array.foldl_toList]
    simp
  · rw [h2 q]
    simp [hv]
end Go.VL
