/- append, the operation. -/
import Derived.Test.YtbokamdcjofkbaaDoorVN
set_option linter.unusedVariables false
set_option linter.unusedSimpArgs false
namespace Go.VL
open Go Go.RowKit

variable {P : Program} {X O : Nat → Prop} {w0 w w' : World} {θ θ' : Th} {st : St} {a : Act} {N : Nat → Prop}

theorem run_append_fits {ts : Array TypeId} {vs : Array Value} {t xt e ty n sLen sCap : Nat} {d : TypeDesc} {info : TypeInfo} {base : Option Addr} {v2 : Value} {new : List Value}
    (h0 : ts[0]? = some t) (h1 : ts[1]? = some xt) (h2 : vs[0]? = some (.slice base sLen sCap)) (h3 : vs[1]? = some v2) (hu : P.underlying t = some (.slice e)) (hd : P.underlying xt = some d) (hnd : ∀ k, d ≠ .int k) (hi : P.info? e = some info)
    (hl : (Builtin.lenOf v2).run P w = .ok n w) (hf : (Builtin.firstCells info.size n v2).run P w = .ok new.toArray w) (hfit : sLen + n ≤ sCap) :
    (Builtin.append_ ts ty vs).run P w = ((match base with | some A => storeCells (A.add (sLen * info.size)) new | none => pure () : Sem Unit).run P w).andThen fun _ w' => .ok (.slice base (sLen + n) sCap) w' := by
  have hz : ((match d with | .int _ => true | _ => false) : Bool) = false := by cases d <;> first | rfl | exact absurd rfl (hnd _)
  simp only [Builtin.append_, h0, h1, h2, h3, Sem.run_bind, run_underlying' hu, run_underlying' hd, Result.andThen_ok, run_sizeOf hi, Sem.run_pure]
  cases d with
  | int k => exact absurd rfl (hnd k)
  | _ =>
    simp only [Bool.false_eq_true, if_false]
    simp only [hl, Result.andThen_ok, hfit, if_true, Bool.not_false, Sem.run_bind, hf]
    cases base <;> simp

theorem run_append_grows {ts : Array TypeId} {vs : Array Value} {t xt e ty n sLen sCap : Nat} {d : TypeDesc} {info : TypeInfo} {base : Option Addr} {v2 zv : Value} {old new : List Value}
    (h0 : ts[0]? = some t) (h1 : ts[1]? = some xt) (h2 : vs[0]? = some (.slice base sLen sCap)) (h3 : vs[1]? = some v2) (hu : P.underlying t = some (.slice e)) (hd : P.underlying xt = some d) (hnd : ∀ k, d ≠ .int k) (hi : P.info? e = some info) (hzv : info.zero = some zv)
    (hl : (Builtin.lenOf v2).run P w = .ok n w) (ho : ∀ m, (Builtin.firstCells info.size sLen (.slice base sLen sCap)).run P { w with drawn := m } = .ok old.toArray { w with drawn := m })
    (hf : ∀ m, (Builtin.firstCells info.size n v2).run P { w with drawn := m } = .ok new.toArray { w with drawn := m }) (hfit : ¬ sLen + n ≤ sCap)
    (hb : (sLen + n) * info.bytes ≤ 140737488355328) (hm : sLen + n ≤ 9223372036854775807) :
    ∃ cap m rest, sLen + n ≤ cap ∧ rest = Builtin.zeroCells zv.cells (cap - (sLen + n)) ∧ (Builtin.append_ ts ty vs).run P w = .ok (.slice (some ⟨w.heap.size, 0, none⟩) (sLen + n) cap) (({ w with drawn := m } : World).alloc (.cells (old.toArray ++ new.toArray ++ rest) e)) := by
  refine ⟨(Question.appendCap (sLen + n) sCap e).cut (w.tape w.drawn (.appendCap (sLen + n) sCap e)), w.drawn + 1, _, by simp [Question.cut], rfl, ?_⟩
  have hg : ¬ Builtin.nextslicecap (sLen + n) sCap * info.bytes > 281474976710656 := by
    have := growslice_fits (need := sLen + n) (old := sCap) (bytes := info.bytes) (by omega) hb
    omega
  have hmx : ¬ ((sLen + n : Nat) : Int) > IntKind.i64.max := by simp [IntKind.max, IntKind.signed, IntKind.bits]; omega
  simp only [Builtin.append_, h0, h1, h2, h3, Sem.run_bind, run_underlying' hu, run_underlying' hd, Result.andThen_ok, run_sizeOf hi, Sem.run_pure]
  cases d with
  | int k => exact absurd rfl (hnd k)
  | _ =>
    simp only [Bool.false_eq_true, if_false]
    simp only [hl, Result.andThen_ok, hfit, if_false, Bool.not_false, if_true, run_typeInfo' hi, hmx, false_and, Sem.run_bind]
    have h48 : (2 : Nat) ^ 48 = 281474976710656 := by decide
    simp only [h48, hg, if_false, Sem.run_bind, run_choose, Question.forced, Bool.false_eq_true, Result.andThen_ok, run_askRoom, run_typeInfo' hi, ho, hf, run_zeroValue hi hzv, newRow, run_newObj, Sem.run_pure]
    rfl

theorem evAppend_sound {tab : Tab} (tk : TabOK P tab) (hs : Sat P X O w0 θ st a w) {ts : Array TypeId} {vs : Array Value} {ty : Nat} {v1 v2 : Value} {s x : T} {dst : Option Nat} {K : St → Prop} (h2 : vs[0]? = some v1) (h3 : vs[1]? = some v2)
    (hv1 : RepT w (Nn X θ st.h) θ v1 s) (hv2 : RepT w (Nn X θ st.h) θ v2 x) (h : evAppend tab ts.toList s x dst st K) : ∃ u w', (Builtin.append_ ts ty vs).run P w = .ok u w' ∧ Post P X O w0 θ K (a.put dst u) w' := by
  unfold evAppend at h
  simp only [withSt_eq] at h
  split at h
  case h_2 => exact h.elim
  rename_i t xt r hts
  have h0 : ts[0]? = some t := by rw [← Array.getElem?_toList, hts]; rfl
  have h1 : ts[1]? = some xt := by rw [← Array.getElem?_toList, hts]; rfl
  split at h
  case h_2 => exact h.elim
  rename_i i xi ht hxt
  split at h
  · exact h.elim
  · rename_i e hk hnk
    have hu := tab.slice_of tk ht hk
    obtain ⟨xinfo, d, _, d2, d3, _⟩ := tk.ty xt xi hxt
    have hnd : ∀ k, d ≠ .int k := fun k hd => by
      subst hd
      cases hq : xi.k <;> rw [hq] at d3 <;> simp [fitsK] at d3
      exact hnk _ hq
    cases hy : tab.ty e with
    | none => simp [hy] at h
    | some y =>
      simp only [hy] at h
      split at h
      case h_2 => exact h.elim
      rename_i A o B hpos hhead htail
      simp only [Bool.and_eq_true] at hpos
      have hpos' : 0 < y.size := Nat.blt_eq.mp hpos.1
      obtain ⟨z, hz⟩ := Option.isSome_iff_exists.mp hpos.2
      obtain ⟨⟨hb, hm⟩, hBs, h⟩ := h
      obtain ⟨info, zv, i1, i2, i3, i4, i5, i6, _, _⟩ := zero_of tk hy hz
      have hszP : info.size = P.cellsOf e := by simp [Program.cellsOf, i1]
      obtain ⟨t1, nv, t2, t3⟩ := run_tail hs.hp hy i5.symm hv2 htail (by intro c hc; rw [i5]; exact hBs c hc)
      rw [← i6] at hb
      -- what stands ahead
      have hA : elems st.h s = some A := headEs_elems hhead
      have hAs : ∀ c ∈ A, c.length = info.size := by
        intro c hc
        unfold headEs at hhead
        split at hhead
        · cases hhead; simp at hc
        · rename_i id
          cases hl : look st.h id with
          | none => simp [hl] at hhead
          | some ob =>
            cases ob <;> simp [hl] at hhead
            rename_i e' es'
            cases hbq : Nat.beq e' e <;> simp [hbq] at hhead
            obtain rfl := Nat.eq_of_beq_eq_true hbq
            obtain ⟨rfl, _⟩ := hhead
            obtain ⟨L, k1, k2, k3, k4, k5⟩ := hs.hp.ob id _ hl
            rw [k4 c hc, k2, hszP]
        · rename_i id off l
          cases hl : look st.h id with
          | none => simp [hl] at hhead
          | some ob =>
            cases ob <;> simp [hl] at hhead
            rename_i e' es'
            cases hbq : Nat.beq e' e <;> simp [hbq] at hhead
            obtain rfl := Nat.eq_of_beq_eq_true hbq
            obtain ⟨rfl, _⟩ := hhead
            obtain ⟨L, k1, k2, k3, k4, k5⟩ := hs.hp.ob id _ hl
            rw [k4 c (List.mem_of_mem_drop (List.mem_of_mem_take hc)), k2, hszP]
        · cases hhead
      obtain ⟨base, cap, rfl, hcap, _⟩ := slice_cells hs.hp hv1 hA hAs
      -- the heap without what is taken
      have hrem : ∀ m, Sat P X O w0 θ ⟨st.t, remO st.h o, st.n, st.nt⟩ a { w with drawn := m } := fun m => by
        have hd := hs.drew m
        cases o with
        | none => exact hd
        | some id =>
          have : remO st.h (some id) = remL st.h [id] := rfl
          rw [this]
          refine hd.move (Ext.shrink fun b => Nn_remL) (Szp.refl _) (Sub.refl θ) hd.hp.remL hd.fresh hd.kp
      by_cases hfit : A.length + B.length ≤ cap
      · -- in place
        have hrun := run_append_fits (ty := ty) h0 h1 h2 h3 hu d2 hnd i1 t1 (t2 w.drawn) hfit
        cases base with
        | none =>
          have hA0 : cap = 0 ∧ A = [] := by
            have : ∀ {s : T}, RepT w (Nn X θ st.h) θ (.slice none A.length cap) s → headEs st.h e s = some (A, o) → cap = 0 ∧ A = [] := by
              intro s hv hh
              unfold headEs at hh
              split at hh
              · cases hh
                have := hv.nils_inv
                injection this with _ _ q
                exact ⟨q, rfl⟩
              · obtain ⟨l, _, q⟩ := hv.full_inv
                rcases q with ⟨b, cap', ad', q1, _⟩ | ⟨q1, _⟩
                · injection q1 with q1; cases q1
                · injection q1 with _ q2 q3
                  exact ⟨q3, List.length_eq_zero_iff.mp q2⟩
              · obtain ⟨l, _, q⟩ := hv.own_inv
                rcases q with ⟨b, cap', ad', q1, _⟩ | ⟨q1, _⟩
                · injection q1 with q1; cases q1
                · injection q1 with _ q2 q3
                  exact ⟨q3, List.length_eq_zero_iff.mp q2⟩
              · cases hh
            exact this hv1 hhead
          obtain ⟨rfl, rfl⟩ := hA0
          have hB0 : B = [] := by simpa using hfit
          subst hB0
          refine ⟨_, w, by simpa using hrun, ?_⟩
          have hr := hrem w.drawn
          exact row_nil hr (by simpa using h)
        | some ad =>
          obtain ⟨id, L, b, es', off, cs, fr, rfl, hlk, hθ, hbk, hab, hsp, k2, k4, _, ho, m1, m2, m3, m4, m5⟩ := headEs_own hs.hp hhead hv1
          have hLsz : L.sz = info.size := by rw [k2, hszP]
          -- the address from which on it is written
          have hin : ad.off + A.length * info.size + nv.length ≤ cs.size ∨ nv = [] := by
            by_cases hc0 : cap = 0
            · right
              have : B.length = 0 := by omega
              have h1 := t3.1
              rw [this] at h1
              simpa using h1
            · left
              rw [ho hc0, t3.1, ← hLsz]
              have h5 := Nat.mul_le_mul_right L.sz hfit
              rw [Nat.add_mul] at h5
              rw [Nat.add_mul] at m3
              omega
          have hone : ∀ u ∈ nv, u.oneCell' = true := fun u hu => by
            obtain ⟨k, hk, rfl⟩ := List.mem_iff_getElem.mp hu
            rw [t3.1] at hk
            have hz0 : 0 < info.size := by omega
            have hki : k / info.size < B.length := (Nat.div_lt_iff_lt_mul hz0).mpr hk
            have hkj : k % info.size < info.size := Nat.mod_lt _ hz0
            have hlen : B[k / info.size].length = info.size := t3.2.1 _ (List.getElem_mem _)
            obtain ⟨u, u1, u2⟩ := t3.2.2 (k / info.size) (k % info.size) (B[k / info.size][k % info.size]) (by simp [hki])
            have : k / info.size * info.size + k % info.size = k := by have := Nat.div_add_mod k info.size; rw [Nat.mul_comm] at this; exact this
            rw [this] at u1
            have : u = nv[k] := by rw [List.getElem?_eq_getElem (by rw [t3.1]; exact hk)] at u1; cases u1; rfl
            rw [← this]
            exact u2.one
          have hst : ∃ w', (storeCells (ad.add (A.length * info.size)) nv).run P w = .ok () w' ∧ Wr w b w' ∧ ∃ cs', w'.heap[b]? = some (.cells cs' e fr) ∧ cs'.size = cs.size ∧ ∀ k, cs'[k]? = if ad.off + A.length * info.size ≤ k ∧ k < ad.off + A.length * info.size + nv.length then nv[k - (ad.off + A.length * info.size)]? else cs[k]? := by
            rcases hin with hin | rfl
            · rw [add_off' hsp, hab]
              exact run_stores nv _ w m1 m2.w hin hone
            · exact ⟨w, rfl, ⟨rfl, rfl, rfl, rfl, fun _ _ => rfl, Szp.refl w⟩, cs, m1, rfl, fun k => by rw [if_neg (fun hh => by simp at hh; omega)]⟩
          obtain ⟨w', r1, r2, cs2, r3, r4, r5⟩ := hst
          refine ⟨.slice (some ad) (A.length + B.length) cap, w', by rw [hrun]; simp only [r1, Result.andThen_ok], ?_⟩
          have hn := hs.fresh st.n (Nat.le_refl _)
          let L' : Lay := ⟨some b, if cap = 0 then 0 else ad.off, L.sz, (A ++ B).length⟩
          have hE : Ext w (Nn X θ st.h) w' (Nn X (θ.set st.n L') ((st.n, .row e (A ++ B)) :: rem st.h id)) := ⟨by rw [r2.size]; exact Nat.le_refl _, fun c _ hN => ⟨fun hc => hN (Nn_repl hlk hθ hbk rfl hc), r2.other c (fun e => hN (.inr ⟨id, _, L, hlk, hθ, e ▸ hbk⟩))⟩⟩
          have hcap0 : cap = 0 → A = [] ∧ B = [] := fun hc => ⟨List.length_eq_zero_iff.mp (by omega), List.length_eq_zero_iff.mp (by omega)⟩
          have hbound : L'.o0 + cap * L.sz ≤ cs.size := by
            by_cases hc0 : cap = 0
            · rw [hc0]; show (if cap = 0 then 0 else ad.off) + 0 * L.sz ≤ cs.size; rw [if_pos hc0]; omega
            · simp only [L', hc0, if_false]
              rw [ho hc0]
              rw [Nat.add_mul] at m3
              omega
          have hs1 := hs.repl (L' := L') (ob' := .row e (A ++ B)) hlk hθ hbk rfl r2 (by
            refine ⟨k2, rfl, fun c hc => ?_, ?_⟩
            · show c.length = L.sz
              rcases List.mem_append.mp hc with hc | hc
              · rw [hAs c hc, hLsz]
              · rw [t3.2.1 c hc, hLsz]
            · refine ⟨cs2, fr, r3, by rw [r4]; exact m2, ?_, fun i j x hx => ?_⟩
              · rw [r4]
                have h5 := Nat.mul_le_mul_right L.sz (show (A ++ B).length ≤ cap by simpa using hfit)
                show L'.o0 + (A ++ B).length * L.sz ≤ cs.size
                omega
              · have hc0 : cap ≠ 0 := fun hc => by obtain ⟨rfl, rfl⟩ := hcap0 hc; simp at hx
                have hL0 : L'.o0 = ad.off := if_neg hc0
                show ∃ u, cs2[L'.o0 + i * L.sz + j]? = some u ∧ RepD w' (Nn X (θ.set st.n L') ((st.n, .row e (A ++ B)) :: rem st.h id)) u x
                rw [hL0, r5, hLsz]
                by_cases hi : i < A.length
                · rw [List.getElem?_append_left hi] at hx
                  obtain ⟨u, u1, u2⟩ := m5 i j x hx
                  refine ⟨u, ?_, u2.ext hE⟩
                  have hj := (FlatD.lt hAs hx).2
                  have := mul_add_lt hi hj
                  rw [if_neg (by omega), ho hc0, ← hLsz]
                  rw [Nat.add_mul] at u1
                  rw [show L.o0 + off * L.sz + i * L.sz + j = L.o0 + (off * L.sz + i * L.sz) + j by omega]
                  exact u1
                · rw [List.getElem?_append_right (by omega)] at hx
                  obtain ⟨u, u1, u2⟩ := t3.2.2 (i - A.length) j x hx
                  refine ⟨u, ?_, u2.ext hE⟩
                  have hlt := (List.getElem?_eq_some_iff.mp u1).1
                  have he : i * info.size = (i - A.length) * info.size + A.length * info.size := by rw [← Nat.add_mul]; congr 1; omega
                  rw [if_pos (by omega)]
                  rw [show ad.off + i * info.size + j - (ad.off + A.length * info.size) = (i - A.length) * info.size + j by omega]
                  exact u1)
          rw [newK_eq] at h
          refine (putK_post h hs1 ?_).weaken (Th.set_sub hn)
          have := RepT.full (w := w') (N := Nn X (θ.set st.n L') ((st.n, .row e (A ++ B)) :: rem st.h id)) (θ := θ.set st.n L') st.n L' (Th.set_self _ _ _) b cap rfl (by show (A ++ B).length ≤ cap; simpa using hfit) ⟨cs2, e, fr, r3, by rw [r4]; exact hbound⟩ ad hab hsp (fun hc => by simp [L', hc])
          have e1 : L'.len = A.length + B.length := by simp [L']
          rw [e1] at this
          exact this
      · -- a new block
        obtain ⟨ov, o1, o2⟩ := run_first (P := P) hs.hp hv1 hA hAs
        obtain ⟨cap', m, rest, q1, q2, q3⟩ := run_append_grows (ty := ty) h0 h1 h2 h3 hu d2 hnd i1 i2 t1 o1 t2 hfit hb hm
        refine ⟨_, _, q3, ?_⟩
        have hr := hrem m
        have hrest : rest.toList.length = (cap' - (A.length + B.length)) * info.size := by
          rw [q2]
          simp [Builtin.zeroCells, i4, i5]
        have := row_new (fr := (0, 0)) (rest := rest.toList) (cap := cap') hr hszP ((o2.append t3).ext (w' := { w with drawn := m }) (N' := Nn X θ (remO st.h o)) ⟨Nat.le_refl _, fun b hb hN => ⟨fun hN' => hN (by
          cases o with
          | none => exact hN'
          | some id => exact Nn_remL (l := [id]) hN'), rfl⟩⟩) (by
            simp only [List.length_append, o2.1, t3.1, hrest]
            rw [← Nat.add_mul, ← Nat.add_mul]
            congr 1
            omega) (by simpa using q1) (nf0 _) h
        have e1 : (ov ++ nv ++ rest.toList).toArray = ov.toArray ++ nv.toArray ++ rest := by apply Array.ext'; simp
        rw [e1, List.length_append] at this
        exact this
  · exact h.elim
end Go.VL
