/- append, the operation. -/
import Derived.Test.YtefgchjjnobhjaaDoorVM
set_option linter.unusedVariables false
set_option linter.unusedSimpArgs false
namespace Go.VL
open Go Go.RowKit

variable {P : Program} {X O : Nat → Prop} {w0 w w' : World} {θ θ' : Th} {st : St} {a : Act} {N : Nat → Prop}

theorem run_append_fits {ts : Array TypeId} {vs : Array Value} {t xt e ty n sLen sCap : Nat} {d : TypeDesc} {info : TypeInfo} {base : Option Addr} {v2 : Value} {new : List Value}
    (h0 : ts[0]? = some t) (h1 : ts[1]? = some xt) (h2 : vs[0]? = some (.slice base sLen sCap)) (h3 : vs[1]? = some v2) (hu : P.underlying t = some (.slice e)) (hd : P.underlying xt = some d) (hnd : ∀ k, d ≠ .int k) (hi : P.info? e = some info)
    (hl : (Builtin.lenOf v2).run P w = .ok n w) (hf : (Builtin.firstCells info.size n v2).run P w = .ok new.toArray w) (hfit : sLen + n ≤ sCap) :
    (Builtin.append_ ts ty vs).run P w = ((match base with | some A => storeCells (A.add (sLen * info.size)) new | none => pure () : Sem Unit).run P w).andThen fun _ w' => .ok (.slice base (sLen + n) sCap) w' := by
  have hz : ((match d with | .int _ => true | _ => false) : Bool) = false := by cases d <;> first | rfl | exact absurd rfl (hnd _)
  simp only [Builtin.append_, h0, h1, h2, h3, Sem.run_bind, run_underlying' hu, run_underlying' hd, Result.andThen_ok, run_sizeOf hi, Sem.run_pure]
  cases d with
  | int k => exact absurd rfl (hnd k)
  | _ =>
    simp only [Bool.false_eq_true, if_false]
    simp only [hl, Result.andThen_ok, hfit, if_true, Bool.not_false, Sem.run_bind, hf]
    cases base <;> simp

theorem run_append_grows {ts : Array TypeId} {vs : Array Value} {t xt e ty n sLen sCap : Nat} {d : TypeDesc} {info : TypeInfo} {base : Option Addr} {v2 zv : Value} {old new : List Value}
    (h0 : ts[0]? = some t) (h1 : ts[1]? = some xt) (h2 : vs[0]? = some (.slice base sLen sCap)) (h3 : vs[1]? = some v2) (hu : P.underlying t = some (.slice e)) (hd : P.underlying xt = some d) (hnd : ∀ k, d ≠ .int k) (hi : P.info? e = some info) (hzv : info.zero = some zv)
    (hl : (Builtin.lenOf v2).run P w = .ok n w) (ho : ∀ m, (Builtin.firstCells info.size sLen (.slice base sLen sCap)).run P { w with drawn := m } = .ok old.toArray { w with drawn := m })
    (hf : ∀ m, (Builtin.firstCells info.size n v2).run P { w with drawn := m } = .ok new.toArray { w with drawn := m }) (hfit : ¬ sLen + n ≤ sCap)
    (hb : (sLen + n) * info.bytes ≤ 140737488355328) (hm : sLen + n ≤ 9223372036854775807) :
    ∃ cap m rest, sLen + n ≤ cap ∧ rest = Builtin.zeroCells zv.cells (cap - (sLen + n)) ∧ (Builtin.append_ ts ty vs).run P w = .ok (.slice (some ⟨w.heap.size, 0, none⟩) (sLen + n) cap) (({ w with drawn := m } : World).alloc (.cells (old.toArray ++ new.toArray ++ rest) e)) := by
  refine ⟨(Question.appendCap (sLen + n) sCap e).cut (w.tape w.drawn (.appendCap (sLen + n) sCap e)), w.drawn + 1, _, by simp [Question.cut], rfl, ?_⟩
  have hg : ¬ Builtin.nextslicecap (sLen + n) sCap * info.bytes > 281474976710656 := by
    have := growslice_fits (need := sLen + n) (old := sCap) (bytes := info.bytes) (by omega) hb
    omega
  have hmx : ¬ ((sLen + n : Nat) : Int) > IntKind.i64.max := by simp [IntKind.max, IntKind.signed, IntKind.bits]; omega
  simp only [Builtin.append_, h0, h1, h2, h3, Sem.run_bind, run_underlying' hu, run_underlying' hd, Result.andThen_ok, run_sizeOf hi, Sem.run_pure]
  cases d with
  | int k => exact absurd rfl (hnd k)
  | _ =>
    simp only [Bool.false_eq_true, if_false]
    simp only [hl, Result.andThen_ok, hfit, if_false, Bool.not_false, if_true, run_typeInfo' hi, hmx, false_and, Sem.run_bind]
    have h48 : (2 : Nat) ^ 48 = 281474976710656 := by decide
    simp only [h48, hg, if_false, Sem.run_bind, run_choose, Question.forced, Bool.false_eq_true, Result.andThen_ok, run_askRoom, run_typeInfo' hi, ho, hf, run_zeroValue hi hzv, newRow, run_newObj, Sem.run_pure]
    rfl

theorem evAppend_sound {tab : Tab} (tk : TabOK P tab) (hs : Sat P X O w0 θ st a w) {ts : Array TypeId} {vs : Array Value} {ty : Nat} {v1 v2 : Value} {s x : T} {dst : Option Nat} {K : St → Prop} (h2 : vs[0]? = some v1) (h3 : vs[1]? = some v2)
    (hv1 : RepT w (Nn X θ st.h) θ v1 s) (hv2 : RepT w (Nn X θ st.h) θ v2 x) (h : evAppend tab ts.toList s x dst st K) : ∃ u w', (Builtin.append_ ts ty vs).run P w = .ok u w' ∧ Post P X O w0 θ K (a.put dst u) w' := by
  unfold evAppend at h
  simp only [withSt_eq] at h
  split at h
  case h_2 => exact h.elim
  rename_i t xt r hts
  have h0 : ts[0]? = some t := by rw [← Array.getElem?_toList, hts]; rfl
  have h1 : ts[1]? = some xt := by rw [← Array.getElem?_toList, hts]; rfl
  split at h
  case h_2 => exact h.elim
  rename_i i xi ht hxt
  split at h
  · exact h.elim
  · rename_i e hk hnk
    have hu := tab.slice_of tk ht hk
    obtain ⟨xinfo, d, _, d2, d3, _⟩ := tk.ty xt xi hxt
    have hnd : ∀ k, d ≠ .int k := fun k hd => by
      subst hd
      cases hq : xi.k <;> rw [hq] at d3 <;> simp [fitsK] at d3
      exact hnk _ hq
    cases hy : tab.ty e with
    | none => simp [hy] at h
    | some y =>
      simp only [hy] at h
      split at h
      case h_2 => exact h.elim
      rename_i A o B hpos hhead htail
      simp only [Bool.and_eq_true] at hpos
      have hpos' : 0 < y.size := Nat.blt_eq.mp hpos.1
      obtain ⟨z, hz⟩ := Option.isSome_iff_exists.mp hpos.2
      obtain ⟨⟨hb, hm⟩, hBs, h⟩ := h
      obtain ⟨info, zv, i1, i2, i3, i4, i5, i6, _, _⟩ := zero_of tk hy hz
      have hszP : info.size = P.cellsOf e := by simp [Program.cellsOf, i1]
      obtain ⟨t1, nv, t2, t3⟩ := run_tail hs.hp hy i5.symm hv2 htail (by intro c hc; rw [i5]; exact hBs c hc)
      rw [← i6] at hb
      -- what stands ahead
      have hA : elems st.h s = some A := headEs_elems hhead
      have hAs : ∀ c ∈ A, c.length = info.size := by
        intro c hc
        unfold headEs at hhead
        split at hhead
        · cases hhead; simp at hc
        · rename_i id
          cases hl : look st.h id with
          | none => simp [hl] at hhead
          | some ob =>
            cases ob <;> simp [hl] at hhead
            rename_i e' es'
            cases hbq : Nat.beq e' e <;> simp [hbq] at hhead
            obtain rfl := Nat.eq_of_beq_eq_true hbq
            obtain ⟨rfl, _⟩ := hhead
            obtain ⟨L, k1, k2, k3, k4, k5⟩ := hs.hp.ob id _ hl
            rw [k4 c hc, k2, hszP]
        · rename_i id off l
          cases hl : look st.h id with
          | none => simp [hl] at hhead
          | some ob =>
            cases ob <;> simp [hl] at hhead
            rename_i e' es'
            cases hbq : Nat.beq e' e <;> simp [hbq] at hhead
            obtain rfl := Nat.eq_of_beq_eq_true hbq
            obtain ⟨rfl, _⟩ := hhead
            obtain ⟨L, k1, k2, k3, k4, k5⟩ := hs.hp.ob id _ hl
            rw [k4 c (List.mem_of_mem_drop (List.mem_of_mem_take hc)), k2, hszP]
        · cases hhead
      obtain ⟨base, cap, rfl, hcap, _⟩ := slice_cells hs.hp hv1 hA hAs
      -- the heap without what is taken
      have hrem : ∀ m, Sat P X O w0 θ ⟨st.t, remO st.h o, st.n, st.nt⟩ a { w with drawn := m } := fun m => by
        have hd := hs.drew m
        cases o with
        | none => exact hd
        | some id =>
          have : remO st.h (some id) = remL st.h [id] := rfl
          rw [this]
          refine hd.move (Ext.shrink fun b => Nn_remL) (Szp.refl _) (Sub.refl θ) hd.hp.remL hd.fresh hd.kp
      by_cases hfit : A.length + B.length ≤ cap
      · -- in place
        have hrun := run_append_fits (ty := ty) h0 h1 h2 h3 hu d2 hnd i1 t1 (t2 w.drawn) hfit
        cases base with
        | none =>
          have hA0 : cap = 0 ∧ A = [] := by
            have : ∀ {s : T}, RepT w (Nn X θ st.h) θ (.slice none A.length cap) s → headEs st.h e s = some (A, o) → cap = 0 ∧ A = [] := by
              intro s hv hh
              unfold headEs at hh
              split at hh
              · cases hh
                have := hv.nils_inv
                injection this with _ _ q
                exact ⟨q, rfl⟩
              · obtain ⟨l, _, q⟩ := hv.full_inv
                rcases q with ⟨b, cap', ad', q1, _⟩ | ⟨q1, _⟩
                · injection q1 with q1; cases q1
                · injection q1 with _ q2 q3
                  exact ⟨q3, List.length_eq_zero_iff.mp q2⟩
              · obtain ⟨l, _, q⟩ := hv.own_inv
                rcases q with ⟨b, cap', ad', q1, _⟩ | ⟨q1, _⟩
                · injection q1 with q1; cases q1
                · injection q1 with _ q2 q3
                  exact ⟨q3, List.length_eq_zero_iff.mp q2⟩
              · cases hh
            exact this hv1 hhead
          obtain ⟨rfl, rfl⟩ := hA0
          have hB0 : B = [] := by simpa using hfit
          subst hB0
          refine ⟨_, w, by simpa using hrun, ?_⟩
          have hr := hrem w.drawn
          exact row_nil hr (by simpa using h)
        | some ad =>
          obtain ⟨id, L, b, es', off, cs, fr, rfl, hlk, hθ, hbk, hab, hsp, k2, k4, _, ho, m1, m2, m3, m4, m5⟩ := headEs_own hs.hp hhead hv1
          have hLsz : L.sz = info.size := by rw [k2, hszP]
          -- the address from which on it is written
          have hin : ad.off + A.length * info.size + nv.length ≤ cs.size ∨ nv = [] := by
            by_cases hc0 : cap = 0
            · right
              have : B.length = 0 := by omega
              have h1 := t3.1
              rw [this] at h1
              simpa using h1
            · left
              rw [ho hc0, t3.1, ← hLsz]
              have h5 := Nat.mul_le_mul_right L.sz hfit
              rw [Nat.add_mul] at h5
              rw [Nat.add_mul] at m3
              omega
          have hone : ∀ u ∈ nv, u.oneCell' = true := fun u hu => by
            obtain ⟨k, hk, rfl⟩ := List.mem_iff_getElem.mp hu
            rw [t3.1] at hk
            have hz0 : 0 < info.size := by omega
            have hki : k / info.size < B.length := (Nat.div_lt_iff_lt_mul hz0).mpr hk
            have hkj : k % info.size < info.size := Nat.mod_lt _ hz0
            have hlen : B[k / info.size].length = info.size := t3.2.1 _ (List.getElem_mem _)
            obtain ⟨u, u1, u2⟩ := t3.2.2 (k / info.size) (k % info.size) (B[k / info.size][k % info.size]) (by simp [hki])
            have : k / info.size * info.size + k % info.size = k := by have := Nat.div_add_mod k info.size; rw [Nat.mul_comm] at this; exact this
            rw [this] at u1
            have : u = nv[k] := by rw [List.getElem?_eq_getElem (by rw [t3.1]; exact hk)] at u1; cases u1; rfl
            rw [← this]
            exact u2.one
          have hst : ∃ w', (storeCells (ad.add (A.length * info.size)) nv).run P w = .ok () w' ∧ Wr w b w' ∧ ∃ cs', w'.heap[b]? = some (.cells cs' e fr) ∧ cs'.size = cs.size ∧ ∀ k, cs'[k]? = if ad.off + A.length * info.size ≤ k ∧ k < ad.off + A.length * info.size + nv.length then nv[k - (ad.off + A.length * info.size)]? else cs[k]? := by
            rcases hin with hin | rfl
            · rw [add_off' hsp, hab]
              exact run_stores nv _ w m1 m2.w hin hone
            · exact ⟨w, rfl, ⟨rfl, rfl, rfl, rfl, fun _ _ => rfl, Szp.refl w⟩, cs, m1, rfl, fun k => by rw [if_neg (fun hh => by simp at hh; omega)]⟩
          obtain ⟨w', r1, r2, cs2, r3, r4, r5⟩ := hst
          refine ⟨.slice (some ad) (A.length + B.length) cap, w', by rw [hrun]; simp only [r1, Result.andThen_ok], ?_⟩
          have hn := hs.fresh st.n (Nat.le_refl _)
          let L' : Lay := ⟨some b, if cap = 0 then 0 else ad.off, L.sz, (A ++ B).length⟩
          have hE : Ext w (Nn X θ st.h) w' (Nn X (θ.set st.n L') ((st.n, .row e (A ++ B)) :: rem st.h id)) := ⟨by rw [r2.size]; exact Nat.le_refl _, fun c _ hN => ⟨fun hc => hN (Nn_repl hlk hθ hbk rfl hc), r2.other c (fun e => hN (.inr ⟨id, _, L, hlk, hθ, e ▸ hbk⟩))⟩⟩
          have hcap0 : cap = 0 → A = [] ∧ B = [] := fun hc => ⟨List.length_eq_zero_iff.mp (by omega), List.length_eq_zero_iff.mp (by omega)⟩
          have hbound : L'.o0 + cap * L.sz ≤ cs.size := by
            by_cases hc0 : cap = 0
            · rw [hc0]; show (if cap = 0 then 0 else ad.off) + 0 * L.sz ≤ cs.size; rw [if_pos hc0]; omega
            · simp only [L', hc0, if_false]
              rw [ho hc0]
              rw [Nat.add_mul] at m3
              omega
          have hs1 := hs.repl (L' := L') (ob' := .row e (A ++ B)) hlk hθ hbk rfl r2 (by
            refine ⟨k2, rfl, fun c hc => ?_, ?_⟩
            · show c.length = L.sz
              rcases List.mem_append.mp hc with hc | hc
              · rw [hAs c hc, hLsz]
              · rw [t3.2.1 c hc, hLsz]
            · refine ⟨cs2, fr, r3, by rw [r4]; exact m2, ?_, fun i j x hx => ?_⟩
              · rw [r4]
                have h5 := Nat.mul_le_mul_right L.sz (show (A ++ B).length ≤ cap by simpa using hfit)
                show L'.o0 + (A ++ B).length * L.sz ≤ cs.size
                omega
              · have hc0 : cap ≠ 0 := fun hc => by obtain ⟨rfl, rfl⟩ := hcap0 hc; simp at hx
                have hL0 : L'.o0 = ad.off := if_neg hc0
                show ∃ u, cs2[L'.o0 + i * L.sz + j]? = some u ∧ RepD w' (Nn X (θ.set st.n L') ((st.n, .row e (A ++ B)) :: rem st.h id)) u x
                rw [hL0, r5, hLsz]
                by_cases hi : i < A.length
                · rw [List.getElem?_append_left hi] at hx
                  obtain ⟨u, u1, u2⟩ := m5 i j x hx
                  refine ⟨u, ?_, u2.ext hE⟩
                  have hj := (FlatD.lt hAs hx).2
                  have := mul_add_lt hi hj
                  rw [if_neg (by omega), ho hc0, ← hLsz]
                  rw [Nat.add_mul] at u1
                  rw [show L.o0 + off * L.sz + i * L.sz + j = L.o0 + (off * L.sz + i * L.sz) + j by omega]
                  exact u1
                · rw [List.getElem?_append_right (by omega)] at hx
                  obtain ⟨u, u1, u2⟩ := t3.2.2 (i - A.length) j x hx
                  refine ⟨u, ?_, u2.ext hE⟩
                  have hlt := (List.getElem?_eq_some_iff.mp u1).1
                  have he : i * info.size = (i - A.length) * info.size + A.length * info.size := by rw [← Nat.add_mul]; congr 1; omega
                  rw [if_pos (by omega)]
                  rw [show ad.off + i * info.size + j - (ad.off + A.length * info.size) = (i - A.length) * info.size + j by omega]
                  exact u1)
          rw [newK_eq] at h
          refine (putK_post h hs1 ?_).weaken (Th.set_sub hn)
          have := RepT.full (w := w') (N := Nn X (θ.set st.n L') ((st.n, .row e (A ++ B)) :: rem st.h id)) (θ := θ.set st.n L') st.n L' (Th.set_self _ _ _) b cap rfl (by show (A ++ B).length ≤ cap; simpa using hfit) ⟨cs2, e, fr, r3, by rw [r4]; exact hbound⟩ ad hab hsp (fun hc => by simp [L', hc])
          have e1 : L'.len = A.length + B.length := by simp [L']
          rw [e1] at this
          exact this
      · -- a new block
        obtain ⟨ov, o1, o2⟩ := run_first (P := P) hs.hp hv1 hA hAs
        obtain ⟨cap', m, rest, q1, q2, q3⟩ := run_append_grows (ty := ty) h0 h1 h2 h3 hu d2 hnd i1 i2 t1 o1 t2 hfit hb hm
        refine ⟨_, _, q3, ?_⟩
        have hr := hrem m
        have hrest : rest.toList.length = (cap' - (A.length + B.length)) * info.size := by
          rw [q2]
          simp [Builtin.zeroCells, i4, i5]
        have := row_new (fr := (0, 0)) (rest := rest.toList) (cap := cap') hr hszP ((o2.append t3).ext (w' := { w with drawn := m }) (N' := Nn X θ (remO st.h o)) ⟨Nat.le_refl _, fun b hb hN => ⟨fun hN' => hN (by
          cases o with
          | none => exact hN'
          | some id => exact Nn_remL (l := [id]) hN'), rfl⟩⟩) (by
            simp only [List.length_append, o2.1, t3.1, hrest]
            rw [← Nat.add_mul, ← Nat.add_mul]
            congr 1
            omega) (by simpa using q1) (nf0 _) h
        have e1 : (ov ++ nv ++ rest.toList).toArray = ov.toArray ++ nv.toArray ++ rest := by apply Array.ext'; simp
        rw [e1, List.length_append] at this
        exact this
  · exact h.elim
end Go.VL

/- Literals, make, bytes, conversions, ranges over strings. -/
namespace Go.VL
open Go Go.RowKit

variable {P : Program} {X O : Nat → Prop} {w0 w w' : World} {θ θ' : Th} {st : St} {a : Act} {N : Nat → Prop}

theorem zq_dcell {h : Hp} {u : Value} {x : T} {d : D} (hz : zq u x = true) (hd : dcell h x = some d) : RepD w N u d := by
  have hr := zq_rep (w := w) (N := N) (θ := fun _ => none) hz
  cases x with
  | d y => simp [dcell] at hd; subst hd; exact hr.d_inv
  | nils => simp [dcell, valF] at hd; subst hd; have := hr.nils_inv; subst this; exact .nil
  | full id => obtain ⟨l, h1, _⟩ := hr.full_inv; cases h1
  | own id o l => obtain ⟨l, h1, _⟩ := hr.own_inv; cases h1
  | _ => simp [dcell, valF] at hd

theorem flat_zero {h : Hp} {zs : List T} {zd : List D} {zc : Array Value} (hz : ∀ (j : Nat) (x : T), zs[j]? = some x → ∃ u, zc[j]? = some u ∧ zq u x = true) (hd : dcells h zs = some zd) :
    zd.length = zs.length ∧ ∀ (j : Nat) (d : D), zd[j]? = some d → ∃ u, zc[j]? = some u ∧ RepD w N u d := by
  obtain ⟨h1, h2⟩ := dcells_spec hd
  refine ⟨h1, fun j d hj => ?_⟩
  obtain ⟨x, x1, x2⟩ := h2 j d hj
  obtain ⟨u, u1, u2⟩ := hz j x x1
  exact ⟨u, u1, zq_dcell u2 x2⟩

/-- So many zeros. -/
theorem flat_rep {zd : List D} {zc : Array Value} {n : Nat} (hl : zd.length = zc.size) (hz : ∀ (j : Nat) (d : D), zd[j]? = some d → ∃ u, zc[j]? = some u ∧ RepD w N u d) :
    FlatD w N ((List.range (n * zc.size)).map fun k => zc[k % zc.size]!) (List.replicate n zd) zc.size := by
  refine ⟨by simp, fun c hc => by rw [(List.mem_replicate.mp hc).2, hl], fun i j x hx => ?_⟩
  rw [List.getElem?_replicate] at hx
  by_cases hi : i < n
  · rw [if_pos hi] at hx
    simp only [Option.bind_some] at hx
    obtain ⟨u, u1, u2⟩ := hz j x hx
    have hj : j < zc.size := by rw [← hl]; exact (List.getElem?_eq_some_iff.mp hx).1
    have hm : (i * zc.size + j) % zc.size = j := by rw [Nat.mul_comm, Nat.mul_add_mod]; exact Nat.mod_eq_of_lt hj
    refine ⟨u, ?_, u2⟩
    rw [List.getElem?_map, List.getElem?_range (mul_add_lt hi hj)]
    simp only [Option.map_some, hm]
    rw [Array.getElem?_eq_getElem hj] at u1
    cases u1
    simp [hj]
  · rw [if_neg hi] at hx; simp at hx

theorem evMake_sound {tab : Tab} (tk : TabOK P tab) (hs : Sat P X O w0 θ st a w) {t : Nat} {vl vc : Value} {l c : T} {dst : Option Nat} {K : St → Prop} (hl : RepT w (Nn X θ st.h) θ vl l) (hc : RepT w (Nn X θ st.h) θ vc c)
    (h : evMake tab t l c dst st K) : ∃ u w', (Instr.makeSlice t vl vc).run P w = .ok u w' ∧ Post P X O w0 θ K (a.put dst u) w' := by
  unfold evMake at h
  split at h
  case h_2 => exact h.elim
  rename_i i n m ht
  obtain rfl := hl.int_inv
  obtain rfl := hc.int_inv
  cases hk : i.k <;> simp only [hk] at h <;> try exact h.elim
  rename_i e
  have hu := tab.slice_of tk ht hk
  cases hy : tab.ty e with
  | none => simp [hy] at h
  | some y =>
    simp only [hy] at h
    split at h
    case h_2 => exact h.elim
    rename_i z hz hpos
    have hpos := Nat.blt_eq.mp hpos
    cases hd : dcells st.h z with
    | none => simp [hd] at h
    | some zd =>
      simp only [hd] at h
      obtain ⟨⟨q1, q2, q3, q4⟩, h⟩ := h
      obtain ⟨info, zv, i1, i2, i3, i4, i5, i6, _, i7⟩ := zero_of tk hy hz
      obtain ⟨z1, z2⟩ := flat_zero (w := w) (N := Nn X θ st.h) i7 hd
      have hszP : info.size = P.cellsOf e := by simp [Program.cellsOf, i1]
      have hws : ∀ {k : Int}, 0 ≤ k → k ≤ 9223372036854775807 → IntKind.i64.wrap k = k := fun {k} h0 h1 => InR_wrap (by simp only [InR]; omega)
      have hf := flat_rep (w := w) (N := Nn X θ st.h) (n := n.toNat) (by omega) z2
      have hlist : List.range (n.toNat * zv.cells.size) ++ List.range' (n.toNat * zv.cells.size) ((m.toNat - n.toNat) * zv.cells.size) = List.range (m.toNat * zv.cells.size) := by
        rw [List.range_eq_range', List.range_eq_range']
        have := @List.range'_append_1 0 (n.toNat * zv.cells.size) ((m.toNat - n.toNat) * zv.cells.size)
        rw [Nat.zero_add, ← Nat.add_mul, show n.toNat + (m.toNat - n.toNat) = m.toNat by omega] at this
        exact this
      have hwn := hws q1 (by omega)
      have hwm := hws (show 0 ≤ m by omega) q4
      refine ⟨_, _, ?_, row_new (fr := (0, 0)) (e := e) (cap := m.toNat) (rest := ((List.range' (n.toNat * zv.cells.size) ((m.toNat - n.toNat) * zv.cells.size)).map fun k => zv.cells[k % zv.cells.size]!)) hs (by omega) hf ?_ ?_ (nf0 _) h⟩
      · have hb48 : ¬ ((info.bytes : Int) * m > 2 ^ 48) := by
          have : ((info.bytes : Int) * m) = m * (y.bytes : Int) := by rw [i6, Int.mul_comm]
          rw [this]
          have : (2 : Int) ^ 48 = 281474976710656 := by decide
          omega
        have c1 : ¬ (m < 0) := by omega
        have c2 : ¬ (n < 0) := by omega
        have c3 : ¬ (n > m) := by omega
        have hn0 : ¬ (m.toNat * info.size = 0) ∨ m.toNat = 0 := by
          rcases Nat.eq_zero_or_pos m.toNat with h0 | h0
          · exact .inr h0
          · left; have := Nat.mul_pos h0 (show 0 < info.size by omega); omega
        simp only [Instr.makeSlice, Sem.run_bind, run_underlying' hu, Result.andThen_ok, asInt, asIntOf, pure_bind, run_typeInfo' i1, hwn, hwm]
        simp only [c1, c2, c3, hb48, decide_false, Bool.or_false, Bool.false_eq_true, if_false, Sem.run_bind, run_askRoom, Result.andThen_ok, run_sizeOf i1]
        have hss : info.size = zv.cells.size := by omega
        rw [hss, ← List.map_append, hlist]
        by_cases h00 : m.toNat * zv.cells.size = 0
        · rw [if_pos h00, h00]
          simp only [newRow, Sem.run_bind, run_newObj, Result.andThen_ok, Sem.run_pure, List.length_replicate, List.range_zero, List.map_nil]
          have : ∀ f : Nat → Value, Array.map f (Array.range 0) = ([] : List Value).toArray := fun f => by simp
          rw [this]
          rfl
        · rw [if_neg h00]
          simp only [newRow, Sem.run_bind, run_zeroValue i1 i2, run_newObj, Result.andThen_ok, Sem.run_pure, List.length_replicate]
          have : Array.map (fun x => zv.cells[x % zv.cells.size]!) (Array.range (m.toNat * zv.cells.size)) = (List.map (fun k => zv.cells[k % zv.cells.size]!) (List.range (m.toNat * zv.cells.size))).toArray := by
            apply Array.ext'; simp
          rw [this]
          rfl
      · rw [← List.map_append, hlist]; simp
      · simp; omega

theorem evIx_sound {tab : Tab} (tk : TabOK P tab) {t : Nat} {v vi : Value} {x ix : T} {K : T → Prop} (hv : RepT w N θ v x) (hvi : RepT w N θ vi ix) (h : evIx tab t x ix K) :
    ∃ u r, (Instr.index t v vi).run P w = .ok u w ∧ RepT w N θ u r ∧ K r := by
  unfold evIx at h
  split at h
  case h_2 => exact h.elim
  rename_i i k n ht
  obtain rfl := hvi.int_inv
  split at h
  · rename_i s hk
    have hu := tab.str_of tk ht hk
    obtain rfl := hv.str_inv
    obtain ⟨⟨h0, h1⟩, h⟩ := h
    have hlt : n.toNat < s.length := by omega
    refine ⟨_, _, ?_, .int _ _, h s[n.toNat] (by simp [hlt])⟩
    have hg : (⟨s.toArray⟩ : ByteArray)[n.toNat]? = some s[n.toNat] := by
      have : n.toNat < (⟨s.toArray⟩ : ByteArray).size := by simpa [ByteArray.size] using hlt
      rw [getElem?_pos (⟨s.toArray⟩ : ByteArray) n.toNat this]
      rfl
    simp only [Instr.index, asIntOf, pure_bind, Sem.run_bind, run_underlying' hu, Result.andThen_ok, h0, if_true, hg, Sem.run_pure]
  · rename_i len e cs hk
    have hu := tab.array_of tk ht hk
    cases hy : tab.ty e with
    | none => simp [hy] at h
    | some y =>
      simp only [hy] at h
      obtain ⟨⟨h0, h1⟩, l, hl, h⟩ := h
      obtain ⟨info, d, i1, i2, i3, i4, _⟩ := tk.ty e y hy
      cases hv with
      | agg vs _ hsz hx =>
        have hld : ldT tab e (dropN cs (n.toNat * y.size)) K := by
          unfold ldT
          simp only [hy, hl]
          cases ha : y.k.agg with
          | true => simpa [ha] using h
          | false =>
            simp only [ha] at h
            obtain ⟨e1, e2⟩ := takeN_eq _ _ _ hl
            cases l with
            | nil => exact h.elim
            | cons v r =>
              cases r with
              | cons _ _ => exact h.elim
              | nil =>
                simp only at h
                cases hq : dropN cs (n.toNat * y.size) with
                | nil => rw [hq] at e1; simp at e1
                | cons v' r' =>
                  rw [hq] at e1
                  cases hys : y.size with
                  | zero => rw [hys] at e1; simp at e1
                  | succ k => rw [hys] at e1; simp at e1; rw [← e1.1]; exact h
        obtain ⟨u, r, h2, h3, h4⟩ := part_sound tk hsz hx hld
        refine ⟨u, r, ?_, h3, h4⟩
        simp only [Instr.index, asIntOf, pure_bind, Sem.run_bind, run_underlying' hu, Result.andThen_ok, h0, h1, and_self, if_true, run_sizeOf i1, i4]
        exact h2
  · exact h.elim

theorem evNext_sound (hs : Sat P X O w0 θ st a w) {ty : Nat} {v : Value} {x : T} {dst : Option Nat} {K : St → Prop} (hv : RepT w (Nn X θ st.h) θ v x) (h : evNext x dst st K) :
    ∃ u w', (Instr.next v true ty).run P w = .ok u w' ∧ Post P X O w0 θ K (a.put dst u) w' := by
  unfold evNext at h
  simp only [forceS_eq, withSt_eq] at h
  split at h
  case h_2 => exact h.elim
  rename_i id
  cases hlk : look st.h id with
  | none => simp [hlk] at h
  | some ob =>
    cases ob <;> simp only [hlk] at h <;> try exact h.elim
    rename_i s pos
    cases hv with
    | itr _ L hθ b hb =>
      obtain ⟨L', k1, b', k2, k3⟩ := hs.hp.ob id _ hlk
      rw [hθ] at k1; cases k1
      rw [hb] at k2; cases k2
      have hsz : (⟨s.toArray⟩ : ByteArray).size = s.length := by simp [ByteArray.size]
      have hg : (getObj b).run P w = .ok (.stringIter ⟨s.toArray⟩ pos) w := by simp [getObj, Sem.run, k3]
      by_cases hp : pos < s.length
      · have h := h.1 (decide_eq_true hp)
        have hw : Wr w b { w with heap := w.heap.setIfInBounds b (.stringIter ⟨s.toArray⟩ (pos + (Utf8.decode ⟨s.toArray⟩ pos).2)) } :=
          ⟨rfl, rfl, rfl, by simp, fun c hc => by simp [Ne.symm hc], fun c cs e fr hcs => by
            by_cases hc : c = b
            · subst hc; rw [k3] at hcs; cases hcs
            · exact ⟨cs, fr, by simp [Ne.symm hc, hcs], rfl⟩⟩
        have hlt : b < w.heap.size := (Array.getElem?_eq_some_iff.mp k3).1
        have hs1 := hs.wrote (ob' := .iter s (pos + (Utf8.decode ⟨s.toArray⟩ pos).2)) hlk hθ hb hw ⟨b, hb, by simp [hlt]⟩
        refine ⟨_, _, ?_, putK_post h hs1 (v := .tuple #[.bool true, goInt pos, .int .i32 (Utf8.decode ⟨s.toArray⟩ pos).1]) ?_⟩
        · simp only [Instr.next, Sem.run_bind, hg, Result.andThen_ok, hsz, hp, if_true, setObj, Sem.run, k3, Sem.run_pure]
        · refine .tup _ _ rfl (fun i x hx => ?_)
          match i with
          | 0 => simp at hx; subst hx; exact .bool true
          | 1 => simp at hx; subst hx; exact .int _ _
          | 2 => simp at hx; subst hx; exact .int _ _
          | i + 3 => simp at hx
      · have h := h.2 (decide_eq_false hp)
        refine ⟨_, _, ?_, putK_post h hs (v := .tuple #[.bool false]) ?_⟩
        · simp only [Instr.next, Sem.run_bind, hg, Result.andThen_ok, hsz, hp, if_false, Sem.run_pure]
        · refine .tup _ _ rfl (fun i x hx => ?_)
          match i with
          | 0 => simp at hx; subst hx; exact .bool false
          | i + 1 => simp at hx

theorem fill_zip {vs : Array Value} {off : Nat} : ∀ (l : List Value) (k : Nat) (cs : Array Value), off + k + l.length ≤ cs.size →
    ((l.zipIdx k).foldl (fun cs (p : Value × Nat) => cs.setIfInBounds (off + p.2) p.1) cs).size = cs.size ∧ ∀ q, ((l.zipIdx k).foldl (fun cs (p : Value × Nat) => cs.setIfInBounds (off + p.2) p.1) cs)[q]? = if off + k ≤ q ∧ q < off + k + l.length then l[q - (off + k)]? else cs[q]?
  | [], k, cs, _ => ⟨rfl, fun q => by rw [if_neg (fun hh => by simp at hh; omega)]; rfl⟩
  | v :: r, k, cs, h => by
    simp only [List.zipIdx_cons, List.foldl_cons]
    simp only [List.length_cons] at h
    obtain ⟨h1, h2⟩ := fill_zip (vs := vs) (off := off) r (k + 1) (cs.setIfInBounds (off + k) v) (by simp; omega)
    refine ⟨by rw [h1]; simp, fun q => ?_⟩
    rw [h2 q]
    by_cases h0 : q = off + k
    · subst h0
      rw [if_neg (by omega), if_pos (by simp)]
      simp [Array.getElem?_setIfInBounds]
      omega
    · by_cases h3 : off + (k + 1) ≤ q ∧ q < off + (k + 1) + r.length
      · rw [if_pos h3, if_pos (by simp; omega)]
        obtain ⟨m, rfl⟩ : ∃ m, q = off + (k + 1) + m := ⟨q - (off + (k + 1)), by omega⟩
        rw [show off + (k + 1) + m - (off + (k + 1)) = m by omega, show off + (k + 1) + m - (off + k) = m + 1 by omega]
        simp
      · rw [if_neg h3, if_neg (by simp; omega)]
        simp [Ne.symm h0]

theorem fill_step {place : Nat → Option (Nat × Nat)} {i off sz : Nat} {v : Value} {r : List (Nat × Value)} {cs : Array Value} (hp : place i = some (off, sz)) (hv : v.cells.size = sz) (hin : off + sz ≤ cs.size) :
    ∃ cs' : Array Value, Instr.fill place cs ((i, v) :: r) = Instr.fill place cs' r ∧ cs'.size = cs.size ∧ ∀ q, cs'[q]? = if off ≤ q ∧ q < off + sz then v.cells[q - off]? else cs[q]? := by
  obtain ⟨h1, h2⟩ := fill_zip (vs := v.cells) (off := off) v.cells.toList 0 cs (by simp; omega)
  refine ⟨_, ?_, h1, fun q => ?_⟩
  · simp only [Instr.fill, hp]
    rw [if_neg (by simp; omega)]
    congr 1
    rw [← Array.foldl_toList]
    simp
  · rw [h2 q]
    simp [hv]
end Go.VL
