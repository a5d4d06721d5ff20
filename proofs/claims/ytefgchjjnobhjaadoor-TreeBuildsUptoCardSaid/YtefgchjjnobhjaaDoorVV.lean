/- Every operation, every region, every piece of code. -/
import Derived.Test.YtefgchjjnobhjaaDoorVV0
import Derived.Test.YtefgchjjnobhjaaDoorVCv
import Derived.Lib.IfaceEq
set_option linter.unusedVariables false
set_option linter.unusedSimpArgs false
namespace Go.VL
open Go Go.RowKit

variable {P : Program} {X O : Nat → Prop} {w0 w w' : World} {θ θ' : Th} {st : St} {a : Act} {N : Nat → Prop}

theorem getD_map {l : List Operand} (hs : Sat P X O w0 θ st a w) (i : Nat) (x : T) (hx : (l.map st.val)[i]? = some x) : RepT w (Nn X θ st.h) θ ((l.map a.eval).getD i undef) x := by
  simp only [List.getElem?_map] at hx
  cases hl : l[i]? with
  | none => simp [hl] at hx
  | some y =>
    simp [hl] at hx
    subst hx
    simp [List.getD, hl]
    exact hs.val y
theorem getDA_map {l : Array Operand} (hs : Sat P X O w0 θ st a w) (i : Nat) (x : T) (hx : (l.toList.map st.val)[i]? = some x) : RepT w (Nn X θ st.h) θ ((l.map a.eval).getD i undef) x := by
  have := getD_map hs i x hx
  simpa [Array.getD_eq_getD_getElem?, List.getD] using this

theorem callFunc_run {tab : Tab} (tk : TabOK P tab) {f : Nat} (h : memN tab.ent f = true) (args : Array Value) : (callFunc f args).run P w = .ok (.enter f args) w := by
  obtain ⟨fn, h1, h2, h3⟩ := tk.ent f h
  have h2' : fn.name ≠ "runtime.NumGoroutine" := by simpa using h2
  have h3' : fn.body ≠ none := fun e => by rw [e] at h3; simp at h3
  simp [callFunc, Sem.run_bind, h1, h2', h3']

theorem ifcI_sound {tab : Tab} (tk : TabOK P tab) {N : Nat → Prop} {t tx : Nat} {op : BinOp} {ox oy : Operand} {vx vy : Value} {x y : T} {b : Bool} (hx : RepT w N θ vx x) (hy : RepT w N θ vy y)
    (hn : ifcI tab t x y = some (tx, b)) (hc : (P.info? tx).map (·.comparable) = some true) (hop : op = .eql ∨ op = .neq) :
    (do eqGuard op t ox oy vx vy; binOp op t vx vy : Sem Value).run P w = .ok (.bool (match op with | .eql => b | _ => !b)) w := by
  unfold ifcI at hn
  split at hn
  case h_2 => cases hn
  rename_i tx' k a ty k' c
  split at hn
  case h_2 => cases hn
  rename_i i j hi hj
  split at hn
  case h_2 => cases hn
  rename_i q ki kj e1 e2
  have e1 := Nat.eq_of_beq_eq_true e1
  have e2 := kq_iff.mp e2
  subst e1
  subst e2
  simp only [Option.some.injEq, Prod.mk.injEq] at hn
  obtain ⟨rfl, rfl⟩ := hn
  obtain ⟨info, d, i1, i2, i3, i4⟩ := tk.ty t i hi
  obtain ⟨info', d', j1, j2, j3, j4⟩ := tk.ty tx' j hj
  rw [ki] at i3
  rw [kj] at j3
  cases d <;> simp [fitsK] at i3
  cases d' <;> simp [fitsK] at j3
  cases hx with
  | ifc _ hx =>
    cases hy with
    | ifc _ hy =>
      obtain rfl := hx.int_inv
      obtain rfl := hy.int_inv
      have := Lib.run_eql_iface_int (P := P) w (k := k) a c i2 hc j2
      rcases hop with rfl | rfl
      · simp [eqGuard, Sem.run_bind, this]
        rfl
      · have h2 : (binOp .neq t (.iface tx' (.int k a)) (.iface tx' (.int k c))).run P w = .ok (.bool (!(a == c))) w := by
          simp only [binOp] at this ⊢
          simp only [Sem.run_bind] at this ⊢
          cases he : (Op.equal t (.iface tx' (.int k a)) (.iface tx' (.int k c))).run P w <;> simp [he] at this ⊢
          exact ⟨by rw [this.1], this.2⟩
        simp [eqGuard, Sem.run_bind, h2]
        rfl
section
variable {next : Act → World → Prop} {Q : Exit → Act → World → Prop} {K : St → Prop} {o : Oper}

theorem evOp_sound {tab : Tab} (tk : TabOK P tab) (hs : Sat P X O w0 θ st a w) (hn : ∀ a' w', Post P X O w0 θ K a' w' → next a' w') (h : evOp P tab o K st) : o.wp P a w next Q := by
  unfold Oper.wp
  unfold evOp at h
  unfold execOp
  obtain ⟨dst, op, type, pos, after, guard⟩ := o
  simp only at h ⊢
  cases op with
  | move x => exact hn _ _ (putK_post h hs (hs.val x))
  | assign x => exact hn _ _ (putK_post h hs (hs.val x))
  | pick c x y =>
    simp only at h ⊢
    have hc := hs.val c
    split at h
    case h_2 => exact h.elim
    rename_i t ht
    rw [ht] at hc
    have hc := hc.bool_inv
    rw [hc]
    have : ∀ (q : Bool), ((do pure (Next.value (if (← asBool (.bool q)) then a.eval x else a.eval y))) : Sem Next).run P w = .ok (.value (if q then a.eval x else a.eval y)) w := by intro q; cases q <;> rfl
    rw [this]
    cases t with
    | true => exact hn _ _ (putK_post (h.1 rfl) hs (hs.val x))
    | false => exact hn _ _ (putK_post (h.2 rfl) hs (hs.val y))
  | alloc e => exact upon_v2 hn (evAlloc_sound tk hs h)
  | box e x => exact upon_v2 hn (evBox_sound hs (hs.val x) h)
  | build t ps =>
    refine upon_v1 hs hn (evBuild_sound tk ?_ h)
    simpa [Array.toList_map] using RepP_map hs ps.toList
  | buildSlice t n ps =>
    refine upon_v2 hn (evBuildSlice_sound tk hs ?_ h)
    simpa [Array.toList_map] using RepP_map hs ps.toList
  | load t x => exact upon_v1 hs hn (evLoad_sound tk hs.hp (hs.val x) h)
  | store t x y =>
    cases dst with
    | some d => exact h.elim
    | none =>
      simp only at h
      obtain ⟨w', h1, h2⟩ := evStore_sound tk hs (hs.val x) (hs.val y) h
      simp only [Sem.run_bind, h1, Result.andThen_ok, Sem.run_pure]
      exact hn _ _ h2
  | nilCheck x =>
    simp only at h ⊢
    have hv := hs.val x
    generalize a.eval x = v at hv ⊢
    generalize st.val x = t at hv h
    cases hv <;> simp only at h <;> first | exact h.elim | skip
    case ref id i off l hθ b hb => exact hn _ _ (putK_post h hs (.ref id i off l hθ b hb))
    case cref ad cs c hb hc hr => exact hn _ _ (putK_post h hs (.cref ad cs c hb hc hr))
    case fn f vs xs hl hf => exact hn _ _ (putK_post h hs (.fn f vs xs hl hf))
  | binOp op t x y f =>
    simp only at h ⊢
    cases hc : nilCmp tab t (st.val x) (st.val y) (opc x || opc y) with
    | none =>
      simp only [hc] at h
      cases hq : slNil tab t st.h (st.val x) (st.val y) with
      | none =>
        simp only [hq] at h
        cases hi : ifcI tab t (st.val x) (st.val y) with
        | none =>
          simp only [hi] at h
          exact upon_v1 hs hn (evBin_sound tk (hs.val x) (hs.val y) h)
        | some p =>
          obtain ⟨tx, b⟩ := p
          simp only [hi] at h
          obtain ⟨hcm, h⟩ := h
          have key := fun hop => ifcI_sound (op := op) (ox := x) (oy := y) tk (hs.val x) (hs.val y) hi hcm hop
          split at h
          · exact upon_v1 hs hn ⟨_, _, key (.inl rfl), .bool b, by simpa using h⟩
          · exact upon_v1 hs hn ⟨_, _, key (.inr rfl), .bool (!b), by simpa using h⟩
          · exact h.elim
      | some es =>
        simp only [hq] at h
        cases op with
        | eql =>
          obtain ⟨b, h1, h2⟩ := slNil_sound (op := .eql) (ox := x) (oy := y) tk hs.hp (hs.val x) (hs.val y) hq (.inl rfl)
          exact upon_v1 hs hn ⟨_, _, h2, .bool b, by simpa using h b h1⟩
        | neq =>
          obtain ⟨b, h1, h2⟩ := slNil_sound (op := .neq) (ox := x) (oy := y) tk hs.hp (hs.val x) (hs.val y) hq (.inr rfl)
          exact upon_v1 hs hn ⟨_, _, h2, .bool (!b), by simpa using h b h1⟩
        | _ => exact (h false (fun e => by cases e)).elim
    | some b =>
      simp only [hc] at h
      have key := fun hop => nilCmp_sound (op := op) tk (hs.val x) (hs.val y) hc hop
      split at h
      · exact upon_v1 hs hn ⟨_, _, key (.inl rfl), .bool b, by simpa using h⟩
      · exact upon_v1 hs hn ⟨_, _, key (.inr rfl), .bool (!b), by simpa using h⟩
      · exact h.elim
  | unOp op t x => exact upon_v1 hs hn (evUn_sound (hs.val x) h)
  | convert s d x =>
    simp only at h
    split at h
    · rename_i e u hb
      exact upon_v2 hn (evToBytes_sound tk hs (hs.val x) hb h)
    · exact upon_v1 hs hn (evConv_sound tk hs.hp (hs.val x) h)
  | makeFunc f fi ca =>
    cases f with
    | func g =>
      simp only at h
      split at h
      case h_2 => exact h.elim
      rename_i he
      have hfi : fi = #[] := by cases fi; simp_all
      subst hfi
      refine upon_v1 hs hn ⟨_, _, rfl, ?_, h⟩
      have := RepT.fn (w := w) (N := Nn X θ st.h) (θ := θ) g (ca.map a.eval) (ca.toList.map st.val) (by simp) fun i x hx => getDA_map hs i x hx
      simpa using this
    | _ => exact h.elim
  | makeInterface t x =>
    simp only at h ⊢
    cases ht : tab.ty t with
    | none => simp [ht] at h
    | some i =>
      simp only [ht] at h
      obtain ⟨info, d, i1, i2, i3, i4⟩ := tk.ty t i ht
      have hni : (∀ ms, d ≠ .interface ms) ∧ putK dst (.ifc t (st.val x)) K st := by
        split at h
        · exact h.elim
        · exact h.elim
        · rename_i h1 h2
          refine ⟨fun ms e => ?_, h⟩
          subst e
          cases hk : i.k <;> rw [hk] at i3 <;> simp [fitsK] at i3
          exact h1 hk
      refine upon_v1 hs hn ⟨_, _, ?_, .ifc t (hs.val x), hni.2⟩
      simp only [Instr.makeInterface, Sem.run_bind, run_underlying' i2, Result.andThen_ok]
      cases d <;> first | rfl | exact (hni.1 _ rfl).elim
  | makeSlice t l c => exact upon_v2 hn (evMake_sound tk hs (hs.val l) (hs.val c) h)
  | slice t x lo hi mx => exact upon_v1 hs hn (evSlice_sound tk hs.hp (hs.val x) (hs.valO lo) (hs.valO hi) (hs.valO mx) h)
  | fieldAddr s x f => exact upon_v1 hs hn (evFieldAddr_sound tk (hs.val x) h)
  | field s x f => exact upon_v1 hs hn (evField_sound tk (hs.val x) h)
  | indexAddr t x i =>
    simp only at h
    cases ht : tab.ty t with
    | none => simp [ht] at h
    | some ti =>
      simp only [ht] at h
      split at h
      case h_2 => exact h.elim
      rename_i e hk
      exact upon_v1 hs hn (evIndex_sound tk hs.hp ht hk (hs.val x) (hs.val i) h)
  | index t x i => exact upon_v1 hs hn (evIx_sound tk (hs.val x) (hs.val i) h)
  | range t x =>
    simp only at h
    split at h
    case h_2 => exact h.elim
    rename_i ti s ht hx
    split at h
    case h_2 => exact h.elim
    rename_i hk
    obtain ⟨info, d, i1, i2, i3, i4⟩ := tk.ty t ti ht
    rw [hk] at i3
    cases d <;> simp [fitsK] at i3
    have hv := hs.val x
    rw [hx] at hv
    have hv : a.eval x = .string ⟨s.toArray⟩ := by
      generalize a.eval x = v at hv
      cases hv with | d hv => cases hv; rfl
    refine upon_v2 hn ⟨.pointer (some ⟨w.heap.size, 0, none⟩), w.alloc (.stringIter ⟨s.toArray⟩ 0), ?_, ?_⟩
    · rw [hv]
      simp [Instr.range, Sem.run_bind, run_underlying' i2, newObj]
      rfl
    · refine newK_post (l := ⟨some w.heap.size, 0, 0, 0⟩) h hs (.inl rfl) ⟨w.heap.size, rfl, by rw [alloc_heap, if_pos rfl]⟩ (.itr _ _ (Th.set_self _ _ _) _ rfl)
  | next it q =>
    cases q with
    | false => exact h.elim
    | true => exact upon_v2 hn (evNext_sound hs (hs.val it) h)
  | extract x i =>
    simp only at h ⊢
    split at h
    case h_2 => exact h.elim
    rename_i l hx
    rw [nth_eq] at h
    cases hi : l[i]? with
    | none => simp [hi] at h
    | some r =>
      simp only [hi] at h
      have hv := hs.val x
      rw [hx] at hv
      generalize a.eval x = v at hv ⊢
      cases hv with
      | tup vs _ hl hc =>
        have hr := hc i r hi
        have hlt : i < vs.size := by rw [hl]; exact (List.getElem?_eq_some_iff.mp hi).1
        have hg : vs[i]? = some (vs.getD i undef) := by simp [Array.getD_eq_getD_getElem?, hlt]
        exact upon_v1 hs hn ⟨_, _, by simp only [Instr.extract, hg, Sem.run_pure], hr, h⟩
  | call c =>
    simp only at h ⊢
    obtain ⟨callee, args, ats⟩ := c
    simp only [resolve] at h ⊢
    cases callee with
    | builtin b =>
      simp only at h
      unfold evBuiltin at h
      simp only [Sem.run_bind, Sem.run_pure, Result.andThen_ok, invoke, builtin]
      have hlist : ∀ {l : List T}, args.toList.map st.val = l → ∀ (i : Nat) (x : T), l[i]? = some x → ((args.map a.eval)[i]? = some ((args.map a.eval).getD i undef) ∧ RepT w (Nn X θ st.h) θ ((args.map a.eval).getD i undef) x) := fun {l} hl i x hx => by
        subst hl
        refine ⟨?_, getDA_map hs i x hx⟩
        have : i < args.size := by have := (List.getElem?_eq_some_iff.mp hx).1; simpa using this
        simp [Array.getD_eq_getD_getElem?, this]
      split at h
      · rename_i t ts x xs hts hxs
        obtain ⟨h1, h2⟩ := hlist hxs 0 x rfl
        exact upon_v1 hs hn (evLen_sound tk hs.hp (by rw [← Array.getElem?_toList, hts]; rfl) h1 h2 h)
      · rename_i ts s x xs hxs
        obtain ⟨h1, h2⟩ := hlist hxs 0 s rfl
        obtain ⟨h3, h4⟩ := hlist hxs 1 x rfl
        exact upon_v2 hn (evAppend_sound tk hs h1 h3 h2 h4 h)
      · rename_i ts l
        split at h
        case h_2 => exact h.elim
        rename_i k n hm
        exact upon_v1 hs hn ⟨_, _, max_run (w := w) (N := Nn X θ st.h) (θ := θ) (by simp) (fun i x hx => getDA_map hs i x hx) hm, .int k n, h⟩
      · rename_i ts l
        split at h
        case h_2 => exact h.elim
        rename_i k n hm
        exact upon_v1 hs hn ⟨_, _, min_run (w := w) (N := Nn X θ st.h) (θ := θ) (by simp) (fun i x hx => getDA_map hs i x hx) hm, .int k n, h⟩
      · exact h.elim
    | invoke r n => exact h.elim
    | value f =>
      simp only at h ⊢
      split at h
      case h_2 => exact h.elim
      rename_i g caps hf
      cases hm : memN tab.ent g with
      | false => simp [hm] at h
      | true =>
        simp only [hm] at h
        have hv := hs.val f
        cases hT : st.val f <;> rw [hT] at hf <;> simp [fnOf] at hf
        obtain ⟨rfl, rfl⟩ := hf
        rw [hT] at hv
        generalize a.eval f = v at hv ⊢
        cases hv with
        | fn _ vs _ hl hc =>
          simp only [Deferred.ofValue, Sem.run_bind, Sem.run_pure, Result.andThen_ok, invoke, Array.empty_append, callFunc_run tk hm]
          refine (evCall_sound hs (vs := args.map a.eval ++ vs) (by simp [hl]) (fun i x hx => ?_) h).mono fun e w' hp => ?_
          · by_cases hi : i < args.size
            · rw [List.getElem?_append_left (by simpa using hi)] at hx
              have := getDA_map hs i x hx
              simpa [Array.getD_eq_getD_getElem?, Array.getElem?_append, hi] using this
            · rw [List.getElem?_append_right (by simpa using hi)] at hx
              have := hc _ x hx
              simpa [Array.getD_eq_getD_getElem?, Array.getElem?_append, hi] using this
          · cases e with
            | returned v => exact hn _ _ hp
            | panicked c => exact hp.elim
            | outgrown => exact hp.elim
  | _ => exact h.elim
end
end Go.VL
