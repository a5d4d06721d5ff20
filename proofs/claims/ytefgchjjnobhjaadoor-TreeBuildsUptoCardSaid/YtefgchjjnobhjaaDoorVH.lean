/- Stores, places, parts. -/
import Derived.Test.YtefgchjjnobhjaaDoorVF
set_option linter.unusedVariables false
set_option linter.unusedSimpArgs false
namespace Go.VL
open Go Go.RowKit

variable {P : Program} {X O : Nat → Prop} {w0 w w' : World} {θ θ' : Th} {st : St} {a : Act} {N : Nat → Prop}

theorem leafyL_mem {l : List T} (h : leafyL l = true) : ∀ (j : Nat) (x : T), l[j]? = some x → leafy x = true := by
  induction l with
  | nil => intro j x hx; simp at hx
  | cons y r ih =>
    simp only [leafyL] at h
    cases hy : leafy y with
    | false => simp [hy] at h
    | true =>
      simp only [hy] at h
      intro j x hx
      cases j with
      | zero => simp at hx; subst hx; exact hy
      | succ j => exact ih h j x (by simpa using hx)

theorem dcells_spec {h : Hp} : ∀ {l : List T} {r : List D}, dcells h l = some r → r.length = l.length ∧ ∀ (j : Nat) (d : D), r[j]? = some d → ∃ x, l[j]? = some x ∧ dcell h x = some d
  | [], r, hr => by simp [dcells] at hr; subst hr; exact ⟨rfl, fun j d hd => by simp at hd⟩
  | x :: l, r, hr => by
    simp only [dcells] at hr
    cases hx : dcell h x with
    | none => simp [hx] at hr
    | some d0 =>
      cases hl : dcells h l with
      | none => simp [hx, hl] at hr
      | some r0 =>
        simp [hx, hl] at hr
        subst hr
        obtain ⟨h1, h2⟩ := dcells_spec hl
        refine ⟨by simp [h1], fun j d hd => ?_⟩
        cases j with
        | zero => simp at hd; subst hd; exact ⟨x, rfl, hx⟩
        | succ j => obtain ⟨y, y1, y2⟩ := h2 j d (by simpa using hd); exact ⟨y, by simpa using y1, y2⟩

theorem rwsL_mem {l : List T} {j : Nat} {x : T} (h : l[j]? = some x) : ∀ i ∈ x.rws, i ∈ rwsL l := by
  induction l generalizing j with
  | nil => simp at h
  | cons y r ih =>
    intro i hi
    simp only [rwsL, List.mem_append]
    cases j with
    | zero => simp at h; subst h; exact .inl hi
    | succ j => exact .inr (ih (by simpa using h) i hi)

/-- A leaf, its rows being given up, is the data that it is told as. -/
theorem dcell_rep {h : Hp} {l : List Nat} {u : Value} {x : T} {d : D} (hr : RepT w N θ u (x.tr (frzF h l))) (hd : dcell h x = some d) (hm : ∀ i ∈ x.rws, i ∈ l) : RepD w N u d := by
  cases x with
  | d y => simp [dcell] at hd; subst hd; simpa [T.tr, frzF] using hr.d_inv
  | full id =>
    have hi : memN l id = true := memN_iff.mpr (hm id (by simp [T.rws]))
    simp only [T.tr, frzF, hi] at hr
    simp only [dcell] at hd
    cases hv : valF h (.full id) with
    | d y => rw [hv] at hr; simp [hv] at hd; subst hd; exact hr.d_inv
    | _ => simp [hv] at hd
  | own id o k =>
    have hi : memN l id = true := memN_iff.mpr (hm id (by simp [T.rws]))
    simp only [T.tr, frzF, hi] at hr
    simp only [dcell] at hd
    cases hv : valF h (.own id o k) with
    | d y => rw [hv] at hr; simp [hv] at hd; subst hd; exact hr.d_inv
    | _ => simp [hv] at hd
  | nils =>
    simp [dcell, valF] at hd
    subst hd
    simp only [T.tr, frzF] at hr
    cases hr
    exact .nil
  | _ => simp [dcell, valF] at hd

theorem asD_rep {h : Hp} {B : Nat} {v : Value} {x : T} {r : List D} (hp : HpS P X O B θ h w) (hv : RepT w (Nn X θ h) θ v x) (hr : x.asD h = some r) (l : List Nat) (hm : ∀ i ∈ x.rws, i ∈ l) :
    v.cells.size = r.length ∧ ∀ (j : Nat) (d : D), r[j]? = some d → ∃ u, v.cells[j]? = some u ∧ RepD w (Nn X θ (remL h l)) u d := by
  unfold T.asD at hr
  cases hc : x.cells with
  | none => simp [hc] at hr
  | some cs =>
    simp only [hc] at hr
    obtain ⟨h1, h2⟩ := cells_len hv hc
    obtain ⟨h3, h4⟩ := dcells_spec hr
    refine ⟨by omega, fun j d hd => ?_⟩
    obtain ⟨y, y1, y2⟩ := h4 j d hd
    obtain ⟨u, u1, u2⟩ := h2 j y y1
    refine ⟨u, u1, dcell_rep (u2.frz (l := l) hp) y2 (fun i hi => hm i ?_)⟩
    cases x with
    | agg xs => simp [T.cells] at hc; subst hc; simp only [T.rws]; exact rwsL_mem y1 i hi
    | tup xs => simp [T.cells] at hc
    | dead => simp [T.cells] at hc
    | _ =>
      simp [T.cells] at hc
      subst hc
      cases j with
      | zero => simp at y1; subst y1; exact hi
      | succ j => simp at y1

theorem Sat.wrote {id b : Nat} {ob ob' : Ob} {l : Lay} (hs : Sat P X O w0 θ st a w) (hl : look st.h id = some ob) (hθ : θ id = some l) (hb : l.blk = some b) (hw : Wr w b w')
    (hob : ObS P w' (Nn X θ (upd st.h id ob')) θ l ob') : Sat P X O w0 θ ⟨st.t, upd st.h id ob', st.n, st.nt⟩ a w' := by
  obtain ⟨h1, h2⟩ := hs.hp.upd hl hθ hb hw.other hw.shp hw.size hob
  exact hs.move h2 hw.shp (Sub.refl θ) h1 hs.fresh (hw.kp (hs.hp.rng id ob l b hl hθ hb).2.2 rfl hs.kp)

theorem evStore_sound {tab : Tab} (tk : TabOK P tab) (hs : Sat P X O w0 θ st a w) {t : Nat} {va vx : Value} {xa x : T} {K : St → Prop} (hva : RepT w (Nn X θ st.h) θ va xa) (hvx : RepT w (Nn X θ st.h) θ vx x)
    (h : evStore tab t xa x st K) : ∃ w', (Instr.storeAt t va vx).run P w = .ok () w' ∧ Post P X O w0 θ K a w' := by
  unfold evStore at h
  simp only [forceS_eq, withSt_eq] at h
  split at h
  case h_2 => exact h.elim
  rename_i id i o y hy
  cases hpos : Nat.blt 0 y.size with
  | false => simp [hpos] at h
  | true =>
  simp only [hpos] at h
  have hpos : 0 < y.size := Nat.blt_eq.mp hpos
  obtain ⟨info, d, i1, i2, i3, i4, _⟩ := tk.ty t y hy
  cases hva with
  | ref _ _ _ l hθ b hb =>
    cases hlk : look st.h id with
    | none => simp [hlk] at h
    | some ob =>
      obtain ⟨l', k1, k2⟩ := hs.hp.ob id ob hlk
      rw [hθ] at k1; cases k1
      cases ob with
      | map es => simp [hlk] at h
      | iter s p => simp [hlk] at h
      | var ty cs =>
        simp only [hlk] at h
        split at h
        case h_2 => exact h.elim
        rename_i ls hi0 hcl
        obtain rfl := Nat.eq_of_beq_eq_true hi0
        split at h
        case h_2 => exact h.elim
        rename_i cs' hlen hlay hleaf
        have hlen := Nat.eq_of_beq_eq_true hlen
        obtain ⟨c1, c2⟩ := cells_len hvx hcl
        obtain ⟨e1, e2, e3⟩ := lay_eq _ _ _ _ hlay
        obtain ⟨z1, z0, b', vs, fr, m1, m2, m3, m4, m5⟩ := k2
        rw [hb] at m1; cases m1
        have hone : ∀ v ∈ vx.cells.toList, v.oneCell' = true := fun v hv => by
          obtain ⟨j, hj, rfl⟩ := List.mem_iff_getElem.mp hv
          have hj' : j < ls.length := by simp at hj; omega
          obtain ⟨u, u1, u2⟩ := c2 j ls[j] (by simp [hj'])
          have : u = vx.cells.toList[j] := by simp at hj; simp [hj] at u1; simp [u1]
          rw [← this]
          exact u2.one (leafyL_mem hleaf j _ (by simp [hj']))
        have hin : o + vx.cells.toList.length ≤ vs.size := by
          simp only [Array.length_toList]
          by_cases hne : ls = []
          · subst hne; simp at hlen; omega
          · have := e2 hne; omega
        obtain ⟨w', r1, r2, cs2, r3, r4, r5⟩ := run_stores (P := P) vx.cells.toList o w m2 m3 hin hone
        refine ⟨w', ?_, _, θ, Sub.refl θ, hs.wrote hlk hθ hb r2 ?_, h⟩
        · have hsz : vx.cells.size = info.size := by omega
          have ho : l.o0 + 0 * l.sz + o = o := by rw [z0]; omega
          simp only [Instr.storeAt, Instr.sureAddr, pure_bind, storeVar, Sem.run_bind, run_sizeOf i1, Result.andThen_ok, hsz, ne_eq, not_true, if_false, ho]
          exact r1
        · refine ⟨z1, z0, b, cs2, fr, hb, r3, by rw [r4]; exact m3, by rw [r4, m4, e1], fun j x' hx' => ?_⟩
          have hE : Ext w (Nn X θ st.h) w' (Nn X θ (upd st.h id (.var ty cs'))) := ⟨by rw [r2.size]; exact Nat.le_refl _, fun c hc hN => ⟨fun hN' => hN (Nn_upd.mp hN'), r2.other c (fun e => hN (.inr ⟨id, _, l, hlk, hθ, e ▸ hb⟩))⟩⟩
          rw [e3 j] at hx'
          rw [r5 j]
          simp only [Array.length_toList, c1]
          by_cases hc : o ≤ j ∧ j < o + ls.length
          · rw [if_pos hc] at hx' ⊢
            obtain ⟨u, u1, u2⟩ := c2 _ x' hx'
            exact ⟨u, by simpa using u1, u2.ext hE r2.shp (Sub.refl θ)⟩
          · rw [if_neg hc] at hx' ⊢
            obtain ⟨u, u1, u2⟩ := m5 j x' hx'
            exact ⟨u, u1, u2.ext hE r2.shp (Sub.refl θ)⟩
      | row e es =>
        simp only [hlk] at h
        split at h
        case h_2 => exact h.elim
        rename_i r hr hmem
        cases hlen : Nat.beq r.length y.size with
        | false => simp [hlen] at h
        | true =>
          simp only [hlen] at h
          have hlen := Nat.eq_of_beq_eq_true hlen
          obtain ⟨hi, h⟩ := h
          have h := h es[i] (by simp [hi])
          cases hlay : lay es[i] o r with
          | none => simp [hlay] at h
          | some c' =>
            simp only [hlay] at h
            obtain ⟨e1, e2, e3⟩ := lay_eq _ _ _ _ hlay
            obtain ⟨c1, c2⟩ := asD_rep hs.hp hvx hr x.rws (fun _ hi => hi)
            have hs1 := hs.frz x.rws
            have hnm : id ∉ x.rws := fun hh => by rw [memN_iff.mpr hh] at hmem; cases hmem
            have hlk1 : look (st.frz x.rws).h id = some (.row e es) := by
              unfold St.frz
              split
              · exact hlk
              · show look (frzH _ (remL st.h _)) id = _
                rw [look_frzH, look_remL, if_neg hnm, hlk]; rfl
            have hN1 : ∀ {u d}, RepD w (Nn X θ (remL st.h x.rws)) u d → RepD w (Nn X θ (st.frz x.rws).h) u d := fun {u d} hh => by
              unfold St.frz
              split
              · rename_i heq; rw [heq] at hh; simpa [remL] using hh
              · exact hh.ext (Ext.shrink fun b hb => Nn_frzH.mp hb)
            generalize st.frz x.rws = st1 at *
            obtain ⟨t1, h1, n1, nt1⟩ := st1
            simp only at h
            obtain ⟨l', k1, k2⟩ := hs1.hp.ob id _ hlk1
            rw [hθ] at k1; cases k1
            obtain ⟨z1, z2, z3, z4⟩ := k2
            simp only [hb] at z4
            obtain ⟨cs, fr, m2, m3, m4, m5⟩ := z4
            have hone : ∀ v ∈ vx.cells.toList, v.oneCell' = true := fun v hv => by
              obtain ⟨j, hj, rfl⟩ := List.mem_iff_getElem.mp hv
              have hj' : j < r.length := by simp at hj; omega
              obtain ⟨u, u1, u2⟩ := c2 j r[j] (by simp [hj'])
              have : u = vx.cells.toList[j] := by simp at hj; simp [hj] at u1; simp [u1]
              rw [← this]
              exact u2.one
            have hrow : (i + 1) * l.sz ≤ es.length * l.sz := Nat.mul_le_mul_right _ (by omega)
            rw [Nat.add_mul, Nat.one_mul] at hrow
            have hei : es[i].length = l.sz := z3 _ (List.getElem_mem _)
            have hin : l.o0 + i * l.sz + o + vx.cells.toList.length ≤ cs.size := by
              simp only [Array.length_toList, c1]
              by_cases hne : r = []
              · subst hne; simp at hlen; omega
              · have := e2 hne; omega
            obtain ⟨w', r1, r2, cs2, r3, r4, r5⟩ := run_stores (P := P) vx.cells.toList (l.o0 + i * l.sz + o) w m2 m3.w hin hone
            refine ⟨w', ?_, _, θ, Sub.refl θ, hs1.wrote hlk1 hθ hb r2 ?_, h⟩
            · have hsz : vx.cells.size = info.size := by omega
              simp only [Instr.storeAt, Instr.sureAddr, pure_bind, storeVar, Sem.run_bind, run_sizeOf i1, Result.andThen_ok, hsz, ne_eq, not_true, if_false]
              exact r1
            · have hE : Ext w (Nn X θ h1) w' (Nn X θ (upd h1 id (.row e (es.set i c')))) := ⟨by rw [r2.size]; exact Nat.le_refl _, fun c hc hN => ⟨fun hN' => hN (Nn_upd.mp hN'), r2.other c (fun e => hN (.inr ⟨id, _, l, hlk1, hθ, e ▸ hb⟩))⟩⟩
              refine ⟨z1, by simp [z2], fun q hq => ?_, ?_⟩
              · rcases List.mem_or_eq_of_mem_set hq with hq | rfl
                · exact z3 q hq
                · omega
              · simp only [hb]
                refine ⟨cs2, fr, r3, by rw [r4]; exact m3, by rw [r4]; simpa using m4, fun i' j d hd => ?_⟩
                rw [r5]
                simp only [Array.length_toList, c1]
                by_cases hii : i' = i
                · subst hii
                  simp only [List.getElem?_set_self hi, Option.bind_some] at hd
                  rw [e3 j] at hd
                  have hj : (o ≤ j ∧ j < o + r.length) ↔ (l.o0 + i' * l.sz + o ≤ l.o0 + i' * l.sz + j ∧ l.o0 + i' * l.sz + j < l.o0 + i' * l.sz + o + r.length) := by omega
                  by_cases hc : o ≤ j ∧ j < o + r.length
                  · rw [if_pos hc] at hd
                    rw [if_pos (hj.mp hc)]
                    obtain ⟨u, u1, u2⟩ := c2 _ d hd
                    refine ⟨u, ?_, (hN1 u2).ext hE⟩
                    rw [show l.o0 + i' * l.sz + j - (l.o0 + i' * l.sz + o) = j - o by omega]
                    simpa using u1
                  · rw [if_neg hc] at hd
                    rw [if_neg (fun hh => hc (hj.mpr hh))]
                    obtain ⟨u, u1, u2⟩ := m5 i' j d (by simp [hi, hd])
                    exact ⟨u, u1, u2.ext hE⟩
                · rw [List.getElem?_set_ne (Ne.symm hii)] at hd
                  obtain ⟨u, u1, u2⟩ := m5 i' j d hd
                  refine ⟨u, ?_, u2.ext hE⟩
                  rw [if_neg]
                  · exact u1
                  · have hj : j < l.sz := by
                      cases hq : es[i']? with
                      | none => simp [hq] at hd
                      | some q =>
                        simp [hq] at hd
                        have := z3 q (List.mem_of_getElem? hq)
                        have := (List.getElem?_eq_some_iff.mp hd).1
                        omega
                    have hr : o + r.length ≤ l.sz := by
                      by_cases hne : r = []
                      · subst hne; simp at hlen; omega
                      · have := e2 hne; omega
                    rcases Nat.lt_or_gt_of_ne hii with hlt | hlt
                    · have := Nat.mul_le_mul_right l.sz (show i' + 1 ≤ i by omega)
                      rw [Nat.add_mul, Nat.one_mul] at this
                      omega
                    · have := Nat.mul_le_mul_right l.sz (show i + 1 ≤ i' by omega)
                      rw [Nat.add_mul, Nat.one_mul] at this
                      omega
end Go.VL

/- Places, parts, cuts. -/
namespace Go.VL
open Go Go.RowKit

variable {P : Program} {X O : Nat → Prop} {w0 w w' : World} {θ θ' : Th} {st : St} {a : Act} {N : Nat → Prop}

theorem Tab.slice_of {tab : Tab} (tk : TabOK P tab) {t e : Nat} {i : TyI} (ht : tab.ty t = some i) (hk : i.k = .slice e) : P.underlying t = some (.slice e) := by
  obtain ⟨info, d, i1, i2, i3, _⟩ := tk.ty t i ht
  rw [hk] at i3
  cases d <;> simp [fitsK] at i3
  rw [i2, i3]
theorem Tab.str_of {tab : Tab} (tk : TabOK P tab) {t : Nat} {i : TyI} (ht : tab.ty t = some i) (hk : i.k = .str) : P.underlying t = some .string := by
  obtain ⟨info, d, i1, i2, i3, _⟩ := tk.ty t i ht
  rw [hk] at i3
  cases d <;> simp [fitsK] at i3
  exact i2
theorem Tab.int_of {tab : Tab} (tk : TabOK P tab) {t : Nat} {i : TyI} {k : IntKind} (ht : tab.ty t = some i) (hk : i.k = .int k) : P.underlying t = some (.int k) := by
  obtain ⟨info, d, i1, i2, i3, _⟩ := tk.ty t i ht
  rw [hk] at i3
  cases d <;> simp [fitsK] at i3
  rw [i2, kq_iff.mp i3]
theorem Tab.array_of {tab : Tab} (tk : TabOK P tab) {t n e : Nat} {i : TyI} (ht : tab.ty t = some i) (hk : i.k = .array n e) : P.underlying t = some (.array n e) := by
  obtain ⟨info, d, i1, i2, i3, _⟩ := tk.ty t i ht
  rw [hk] at i3
  cases d <;> simp [fitsK] at i3
  rw [i2, i3.1, i3.2]
theorem Tab.ptr_of {tab : Tab} (tk : TabOK P tab) {t e : Nat} {i : TyI} (ht : tab.ty t = some i) (hk : i.k = .ptr e) : P.underlying t = some (.pointer e) := by
  obtain ⟨info, d, i1, i2, i3, _⟩ := tk.ty t i ht
  rw [hk] at i3
  cases d <;> simp [fitsK] at i3
  rw [i2, i3]
theorem Tab.map_of {tab : Tab} (tk : TabOK P tab) {t k e : Nat} {i : TyI} (ht : tab.ty t = some i) (hk : i.k = .map k e) : P.underlying t = some (.map k e) := by
  obtain ⟨info, d, i1, i2, i3, _⟩ := tk.ty t i ht
  rw [hk] at i3
  cases d <;> simp [fitsK] at i3
  rw [i2, i3.1, i3.2]
theorem Tab.struct_of {tab : Tab} (tk : TabOK P tab) {t : Nat} {i : TyI} {fs : List (Nat × Nat)} (ht : tab.ty t = some i) (hk : i.k = .struct fs) :
    ∃ fields : Array Field, P.underlying t = some (.struct fields) ∧ ∀ (n : Nat) (o ft : Nat), nth fs n = some (o, ft) → ∃ g, fields[n]? = some g ∧ g.offset = o ∧ g.type = ft := by
  obtain ⟨info, d, i1, i2, i3, _⟩ := tk.ty t i ht
  rw [hk] at i3
  cases d with
  | struct fields =>
    simp only [fitsK, decide_eq_true_eq] at i3
    refine ⟨fields, i2, fun n o ft hn => ?_⟩
    rw [nth_eq, i3, List.getElem?_map] at hn
    cases hg : fields[n]? with
    | none => simp [hg] at hn
    | some g => simp [hg] at hn; exact ⟨g, rfl, hn.1, hn.2⟩
  | _ => simp [fitsK] at i3

theorem cellsOf_eq {tab : Tab} (tk : TabOK P tab) {t : Nat} {i : TyI} (ht : tab.ty t = some i) : P.cellsOf t = i.size := by
  obtain ⟨info, d, i1, i2, i3, i4, _⟩ := tk.ty t i ht
  simp [Program.cellsOf, i1, i4]

theorem evIndex_sound {tab : Tab} (tk : TabOK P tab) (hp : HpS P X O w0.heap.size θ st.h w) {t e : Nat} {ti : TyI} (ht : tab.ty t = some ti) (hk : ti.k = .slice e) {v vi : Value} {x ix : T} {K : T → Prop}
    (hv : RepT w (Nn X θ st.h) θ v x) (hvi : RepT w (Nn X θ st.h) θ vi ix) (h : evIndex tab e x ix st K) : ∃ u r, (Instr.indexAt t v vi).run P w = .ok u w ∧ RepT w (Nn X θ st.h) θ u r ∧ K r := by
  have hu := tab.slice_of tk ht hk
  unfold evIndex at h
  split at h
  case h_2 => exact h.elim
  rename_i k i y0 hy0
  obtain ⟨info0, d0, i10, _⟩ := tk.ty e y0 hy0
  obtain rfl := hvi.int_inv
  have hrun : ∀ {ad : Addr} {n cap : Nat} {info : TypeInfo}, P.info? e = some info → 0 ≤ i → i < n → (Instr.indexAt t (.slice (some ad) n cap) (.int k i)).run P w = .ok (.pointer (some (ad.add (i.toNat * info.size)))) w := by
    intro ad n cap info hi h0 h1
    have hc : 0 ≤ i ∧ i < (n : Int) := ⟨h0, h1⟩
    simp only [Instr.indexAt, asIntOf, pure_bind, Sem.run_bind, run_underlying' hu, Result.andThen_ok, if_pos hc, run_sizeOf hi, Sem.run_pure]
  split at h
  · rename_i es
    obtain ⟨⟨h0, h1⟩, h⟩ := h
    have hlt : i.toNat < es.length := by omega
    have h := h es[i.toNat] (by simp [hlt])
    cases hv with
    | d hv =>
      cases hv with
      | nil => simp at h1; omega
      | sl ad _ cap sz c hl hb hs hc hr =>
        have hne : es ≠ [] := by rintro rfl; simp at hlt
        obtain ⟨b1, b2, b3⟩ := hb hne
        cases hy : tab.ty e with
        | none => simp [hy] at h
        | some y =>
          simp only [hy] at h
          obtain ⟨hz, h⟩ := h
          obtain ⟨info, d, i1, i2, i3, i4, _⟩ := tk.ty e y hy
          have hsz : es[i.toNat].length = sz := hs _ (List.getElem_mem _)
          refine ⟨_, _, hrun i1 h0 (by omega), ?_, h⟩
          have e1 : info.size = sz := by omega
          rw [add_off' b1, e1]
          refine .cref _ _ (fun j => c i.toNat j) (fun _ => ⟨rfl, b2, b3⟩) (fun j x hx => hc i.toNat j x (by simp [hlt, hx])) (fun j x hx => hr i.toNat j x (by simp [hlt, hx]))
  · rename_i id
    cases hlk : look st.h id with
    | none => simp [hlk] at h
    | some ob =>
      cases ob with
      | row e' es =>
        simp only [hlk] at h
        cases hee : Nat.beq e' e with
        | false => simp [hee] at h
        | true =>
          simp only [hee] at h
          obtain rfl := Nat.eq_of_beq_eq_true hee
          obtain ⟨⟨h0, h1⟩, h⟩ := h
          obtain ⟨l, k1, k2, k3, k4, k5⟩ := hp.ob id _ hlk
          cases hv with
          | full _ l' hθ b cap hb hlc hz ad hab hsp ho =>
            rw [hθ] at k1; cases k1
            obtain ⟨info, i1⟩ : ∃ info, P.info? e' = some info := ⟨info0, i10⟩
            have hsz : l.sz = info.size := by rw [k2]; simp [Program.cellsOf, i1]
            have hcap : cap ≠ 0 := by omega
            refine ⟨_, _, hrun i1 h0 (by omega), ?_, h⟩
            rw [add_off' hsp, ho hcap, hab, ← hsz]
            exact .ref id i.toNat 0 l hθ b hb
          | full0 _ l' hθ hl =>
            rw [hθ] at k1; cases k1
            omega
      | var ty cs => simp [hlk] at h
      | map es => simp [hlk] at h
      | iter s p => simp [hlk] at h
  · rename_i id o n
    cases hlk : look st.h id with
    | none => simp [hlk] at h
    | some ob =>
      cases ob with
      | row e' es =>
        simp only [hlk] at h
        cases hee : Nat.beq e' e with
        | false => simp [hee] at h
        | true =>
          simp only [hee] at h
          obtain rfl := Nat.eq_of_beq_eq_true hee
          obtain ⟨⟨h0, h1, h2⟩, h⟩ := h
          obtain ⟨l, k1, k2, k3, k4, k5⟩ := hp.ob id _ hlk
          cases hv with
          | own _ _ _ l' hθ b hb ad cap hlc hab hsp hin ho hz =>
            rw [hθ] at k1; cases k1
            obtain ⟨info, i1⟩ : ∃ info, P.info? e' = some info := ⟨info0, i10⟩
            have hsz : l.sz = info.size := by rw [k2]; simp [Program.cellsOf, i1]
            have hcap : cap ≠ 0 := by omega
            refine ⟨_, _, hrun i1 h0 (by omega), ?_, h⟩
            rw [add_off' hsp, ho hcap, hab, ← hsz]
            have : l.o0 + o * l.sz + i.toNat * l.sz = l.o0 + (o + i.toNat) * l.sz + 0 := by rw [Nat.add_mul]; omega
            rw [this]
            exact .ref id (o + i.toNat) 0 l hθ b hb
          | own0 _ _ l' hθ => omega
      | var ty cs => simp [hlk] at h
      | map es => simp [hlk] at h
      | iter s p => simp [hlk] at h
  · exact h.elim

theorem evFieldAddr_sound {tab : Tab} (tk : TabOK P tab) {s f : Nat} {v : Value} {x : T} {K : T → Prop} (hv : RepT w N θ v x) (h : evFieldAddr tab s x f K) :
    ∃ u r, (Instr.fieldAt s v f).run P w = .ok u w ∧ RepT w N θ u r ∧ K r := by
  unfold evFieldAddr at h
  cases ht : tab.ty s with
  | none => simp [ht] at h
  | some i =>
    simp only [ht] at h
    cases hk : i.k <;> simp only [hk] at h <;> try exact h.elim
    rename_i fs
    obtain ⟨fields, f1, f2⟩ := tab.struct_of tk ht hk
    cases hf : nth fs f with
    | none => simp [hf] at h
    | some p =>
      obtain ⟨o, ft⟩ := p
      simp only [hf] at h
      obtain ⟨g, g1, g2, g3⟩ := f2 f o ft hf
      cases hj : tab.ty ft with
      | none => simp [hj] at h
      | some j =>
        simp only [hj] at h
        obtain ⟨info, d, i1, i2, i3, i4, _⟩ := tk.ty ft j hj
        cases hz : Nat.beq j.size 0 with
        | true => simp [hz] at h
        | false =>
          simp only [hz] at h
          have hz' : ¬ info.size = 0 := fun e => by rw [i4] at e; rw [e] at hz; simp at hz
          have hrun : ∀ ad : Addr, (Instr.fieldAt s (.pointer (some ad)) f).run P w = .ok (.pointer (some (ad.add o))) w := by
            intro ad
            rw [← g3] at i1
            simp only [Instr.fieldAt, Sem.run_bind, run_underlying' f1, Result.andThen_ok, g1, Instr.sureAddr, Sem.run_pure, fieldPlace, run_sizeOf i1, hz', if_false, g2]
          split at h
          · cases hv with
            | ref id i' o' l hθ b hb =>
              refine ⟨_, _, hrun _, ?_, h⟩
              rw [add_off, Nat.add_assoc]
              exact .ref _ _ _ l hθ b hb
          · rename_i cs
            cases hv with
            | cref ad _ c hb hc hr =>
              refine ⟨_, _, hrun _, ?_, h⟩
              rw [dropN_eq]
              by_cases hne : cs = []
              · subst hne
                simp only [List.drop_nil]
                exact .cref _ [] c (fun hh => absurd rfl hh) (fun j x hx => by simp at hx) (fun j x hx => by simp at hx)
              · obtain ⟨b1, b2, b3⟩ := hb hne
                rw [add_off' b1]
                refine .cref _ _ (fun j => c (o + j)) (fun _ => ⟨rfl, b2, b3⟩) (fun j x hx => ?_) (fun j x hx => ?_)
                · rw [List.getElem?_drop] at hx
                  simp only [Nat.add_assoc]
                  exact hc _ x hx
                · rw [List.getElem?_drop] at hx
                  exact hr _ x hx
          · exact h.elim

/-- A part of a struct's value. -/
theorem part_sound {tab : Tab} (tk : TabOK P tab) {t o : Nat} {vs : Array Value} {cs : List T} {K : T → Prop} (hl : vs.size = cs.length) (hx : ∀ (i : Nat) (x : T), cs[i]? = some x → RepT w N θ (vs.getD i undef) x)
    (h : ldT tab t (dropN cs o) K) : ∃ u r, (part t vs o).run P w = .ok u w ∧ RepT w N θ u r ∧ K r := by
  unfold ldT at h
  rw [dropN_eq] at h
  cases ht : tab.ty t with
  | none => simp [ht] at h
  | some i =>
    simp only [ht] at h
    obtain ⟨info, d, i1, i2, i3, i4, _⟩ := tk.ty t i ht
    have hag := fits_agg i3
    cases ha : i.k.agg with
    | true =>
      simp only [ha] at h
      cases hk : takeN (cs.drop o) i.size with
      | none => simp [hk] at h
      | some l =>
        simp only [hk] at h
        obtain ⟨rfl, hlen⟩ := takeN_eq _ _ _ hk
        refine ⟨.agg (vs.extract o (o + i.size)), _, ?_, .agg _ _ ?_ (fun j x hj => ?_), h⟩
        · simp only [part, Sem.run_bind, run_isAgg i2, Result.andThen_ok, hag, ha, if_true, run_sizeOf i1, i4, Sem.run_pure]
        · simp at hlen ⊢; omega
        · rw [List.getElem?_take, List.getElem?_drop] at hj
          by_cases hc : j < i.size
          · rw [if_pos hc] at hj
            have := hx _ x hj
            have hlt : o + j < vs.size := by rw [hl]; exact (List.getElem?_eq_some_iff.mp hj).1
            have e1 : (vs.extract o (o + i.size)).getD j undef = vs.getD (o + j) undef := by
              simp only [Array.getD_eq_getD_getElem?, Array.getElem?_extract]
              rw [if_pos (by omega)]
            rw [e1]
            exact this
          · simp [hc] at hj
    | false =>
      simp only [ha] at h
      cases hcs : cs.drop o with
      | nil => simp [hcs] at h
      | cons x r =>
        simp only [hcs] at h
        have hx0 : cs[o]? = some x := by
          have : (cs.drop o)[0]? = some x := by rw [hcs]; rfl
          rw [List.getElem?_drop] at this
          simpa using this
        have hlt : o < vs.size := by rw [hl]; exact (List.getElem?_eq_some_iff.mp hx0).1
        refine ⟨vs[o], x, ?_, ?_, h⟩
        · simp only [part, Sem.run_bind, run_isAgg i2, Result.andThen_ok, hag, ha, Bool.false_eq_true, if_false, Array.getElem?_eq_getElem hlt, Sem.run_pure]
        · have := hx o x hx0
          simpa [hlt] using this

theorem evField_sound {tab : Tab} (tk : TabOK P tab) {s f : Nat} {v : Value} {x : T} {K : T → Prop} (hv : RepT w N θ v x) (h : evField tab s x f K) :
    ∃ u r, (Instr.field s v f).run P w = .ok u w ∧ RepT w N θ u r ∧ K r := by
  unfold evField at h
  cases ht : tab.ty s with
  | none => simp [ht] at h
  | some i =>
    simp only [ht] at h
    cases hk : i.k <;> simp only [hk] at h <;> try exact h.elim
    rename_i fs
    obtain ⟨fields, f1, f2⟩ := tab.struct_of tk ht hk
    split at h
    · rename_i o ft cs hf
      obtain ⟨g, g1, g2, g3⟩ := f2 f o ft hf
      cases hv with
      | agg vs _ hl hx =>
        obtain ⟨u, r, h1, h2, h3⟩ := part_sound tk hl hx h
        refine ⟨u, r, ?_, h2, h3⟩
        simp only [Instr.field, Sem.run_bind, run_underlying' f1, Result.andThen_ok, g1, asAgg, Sem.run_pure, g2, g3]
        exact h1
    · exact h.elim
end Go.VL
