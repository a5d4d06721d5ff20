/- slices.Delete of one node, in cells. -/
import Derived.Test.YtpkgjkoijeapjaaVTab
import Derived.Test.YtpkgjkoijeapjaaVSl2
import Derived.WalkKit
import Derived.WalkSpells
import Derived.WalkLawsBesides
import Derived.Deep.RegionLaw
import Derived.Shelf.RegionOpenPlain
set_option linter.unusedVariables false
set_option linter.unusedSimpArgs false
namespace Go.VL.SlDel
open Go Go.Proofs Go.VL Go.RowKit
set_option maxRecDepth 1000000
def zcs : List Value := [.string ⟨#[]⟩, .slice none 0 0, .string ⟨#[]⟩, .slice none 0 0]
theorem hzs : (Builtin.zeroCells (Value.agg zcs.toArray).cells 1).toList = zcs := by
  simp [Builtin.zeroCells, zcs, Value.cells, List.range_succ]
theorem i_nd : (Try.prog.info? 62).map (fun i => (i.zero, i.size)) = some (some (.agg zcs.toArray), 4) := by kernel_rfl
set_option maxHeartbeats 4000000 in
theorem del_raw (b off cap i j n : Nat) (cs : List Value) (w : World) (hij : j = i + 1) (hi : i < n) (hcap : n ≤ cap) (hcl : cs.length = n * 4)
    (hcs : ∀ j v, cs[j]? = some v → w.cell? ⟨b, off + j, none⟩ = some v) (hfz : ∀ j, j < n * 4 → w.frozen? ⟨b, off + j, none⟩ = false) (h1 : ∀ v ∈ cs, v.oneCell' = true) :
    Calls Try.prog 45 #[.slice (some ⟨b, off, none⟩) n cap, .int .i64 i, .int .i64 j] w fun e w' => e = .returned (.slice (some ⟨b, off, none⟩) (n - 1) cap) ∧ w' = (w.drew.setCells b (off + i * 4) (cs.drop (j * 4))).setCells b (off + (n - 1) * 4) zcs := by
  have t3 : Try.prog.underlying 3 = some (.int .i64) := by kernel_rfl
  have t30 : Try.prog.underlying 30 = some (.slice 62) := by kernel_rfl
  have u3 := run_underlying t3
  have u30 := run_underlying t30
  have mixed : Try.prog.follows .mixedOrders = true := by kernel_rfl
  have hif : ∃ i0, Try.prog.info? 62 = some i0 ∧ i0.zero = some (.agg zcs.toArray) ∧ i0.size = 4 := by
    cases h : Try.prog.info? 62 with
    | none => have := i_nd; rw [h] at this; cases this
    | some i0 =>
      have := i_nd
      rw [h] at this
      simp at this
      exact ⟨i0, rfl, this.1, this.2⟩
  obtain ⟨i0, hi0, hz0, hz1⟩ := hif
  have v62 : ∀ w, (zeroValue 62).run Try.prog w = .ok (.agg zcs.toArray) w := fun w => run_zeroValue hi0 hz0 w
  have z62 : ∀ w, (Go.sizeOf 62).run Try.prog w = .ok 4 w := fun w => by rw [← hz1]; exact run_sizeOf hi0 w
  obtain ⟨news, hnews⟩ : ∃ news, news = cs.drop (j * 4) := ⟨_, rfl⟩
  have hlen : news.length = (n - j) * 4 := by rw [hnews, List.length_drop, hcl]; omega
  have hget : ∀ t u, news[t]? = some u → w.cell? ⟨b, off + j * 4 + t, none⟩ = some u := fun t u hu => by
    rw [hnews, List.getElem?_drop] at hu
    rw [Nat.add_assoc]; exact hcs _ _ hu
  obtain ⟨A, hA, hsrc⟩ : ∃ A : Addr, (if cap = j then some (⟨b, off, none⟩ : Addr) else some ⟨b, off + j * 4, none⟩) = some A ∧ Hid (∀ t u, news[t]? = some u → w.drew.cell? (A.add t) = some u) := by
    by_cases h : cap = j
    · refine ⟨⟨b, off, none⟩, by simp [h], fun t u hu => ?_⟩
      have h0 : news.length = 0 := by rw [hlen]; omega
      rw [List.length_eq_zero_iff.1 h0] at hu
      simp at hu
    · exact ⟨⟨b, off + j * 4, none⟩, by simp [h], fun t u hu => by rw [Addr.add_lit]; exact hget t u hu⟩
  have hcell : ∀ j, j < n * 4 → (w.cell? ⟨b, off + j, none⟩).isSome = true := fun j hj => by
    rw [hcs j _ (List.getElem?_eq_getElem (by omega))]; rfl
  have s1 : Hid (news.length = (n - j) * 4) := hlen
  have s2 : Hid (∀ u ∈ news, u.oneCell' = true) := fun u hu => h1 u (List.mem_of_mem_drop (by rw [← hnews]; exact hu))
  have s3 : Hid (∀ t, t < news.length → (w.drew.cell? ⟨b, off + i * 4 + t, none⟩).isSome = true ∧ w.drew.frozen? ⟨b, off + i * 4 + t, none⟩ = false) := fun t ht => by
    rw [hlen] at ht
    rw [Nat.add_assoc]
    exact ⟨hcell _ (by omega), hfz _ (by omega)⟩
  obtain ⟨W1, hW1⟩ : ∃ W1, W1 = w.drew.setCells b (off + i * 4) news := ⟨_, rfl⟩
  have hW : Hid (W1 = w.drew.setCells b (off + i * 4) news) := hW1
  have hcl2 : ∀ q ty, (builtin .clear #[30] ty q #[.slice (some ⟨b, off + (i + (n - j)) * 4, none⟩) (n - (i + (n - j))) (cap - (i + (n - j)))]).run Try.prog W1 = .ok (.value (.tuple #[])) (W1.setCells b (off + (i + (n - j)) * 4) zcs) := fun q ty => by
    have hq : n - (i + (n - j)) = 1 := by omega
    have := run_clearN W1 30 62 ty (.agg zcs.toArray) zcs t30 v62 b (off + (i + (n - j)) * 4) (n - (i + (n - j))) (cap - (i + (n - j))) (by omega) (by rw [hq]; exact hzs) (by intro v hv; simp [zcs] at hv; rcases hv with rfl | rfl | rfl | rfl <;> rfl)
      (fun j hj => by
        have hj : j < 4 := hj
        rw [hW1, Nat.add_assoc]
        exact some_setCells _ _ _ _ (fun t ht => (s3.out t ht).1) _ (hcell _ (by omega))) (fun j hj => by
        have hj : j < 4 := hj
        rw [hW1, World.frozen?_setCells, Nat.add_assoc]
        exact hfz _ (by omega))
    simp [builtin, this]
  have hic : i ≤ cap := by omega
  have hne : ¬ ((i : Int) = j) := by omega
  have hjn : j ≤ n := by omega
  have hij' : i ≤ j := by omega
  have hjc : j ≤ cap := by omega
  clear hW1 hget hlen hcell hcs hfz h1 hcl
  have HIJ : Hid (j = i + 1) := hij
  have HNEWS : Hid (news = cs.drop (j * 4)) := hnews
  clear hij hnews
  go_enter Try.func45, Try.ntmps45
  go_wp2
  go_region_law_o (refine step_append_room rfl (.tmp 22) (.tmp 25) 30 rfl 62 i0 4 t30 hi0 hz1 b off i cap (by simp [Act.eval, Act.put]) A (n - j) (cap - j) news (by simp [Act.eval, Act.put]) s1.out hsrc.out s2.out (by omega) s3.out ?_; rw [← hW.out])
  go_wp2_with (first
    | (at_builtin; refine wpList_built1 .clear rfl _ 30 rfl _ rfl (hcl2 _ _) ?_)
    | (refine wpList_built1 .clear rfl _ 30 rfl _ rfl (fun q => hcl2 q _) ?_))
  go_ret
  have e1 : i + (n - j) = n - 1 := by have := HIJ.out; omega
  refine ⟨by rw [← e1]; rfl, ?_⟩
  rw [hW.out, HNEWS.out, e1]

def zcD : List D := [.str [], .sl [], .str [], .sl []]
theorem z_flat {w : World} {N : Nat → Prop} : FlatD w N zcs [zcD] 4 := by
  refine ⟨rfl, by simp [zcD], fun i j x hx => ?_⟩
  obtain ⟨hi, hj⟩ := FlatD.lt (sz := 4) (es := [zcD]) (by simp [zcD]) hx
  obtain rfl : i = 0 := by simpa using hi
  match j, hj, hx with
  | 0, _, hx => cases hx; exact ⟨_, rfl, .str []⟩
  | 1, _, hx => cases hx; exact ⟨_, rfl, .nil⟩
  | 2, _, hx => cases hx; exact ⟨_, rfl, .str []⟩
  | 3, _, hx => cases hx; exact ⟨_, rfl, .nil⟩
theorem cells62 : Try.prog.cellsOf 62 = 4 := by kernel_rfl
theorem delC (es : List (List D)) (i : Nat) (hi : i < es.length) : CallWP Try.prog 45 [.full 0, (.d (.int .i64 ((i : Nat)))), (.d (.int .i64 (((i + 1 : Nat) : Int))))] [(0, .row 62 es)] (fun r h => r = .own 0 0 (es.length - 1) ∧ h = [(0, .row 62 (es.take i ++ es.drop (i + 1) ++ [zcD]))]) := by
  intro X O w θ vs h1 h2 h3 h4 h5 hG
  obtain ⟨l, hθ, hob, hbk⟩ := h3.one
  have hnz : es.length ≠ 0 := by omega
  obtain ⟨l', hθ', hv⟩ := (h2 0 _ rfl).full_inv
  rw [hθ] at hθ'; cases hθ'
  have hlen : l.len = es.length := hob.2.1
  rcases hv with ⟨b, cap, ad, hv, hb, hlc, ⟨cs0, e0, fr0, hz1, hz2⟩, hab, hsp, ho⟩ | ⟨_, h0⟩
  rotate_left
  · omega
  obtain ⟨cs, fr, hw, hnf, hsz, _, hin, hf⟩ := row_flat hob hb
  rw [cells62] at hsz
  rw [hsz] at hf hin hz2
  have hcap0 : cap ≠ 0 := by omega
  have had : ad = ⟨b, l.o0, none⟩ := by
    obtain ⟨x, y, z⟩ := ad
    simp only at hab hsp
    rw [hab, hsp]
    have := ho hcap0
    simp only at this
    rw [this]
  subst had
  have hv1 := (h2 1 _ rfl).int_inv
  have hv2 := (h2 2 _ rfl).int_inv
  have hvs : vs = #[.slice (some ⟨b, l.o0, none⟩) es.length cap, .int .i64 i, .int .i64 ((i + 1 : Nat) : Int)] := by
    match vs, h1 with
    | ⟨[x, y, z]⟩, _ =>
      simp at hv hv1 hv2
      rw [hv, hv1, hv2, hlen]
      rfl
  subst hvs
  have hfl := hf.1
  have hraw := del_raw b l.o0 cap i (i + 1) es.length _ w rfl hi (by omega) hfl (cells_read hw) (fun j hj => cells_free hw hnf.w (by omega)) (hf.one (by omega))
  obtain ⟨vs, hvs⟩ : ∃ vs, vs = (cs.toList.drop l.o0).take (es.length * 4) := ⟨_, rfl⟩
  rw [← hvs] at hf hfl hraw
  have hvc : ∀ k, k < es.length * 4 → cs[l.o0 + k]? = vs[k]? := fun k hk => by
    rw [hvs, List.getElem?_take, if_pos hk, List.getElem?_drop, Array.getElem?_toList]
  refine hraw.mono fun e w' ⟨he, hw'⟩ => ?_
  have hd : (vs.drop ((i + 1) * 4)).length = (es.length - (i + 1)) * 4 := by rw [List.length_drop, hfl]; omega
  obtain ⟨W1, hW1⟩ : ∃ W1, W1 = w.drew.setCells b (l.o0 + i * 4) (vs.drop ((i + 1) * 4)) := ⟨_, rfl⟩
  obtain ⟨g1, cs1, g2, g3, g4⟩ := setCells_wr (vs.drop ((i + 1) * 4)) (l.o0 + i * 4) w.drew cs hw (by rw [hd]; omega)
  rw [← hW1] at g1 g2 hw'
  obtain ⟨k1, cs2, k2, k3, k4⟩ := setCells_wr zcs (l.o0 + (es.length - 1) * 4) W1 cs1 g2 (by show _ + 4 ≤ _; omega)
  rw [← hw'] at k1 k2
  have hwr : Wr w b w' := g1.drew_left.trans k1
  have hf' : FlatD w' (Nn X θ [(0, .row 62 (es.take i ++ es.drop (i + 1) ++ [zcD]))]) (vs.take (i * 4) ++ vs.drop ((i + 1) * 4) ++ zcs) (es.take i ++ es.drop (i + 1) ++ [zcD]) 4 := by
    exact ((hf.take.append hf.drop).ext (hwr.ext1 hθ hb)).append z_flat
  have hlen' : (es.take i ++ es.drop (i + 1) ++ [zcD]).length = es.length := by simp; omega
  obtain ⟨t1, t2⟩ := h3.turn hθ hb hwr (row_of_flat (es := es.take i ++ es.drop (i + 1) ++ [zcD]) hb k2 (by rw [k3, g3]; exact hnf) (hsz.trans cells62.symm) (by rw [hlen', hlen]) (by rw [hlen', hsz, k3, g3]; exact hin) (by rw [hsz]; exact hf') (fun k hk => by
    rw [hf'.1, hlen'] at hk
    rw [k4, g4]
    have e1 : (vs.take (i * 4)).length = i * 4 := by rw [List.length_take, hfl]; omega
    have e2 : (vs.take (i * 4) ++ vs.drop ((i + 1) * 4)).length = (es.length - 1) * 4 := by rw [List.length_append, e1, hd]; omega
    by_cases c1 : k < (es.length - 1) * 4
    · rw [if_neg (by omega), List.getElem?_append_left (by omega)]
      by_cases c2 : k < i * 4
      · rw [if_neg (by omega), hvc k hk, List.getElem?_append_left (by omega), List.getElem?_take, if_pos c2]
      · rw [if_pos (by rw [hd]; omega), List.getElem?_append_right (by omega), e1]
        congr 1
        omega
    · rw [if_pos (by have hz4 : zcs.length = 4 := rfl; rw [hz4]; omega), List.getElem?_append_right (by omega), e2]
      congr 1
      omega))
  refine ⟨_, _, _, θ, he, ⟨rfl, rfl⟩, fun _ _ h => h, ?_, t1, hwr.kp (hbk b hb).2.2 rfl (Kp.refl O w)⟩
  refine .own 0 0 (es.length - 1) l hθ b hb ⟨b, l.o0, none⟩ cap (by omega) rfl rfl (by omega) (fun _ => by simp) ⟨cs2, _, fr, k2, ?_⟩
  have q1 : cs0.size = cs.size := by rw [hw] at hz1; cases hz1; rfl
  rw [k3, g3, Nat.zero_add, ← q1, hsz]
  exact hz2
end Go.VL.SlDel
