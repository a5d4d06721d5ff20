/- The reference's table, walked. -/
import Derived.Test.YtkjiccficfcaeaaDistA
import Derived.StillTailTactics
import Derived.Deep.QuietTactic
import Derived.BigQuiet
import Derived.WalkSpells
import Derived.Calls
set_option linter.unusedVariables false
set_option linter.unusedSimpArgs false
namespace Go.VL.DistRaw
open Go Go.Proofs Go.VL Go.VL.DistA
set_option maxRecDepth 1000000
theorem infoB : (Try.prog.info? 4).map (fun i => (i.zero, i.size, i.bytes)) = some (some (.bool false), 1, 1) := by kernel_rfl
theorem infoR : (Try.prog.info? 23).map (fun i => (i.zero, i.size, i.bytes)) = some (some (.slice none 0 0), 1, 24) := by kernel_rfl
theorem prt_step {f : Nat → Bool} {i k a b : Nat} (ha : a < i + 1) : prtT f i (k + 1) a b = if a = i ∧ b = k then !(f i == f k) else prtT f i k a b := by
  unfold prtT
  by_cases e : a = i ∧ b = k
  · obtain ⟨rfl, rfl⟩ := e
    simp [bne]
  · rw [if_neg e]
    by_cases h : a < i ∨ b < k
    · rw [if_pos h, if_pos (by omega)]
    · rw [if_neg h, if_neg (by omega)]
set_option maxHeartbeats 8000000 in
theorem dist_raw (n : Nat) (hn : n ≤ 1000) (gx ox cx gy oy cy : Nat) (d : Nat → Nat → Nat) (f : Nat → Bool) (w : World) (hd : ∀ i c, i < n → c < 8 → d i c < n)
    (rN : ∀ i, i < n → ∃ g o cp, w.cell? ⟨gx, ox + i, none⟩ = some (.slice (some ⟨g, o, none⟩) 8 cp) ∧ ∀ c, c < 8 → w.cell? ⟨g, o + c, none⟩ = some (.int .i64 (d i c)))
    (rF : ∀ i, i < n → w.cell? ⟨gy, oy + i, none⟩ = some (.bool (f i))) :
    Calls Try.prog 13 #[.agg #[.slice (some ⟨gx, ox, none⟩) n cx, .slice (some ⟨gy, oy, none⟩) n cy]] w fun e W => ∃ T, e = .returned (.slice (some ⟨w.heap.size + 1, 0, none⟩) n n) ∧ Tb w (.slice (some ⟨gx, ox, none⟩) n cx) (.slice (some ⟨gy, oy, none⟩) n cy) n n T W ∧ Apart n d f T ∧ ∀ i k c, i < n → k < n → c < 8 → T (d i c) (d k c) = true → T i k = true := by
  have hmk1 := run_make_row' (P := Try.prog) 44 23 (.slice none 0 0) 24 Try.underlying44 infoR rfl .i64 .i64 n (by omega) (by omega)
  have hmk2 := run_make_row' (P := Try.prog) 23 4 (.bool false) 1 Try.underlying23 infoB rfl .i64 .i64 n (by omega) (by omega)
  go_enter Try.func13, Try.ntmps13
  go_wp2
  have hT0 := Tb.start w (.slice (some ⟨gx, ox, none⟩) n cx) (.slice (some ⟨gy, oy, none⟩) n cy) n (fun a b => f a != f b)
  go_loopg [18] n (fun g v W => ∃ i : Nat, i ≤ n ∧ g = n - i ∧ v = .int .i64 i ∧ Tb w (.slice (some ⟨gx, ox, none⟩) n cx) (.slice (some ⟨gy, oy, none⟩) n cy) n i (fun a b => f a != f b) W)
  case atStart => exact ⟨0, Nat.zero_le _, rfl, rfl, hT0⟩
  case round =>
    clear hT0 hmk1
    obtain ⟨i, hi, rfl, rfl, hT⟩ := hrel
    by_cases hlt : i < n
    case neg =>
      have hie : i = n := by omega
      subst hie
      clear hmk2 rF
      have hA0 : Apart i d f (fun a b => f a != f b) := .first
      revert hT hA0
      generalize (fun a b => f a != f b) = T0
      intro hT hA0
      go_wp2
      go_loopg [7] (2 * unm i T0 + 1) (fun g v W => ∃ (T : Nat → Nat → Bool) (more : Bool), v = .bool more ∧ g = 2 * unm i T + (if more = true then 1 else 0) ∧ Tb w (.slice (some ⟨gx, ox, none⟩) i cx) (.slice (some ⟨gy, oy, none⟩) i cy) i i T W ∧ Apart i d f T ∧ (more = false → ∀ a k c, a < i → k < i → c < 8 → T (d a c) (d k c) = true → T a k = true))
      case atStart => exact ⟨T0, true, rfl, by simp, hT, hA0, fun e => by cases e⟩
      case round =>
        clear hT hA0
        obtain ⟨T, more, rfl, rfl, hT, hA, hcl⟩ := hrel
        cases more with
        | false =>
          have hcl2 := hcl rfl
          clear rN hcl
          go_wp2
          go_ret
          exact ⟨T, rfl, hT, hA, hcl2⟩
        | true =>
          clear hcl
          obtain ⟨u, hu⟩ : ∃ u, u = unm i T := ⟨_, rfl⟩
          have hP0 := Ps.start hA
          rw [← hu] at hP0
          go_wp2
          go_loopg [7, 56] i (fun g vm v W => ∃ (a : Nat) (T : Nat → Nat → Bool) (more : Bool), a ≤ i ∧ g = i - a ∧ vm = .bool more ∧ v = .int .i64 a ∧ Tb w (.slice (some ⟨gx, ox, none⟩) i cx) (.slice (some ⟨gy, oy, none⟩) i cy) i i T W ∧ Ps i d f u a 0 0 more T)
          case atStart => exact ⟨0, T, false, by omega, rfl, rfl, rfl, hT, hP0⟩
          case round =>
            clear hT hP0 hA
            obtain ⟨a, T2, more, ha, rfl, rfl, rfl, hT, hP⟩ := hrel
            by_cases hai : a < i
            case neg =>
              have hae : a = i := by omega
              subst hae
              clear rN
              go_wp2
              go_roundg (2 * unm a T2 + (if more = true then 1 else 0))
              case measure =>
                cases more with
                | true => have := hP.lt rfl; rw [← hu]; simp; omega
                | false => rw [(hP.cl rfl).1, ← hu]; simp
              case rel => exact ⟨T2, more, rfl, rfl, hT, hP.ap, fun e => by subst e; exact hP.done⟩
            have hai2 : (a : Int) < i := by omega
            have g1 := hT.o (i := a) hai hai
            go_wp2
            go_loopg [7, 61] i (fun g vm v W => ∃ (k : Nat) (T : Nat → Nat → Bool) (more : Bool), k ≤ i ∧ g = i - k ∧ vm = .bool more ∧ v = .int .i64 k ∧ Tb w (.slice (some ⟨gx, ox, none⟩) i cx) (.slice (some ⟨gy, oy, none⟩) i cy) i i T W ∧ Ps i d f u a k 0 more T)
            case atStart => exact ⟨0, T2, more, by omega, rfl, rfl, rfl, hT, hP⟩
            case round =>
              clear hT hP g1
              obtain ⟨k, T3, more, hk, rfl, rfl, rfl, hT, hP⟩ := hrel
              by_cases hki : k < i
              case neg =>
                have hke : k = i := by omega
                subst hke
                clear rN
                go_wp2
                go_roundg (k - (a + 1))
                case measure => omega
                case rel => exact ⟨a + 1, T3, more, by omega, rfl, rfl, rfl, hT, hP.nextI⟩
              have hki2 : (k : Int) < i := by omega
              go_wp2
              go_loopg [7, 10] 8 (fun g vm v W => ∃ (c : Nat) (T : Nat → Nat → Bool) (more : Bool), c ≤ 8 ∧ g = 8 - c ∧ vm = .bool more ∧ v = .int .i64 c ∧ Tb w (.slice (some ⟨gx, ox, none⟩) i cx) (.slice (some ⟨gy, oy, none⟩) i cy) i i T W ∧ Ps i d f u a k c more T)
              case atStart => exact ⟨0, T3, more, by omega, rfl, rfl, rfl, hT, hP⟩
              case round =>
                clear hT hP
                obtain ⟨c, T4, more, hc, rfl, rfl, rfl, hT, hP⟩ := hrel
                by_cases hc8 : c < 8
                case neg =>
                  have hce : c = 8 := by omega
                  subst hce
                  clear rN
                  go_wp2
                  go_roundg (i - (k + 1))
                  case measure => omega
                  case rel => exact ⟨k + 1, T4, more, by omega, rfl, rfl, rfl, hT, hP.nextK (.inl (by omega))⟩
                have hc82 : (c : Int) < 8 := by omega
                have g1 := hT.o (i := a) hai hai
                have g2 := hT.t (i := a) (k := k) hai hki
                cases hTik : T4 a k with
                | true =>
                  clear rN
                  rw [hTik] at g2
                  go_wp2
                  go_roundg (i - (k + 1))
                  case measure => omega
                  case rel => exact ⟨k + 1, T4, more, by omega, rfl, rfl, rfl, hT, hP.nextK (.inr hTik)⟩
                | false =>
                  rw [hTik] at g2
                  have g3 := hT.tf (i := a) k hai
                  have gx0 := hT.x
                  have cw : ∀ {ad : Addr} {v : Value}, w.cell? ad = some v → wr.cell? ad = some v := fun {ad v} h => by rw [hT.since.cell (a := ad) (World.block_lt_of_cell? _ _ h), h]
                  obtain ⟨ga, oa, pa, qa1, qa2⟩ := rN a hai
                  obtain ⟨gk, ok, pk, qk1, qk2⟩ := rN k hki
                  have r1 := cw qa1
                  have r2 := cw (qa2 c hc8)
                  have r3 := cw qk1
                  have r4 := cw (qk2 c hc8)
                  clear qa1 qa2 qk1 qk2
                  have hda := hd a c hai hc8
                  have hdk := hd k c hki hc8
                  have hda2 : ((d a c : Nat) : Int) < i := by omega
                  have hdk2 : ((d k c : Nat) : Int) < i := by omega
                  have g4 := hT.o (i := d a c) hda hda
                  have g5 := hT.t (i := d a c) (k := d k c) hda hdk
                  clear cw rN
                  cases hTd : T4 (d a c) (d k c) with
                  | true =>
                    rw [hTd] at g5
                    go_wp2_with fail
                    go_quiet (fail)
                    go_wp2
                    go_roundg (8 - (c + 1))
                    case measure => omega
                    case rel => exact ⟨c + 1, fun x y => if x = a ∧ y = k then true else T4 x y, true, by omega, rfl, rfl, rfl, (hT.drewN _).set true, hP.mark hd hai hki hc8 hTd hTik⟩
                  | false =>
                    rw [hTd] at g5
                    go_wp2_with fail
                    go_quiet (fail)
                    go_wp2
                    go_roundg (8 - (c + 1))
                    case measure => omega
                    case rel => exact ⟨c + 1, T4, more, by omega, rfl, rfl, rfl, hT.drewN _, hP.step hTd⟩
    have hlt2 : (i : Int) < n := by omega
    have hsz := hT.size
    have hst1 : ∀ o, (wr.alloc o).cell? ⟨w.heap.size + 1, i, none⟩ = some (.slice none 0 0) := fun o => by simpa using (hT.top.alloc o).cell hlt
    have hst2 : ∀ o, (wr.alloc o).frozen? ⟨w.heap.size + 1, i, none⟩ = false := fun o => (hT.top.alloc o).frozen i
    have hI0 : Tb w (.slice (some ⟨gx, ox, none⟩) n cx) (.slice (some ⟨gy, oy, none⟩) n cy) n (i + 1) (prtT f i 0) ((wr.alloc (.cells (madeCells #[.bool false] n) 4)).setCell ⟨w.heap.size + 1, i, none⟩ (.slice (some ⟨w.heap.size + 2 + i, 0, none⟩) n n)) :=
      (hT.row hlt).congr (fun a b ha hb => by unfold prtT; by_cases h : a < i <;> simp [h])
    go_wp2
    clear hst1 hst2 hsz hmk2 hT
    go_loopg [31] n (fun g v W => ∃ k : Nat, k ≤ n ∧ g = n - k ∧ v = .int .i64 k ∧ Tb w (.slice (some ⟨gx, ox, none⟩) n cx) (.slice (some ⟨gy, oy, none⟩) n cy) n (i + 1) (prtT f i k) W)
    case atStart => exact ⟨0, Nat.zero_le _, rfl, rfl, hI0⟩
    case round =>
      clear hI0
      obtain ⟨k, hk, rfl, rfl, hI⟩ := hrel
      have g1 := hI.o (i := i) (by omega) hlt
      by_cases hkn : k < n
      case neg =>
        have hke : k = n := by omega
        subst hke
        clear rN rF
        go_wp2
        go_roundg (k - (i + 1))
        case measure => omega
        case rel => exact ⟨i + 1, by omega, rfl, rfl, hI.congr (fun a b ha hb => by unfold prtT; rw [if_pos (.inr hb)])⟩
      have hkn2 : (k : Int) < n := by omega
      have g2 := hI.y
      have g3 : wr.cell? ⟨gy, oy + i, none⟩ = some (.bool (f i)) := by rw [hI.since.cell (a := ⟨gy, oy + i, none⟩) (World.block_lt_of_cell? _ _ (rF i hlt)), rF i hlt]
      have g4 : wr.cell? ⟨gy, oy + k, none⟩ = some (.bool (f k)) := by rw [hI.since.cell (a := ⟨gy, oy + k, none⟩) (World.block_lt_of_cell? _ _ (rF k hkn)), rF k hkn]
      have g5 := hI.t (i := i) (k := k) (by omega) hkn
      have g6 := hI.tf (i := i) k (by omega)
      clear rN rF
      go_wp2_with fail
      go_still_tail 17, (by kernel_rfl)
      change wpList _ _ _ _ _ wr.drew
      go_wp2
      go_roundg (n - (k + 1))
      case measure => omega
      case rel => exact ⟨k + 1, by omega, rfl, rfl, ((hI.set (i := i) (k := k) (!(f i == f k))).drew).congr (fun a b ha hb => prt_step ha)⟩
end Go.VL.DistRaw
