/- (*strings.byteStringReplacer).Replace, three letters taken out. -/
import Derived.Test.YtbokamdcjofkbaaGreatDoorReplC
import Derived.Test.YtbokamdcjofkbaaGreatDoorVUrl
import Derived.Lib.SlBuf
import Derived.Shelf.Strings.Count
import Derived.Shelf.Lays
set_option linter.unusedVariables false
set_option linter.unusedSimpArgs false
namespace Go.Proofs
open Go.Shelf
def Tryz.lays138_ren : Go.Shelf.Ren := ⟨fun | 138 => 122 | 195 => 123 | 218 => 124 | 143 => 125 | 219 => 126 | 217 => 69 | 225 => 62 | 224 => 61 | 267 => 127 | 266 => 80 | 314 => 128 | n => n, fun | 9 => 9 | 3 => 3 | 4 => 4 | 5 => 5 | 0 => 0 | 46 => 102 | 146 => 180 | 51 => 66 | n => n, fun | 1 => 2 | n => n⟩
theorem Tryz.lays138 : Go.Proofs.Lays.n138 Tryz.prog Tryz.lays138_ren := {
  mixed := by kernel_rfl
  f138 := Tryz.func122.trans (congrArg some (by kernel_rfl))
  f143 := Tryz.func125.trans (congrArg some (by kernel_rfl))
  f195 := Tryz.func123.trans (congrArg some (by kernel_rfl))
  f217 := Tryz.func69.trans (congrArg some (by kernel_rfl))
  f218 := Tryz.func124.trans (congrArg some (by kernel_rfl))
  f219 := Tryz.func126.trans (congrArg some (by kernel_rfl))
  f224 := Tryz.func61.trans (congrArg some (by kernel_rfl))
  f225 := Tryz.func62.trans (congrArg some (by kernel_rfl))
  f266 := Tryz.func80.trans (congrArg some (by kernel_rfl))
  f267 := Tryz.func127.trans (congrArg some (by kernel_rfl))
  f314 := Tryz.func128.trans (congrArg some (by kernel_rfl))
  t0 := Tryz.underlying0
  a0 := Tryz.isAgg0
  z0 := Tryz.sizeOf0
  v0 := Tryz.zeroValue0
  t3 := Tryz.underlying3
  a3 := Tryz.isAgg3
  z3 := Tryz.sizeOf3
  v3 := Tryz.zeroValue3
  t4 := Tryz.underlying4
  a4 := Tryz.isAgg4
  z4 := Tryz.sizeOf4
  v4 := Tryz.zeroValue4
  t5 := Tryz.underlying5
  a5 := Tryz.isAgg5
  z5 := Tryz.sizeOf5
  v5 := Tryz.zeroValue5
  t9 := Tryz.underlying9
  a9 := Tryz.isAgg9
  z9 := Tryz.sizeOf9
  v9 := Tryz.zeroValue9
  t46 := Tryz.underlying102
  a46 := Tryz.isAgg102
  z46 := Tryz.sizeOf102
  v46 := Tryz.zeroValue102
  t51 := Tryz.underlying66
  a51 := Tryz.isAgg66
  z51 := Tryz.sizeOf66
  v51 := Tryz.zeroValue66
  t146 := Tryz.underlying180
  a146 := Tryz.isAgg180
  z146 := Tryz.sizeOf180
  v146 := Tryz.zeroValue180
  g1 := by kernel_rfl }
end Go.Proofs
namespace Go.VL.ReplD
open Go Go.Proofs Go.RowKit Go.VL Go.VL.Repl
def rm (s : List UInt8) : Nat := (s.filter fun c => !keepU c).length
theorem cntC (s : List UInt8) (c : UInt8) (w : World) : Calls Tryz.prog 122 #[.string ⟨s.toArray⟩, .string ⟨#[c]⟩] w fun e w' => e = .returned (.int .i64 (s.count c : Nat)) ∧ w' = w :=
  (Any.strings_Count_one Tryz.lays138 ⟨s.toArray⟩ c w).mono fun e w' ⟨h1, h2⟩ => ⟨h1, h2⟩
theorem rm_split (s : List UInt8) : rm s + (filtU s).length = s.length := by
  induction s with
  | nil => rfl
  | cons x r ih =>
    unfold rm filtU at ih ⊢
    cases h : keepU x <;> simp [List.filter, h] <;> omega
/-- How many there are of the first k letters. -/
def part (s : List UInt8) (k : Nat) : Nat := match k with
  | 0 => 0
  | 1 => s.count 13
  | 2 => s.count 13 + s.count 10
  | _ => s.count 13 + s.count 10 + s.count 9
theorem keepU_iff (c : UInt8) : keepU c = false ↔ c = 13 ∨ c = 10 ∨ c = 9 := by
  have h : ∀ y : Fin 256, keepU (UInt8.ofNat y.val) = false ↔ UInt8.ofNat y.val = 13 ∨ UInt8.ofNat y.val = 10 ∨ UInt8.ofNat y.val = 9 := by decide +kernel
  have := h ⟨c.toNat, c.toNat_lt⟩
  simpa only [UInt8.ofNat_toNat] using this
theorem part3 (s : List UInt8) : part s 3 = rm s := by
  induction s with
  | nil => rfl
  | cons x r ih =>
    simp only [part, rm] at ih ⊢
    simp only [List.count_cons, List.filter_cons]
    cases h : keepU x with
    | true =>
      have : ¬ (x = 13 ∨ x = 10 ∨ x = 9) := fun e => by rw [(keepU_iff x).2 e] at h; cases h
      simp only [not_or] at this
      simp only [beq_iff_eq, this.1, this.2.1, this.2.2, if_false, Bool.not_true, Bool.false_eq_true]
      simpa using ih
    | false =>
      rcases (keepU_iff x).1 h with rfl | rfl | rfl <;> simp <;> omega
theorem part_le (s : List UInt8) (k : Nat) : part s k ≤ s.length := by
  have h3 : s.count 13 + s.count 10 + s.count 9 = rm s := part3 s
  have h4 := rm_split s
  unfold part
  split <;> omega
theorem Buf.put1 {w0 wr : World} {h N : Nat} {acc : List UInt8} (hb : Lib.Buf w0 wr h N acc) (hl : acc.length < N) (x : UInt8) : Lib.Buf w0 (wr.setCell ⟨h, acc.length, none⟩ (.int .u8 (x.toNat : Int))) h N (acc ++ [x]) := by
  obtain ⟨u, hu⟩ := Option.isSome_iff_exists.1 (hb.there acc.length hl)
  have hsame := World.cell?_setCell_same wr ⟨h, acc.length, none⟩ (.int .u8 (x.toNat : Int)) hu
  have hoth : ∀ j, j ≠ acc.length → (wr.setCell ⟨h, acc.length, none⟩ (.int .u8 (x.toNat : Int))).cell? ⟨h, j, none⟩ = wr.cell? ⟨h, j, none⟩ := fun j hj =>
    World.cell?_setCell_other _ _ _ _ (fun e => hj (congrArg Addr.off e).symm)
  refine ⟨hb.below.setCell (p := ⟨h, acc.length, none⟩) (Nat.le_refl _) _, fun j hj => ?_, fun j hj => ?_, fun j y hy => ?_, by simp; omega⟩
  · by_cases e : j = acc.length
    · subst e; rw [hsame]; rfl
    · rw [hoth j e]; exact hb.there j hj
  · rw [World.frozen?_setCell]; exact hb.free j hj
  · by_cases e : j = acc.length
    · subst e
      simp at hy; subst hy; exact hsame
    · have : j < acc.length := by
        have := (List.getElem?_eq_some_iff.1 hy).1
        simp at this; omega
      rw [hoth j e]
      rw [List.getElem?_append_left this] at hy
      exact hb.holds j y hy
theorem Buf.drew1 {w0 wr : World} {h N : Nat} {acc : List UInt8} (hb : Lib.Buf w0 wr h N acc) : Lib.Buf w0 wr.drew h N acc :=
  ⟨hb.below.drew, hb.there, hb.free, hb.holds, hb.fits⟩
theorem Buf.text {w0 wr : World} {h N : Nat} {acc : List UInt8} (hb : Lib.Buf w0 wr h N acc) (hN : acc.length = N) :
    (convert 51 9 (.slice (some ⟨h, 0, none⟩) N N)).run Tryz.prog wr = .ok (.string ⟨acc.toArray⟩) wr := by
  have hl : (loadCells ⟨h, 0, none⟩ N).run Tryz.prog wr = .ok ((acc.map fun x => (x.toNat : Int)).map (Value.int .u8)).toArray wr := by
    have := run_loadCells_list (P := Tryz.prog) (w := wr) ⟨h, 0, none⟩ ((acc.map fun x => (x.toNat : Int)).map (Value.int .u8)) (fun j v hj => by
      rw [List.getElem?_map, List.getElem?_map] at hj
      cases hx : acc[j]? with
      | none => simp [hx] at hj
      | some x =>
        simp [hx] at hj
        subst hj
        have e : (⟨h, 0, none⟩ : Addr).add j = ⟨h, j, none⟩ := by
          unfold Addr.add; split <;> simp_all
        rw [e]
        exact hb.holds j x hx)
    simpa [hN] using this
  rw [run_convert_bytes_string _ 51 9 5 _ _ _ Tryz.underlying51 Tryz.underlying5 Tryz.underlying9, run_bytesToString _ ⟨h, 0, none⟩ _ N _ hl]
  have := push_fold (acc.map fun x => (x.toNat : Int)) []
  simp only [List.nil_append] at this
  have e0 : (⟨([] : List UInt8).toArray⟩ : ByteArray) = ByteArray.empty := rfl
  rw [← e0, this]
  simp [Function.comp_def]
theorem filt_same (s : List UInt8) (h : rm s = 0) : filtU s = s := by
  have h1 := rm_split s
  unfold filtU at h1 ⊢
  rw [List.filter_eq_self]
  intro x hx
  cases hk : keepU x with
  | true => rfl
  | false =>
    exfalso
    have : x ∈ s.filter fun c => !keepU c := List.mem_filter.2 ⟨hx, by simp [hk]⟩
    have := List.length_pos_of_mem this
    unfold rm at h
    omega
theorem takeK {s : List UInt8} {k : Nat} {x : UInt8} (hx : s[k]? = some x) : filtU (s.take (k + 1)) = filtU (s.take k) ++ if keepU x then [x] else [] := by
  rw [List.take_add_one, hx]
  exact filtU_snoc _ _
theorem filt_take_le (s : List UInt8) (k : Nat) : (filtU (s.take k)).length ≤ (filtU s).length := by
  have h : filtU s = filtU (s.take k) ++ filtU (s.drop k) := by
    unfold filtU
    rw [← List.filter_append, List.take_append_drop]
  rw [h, List.length_append]; omega
theorem takeR {s : List UInt8} {k : Nat} {x : UInt8} (hx : s[k]? = some x) : rm (s.take (k + 1)) = rm (s.take k) + if keepU x then 0 else 1 := by
  unfold rm
  rw [List.take_add_one, hx, List.filter_append, List.length_append]
  cases h : keepU x <;> simp [List.filter, h]
theorem rm_take_le (s : List UInt8) (k : Nat) : rm (s.take k) ≤ s.length := by
  have h1 := rm_split (s.take k)
  have h2 : (s.take k).length ≤ s.length := by simp; omega
  omega
theorem neqN (W : World) : (binOp .neq 51 (.slice none 0 0) (.slice none 0 0)).run Tryz.prog W = .ok (.bool false) W := by kernel_rfl
theorem neqS (a : Addr) (c : Nat) (W : World) : (binOp .neq 51 (.slice (some a) 0 c) (.slice none 0 0)).run Tryz.prog W = .ok (.bool true) W := by kernel_rfl
set_option maxRecDepth 100000 in
set_option maxHeartbeats 8000000 in
theorem repl (g h : Nat) (w : World) (s : List UInt8) (hs : s.length < 2 ^ 22)
    (hR : ∀ i : Nat, i < 256 → ∃ u, w.cell? ⟨g, i, none⟩ = some u ∧ (keepU (UInt8.ofNat i) = false ∧ (∃ a c, u = .slice (some a) 0 c) ∨ keepU (UInt8.ofNat i) = true ∧ u = .slice none 0 0))
    (ht : w.cell? ⟨g, 256, none⟩ = some (.slice (some ⟨h, 0, none⟩) 3 3)) (x0 : w.cell? ⟨h, 0, none⟩ = some (.string ⟨#[13]⟩)) (x1 : w.cell? ⟨h, 1, none⟩ = some (.string ⟨#[10]⟩)) (x2 : w.cell? ⟨h, 2, none⟩ = some (.string ⟨#[9]⟩)) :
    Calls Tryz.prog 120 #[.pointer (some ⟨g, 0, none⟩), .string ⟨s.toArray⟩] w fun e w' => e = .returned (.string ⟨(filtU s).toArray⟩) ∧ Below w.heap.size w w' := by
  by_cases hA : (24 : Int) ≤ s.length
  · go_enter Tryz.func120, Tryz.ntmps120
    go_wp2
    go_loopw [5, 6, 32] (fun z y i wr => ∃ (k n : Nat), k ≤ 3 ∧ i = .int .i64 k ∧ z = .int .i64 ((s.length : Int) - part s k) ∧ y = .bool (decide (0 < part s k)) ∧ wr = w.drewN n)
      (fun _ _ i _ => 3 - (intOf i).toNat)
    case atStart => exact ⟨0, 0, by omega, rfl, by simp [part], by simp [part], rfl⟩
    case round =>
      obtain ⟨k, n, hk, rfl, rfl, rfl, rfl⟩ := hrel
      rcases (show k = 0 ∨ k = 1 ∨ k = 2 ∨ k = 3 from by omega) with rfl | rfl | rfl | rfl
      · have y0 : (w.drewN n).cell? ⟨h, 0, none⟩ = some (.string ⟨#[13]⟩) := by rw [World.cell?_drewN]; exact x0
        have hl : s.count 13 ≤ s.length := List.count_le_length
        have hp : part s 1 = part s 0 + s.count 13 := by simp [part]
        have hq := part_le s 0
        have hq1 := part_le s 1
        obtain ⟨u, u1, u2⟩ := hR 13 (by omega)
        obtain ⟨aa, ac, rfl⟩ : ∃ a c, u = .slice (some a) 0 c := by
          rcases u2 with ⟨-, h⟩ | ⟨h, -⟩
          · exact h
          · exact absurd h (by decide)
        have u3 : ∀ n, (w.drewN n).cell? ⟨g, 13, none⟩ = some (.slice (some aa) 0 ac) := fun n => by rw [World.cell?_drewN]; exact u1
        have e13 : ((⟨#[13]⟩ : ByteArray)[0]'(by decide)) = 13 := rfl
        have n13 : (13 : UInt8).toNat = 13 := rfl
        by_cases c0 : s.count 13 = 0
        · have c1 : (((s.count 13 : Nat) : Int) != 0) = false := by rw [c0]; rfl
          go_wp2_with (go_at_call 122; refine (cntC s 13 _).mono ?_; rintro e w' ⟨rfl, rfl⟩)
          refine ⟨⟨1, n, by omega, rfl, by rw [hp, c0]; rfl, by rw [hp, c0]; rfl, rfl⟩, by simp [intOf]⟩
        · have c1 : (((s.count 13 : Nat) : Int) != 0) = true := by simpa using c0
          go_wp2_with (go_at_call 122; refine (cntC s 13 _).mono ?_; rintro e w' ⟨rfl, rfl⟩)
          go_region
          go_wp2
          refine ⟨⟨1, n + 1, by omega, rfl, by rw [hp]; congr 1; omega, by rw [hp, decide_eq_true (by omega)], rfl⟩, by simp [intOf]⟩
      · have y0 : (w.drewN n).cell? ⟨h, 1, none⟩ = some (.string ⟨#[10]⟩) := by rw [World.cell?_drewN]; exact x1
        have hl : s.count 10 ≤ s.length := List.count_le_length
        have hp : part s 2 = part s 1 + s.count 10 := by simp [part]
        have hq := part_le s 1
        have hq1 := part_le s 2
        obtain ⟨u, u1, u2⟩ := hR 10 (by omega)
        obtain ⟨aa, ac, rfl⟩ : ∃ a c, u = .slice (some a) 0 c := by
          rcases u2 with ⟨-, h⟩ | ⟨h, -⟩
          · exact h
          · exact absurd h (by decide)
        have u3 : ∀ n, (w.drewN n).cell? ⟨g, 10, none⟩ = some (.slice (some aa) 0 ac) := fun n => by rw [World.cell?_drewN]; exact u1
        have e10 : ((⟨#[10]⟩ : ByteArray)[0]'(by decide)) = 10 := rfl
        have n10 : (10 : UInt8).toNat = 10 := rfl
        by_cases c0 : s.count 10 = 0
        · have c1 : (((s.count 10 : Nat) : Int) != 0) = false := by rw [c0]; rfl
          go_wp2_with (go_at_call 122; refine (cntC s 10 _).mono ?_; rintro e w' ⟨rfl, rfl⟩)
          refine ⟨⟨2, n, by omega, rfl, by rw [hp, c0]; rfl, by rw [hp, c0]; rfl, rfl⟩, by simp [intOf]⟩
        · have c1 : (((s.count 10 : Nat) : Int) != 0) = true := by simpa using c0
          go_wp2_with (go_at_call 122; refine (cntC s 10 _).mono ?_; rintro e w' ⟨rfl, rfl⟩)
          go_region
          go_wp2
          refine ⟨⟨2, n + 1, by omega, rfl, by rw [hp]; congr 1; omega, by rw [hp, decide_eq_true (by omega)], rfl⟩, by simp [intOf]⟩
      · have y0 : (w.drewN n).cell? ⟨h, 2, none⟩ = some (.string ⟨#[9]⟩) := by rw [World.cell?_drewN]; exact x2
        have hl : s.count 9 ≤ s.length := List.count_le_length
        have hp : part s 3 = part s 2 + s.count 9 := by simp [part]
        have hq := part_le s 2
        have hq1 := part_le s 3
        obtain ⟨u, u1, u2⟩ := hR 9 (by omega)
        obtain ⟨aa, ac, rfl⟩ : ∃ a c, u = .slice (some a) 0 c := by
          rcases u2 with ⟨-, h⟩ | ⟨h, -⟩
          · exact h
          · exact absurd h (by decide)
        have u3 : ∀ n, (w.drewN n).cell? ⟨g, 9, none⟩ = some (.slice (some aa) 0 ac) := fun n => by rw [World.cell?_drewN]; exact u1
        have e9 : ((⟨#[9]⟩ : ByteArray)[0]'(by decide)) = 9 := rfl
        have n9 : (9 : UInt8).toNat = 9 := rfl
        by_cases c0 : s.count 9 = 0
        · have c1 : (((s.count 9 : Nat) : Int) != 0) = false := by rw [c0]; rfl
          go_wp2_with (go_at_call 122; refine (cntC s 9 _).mono ?_; rintro e w' ⟨rfl, rfl⟩)
          refine ⟨⟨3, n, by omega, rfl, by rw [hp, c0]; rfl, by rw [hp, c0]; rfl, rfl⟩, by simp [intOf]⟩
        · have c1 : (((s.count 9 : Nat) : Int) != 0) = true := by simpa using c0
          go_wp2_with (go_at_call 122; refine (cntC s 9 _).mono ?_; rintro e w' ⟨rfl, rfl⟩)
          go_region
          go_wp2
          refine ⟨⟨3, n + 1, by omega, rfl, by rw [hp]; congr 1; omega, by rw [hp, decide_eq_true (by omega)], rfl⟩, by simp [intOf]⟩
      · have hp3 := part3 s
        have hrs := rm_split s
        by_cases c0 : rm s = 0
        · have d0 : decide (0 < part s 3) = false := by rw [hp3]; simpa using c0
          rw [d0]
          go_wp2
          go_ret
          exact ⟨by rw [filt_same s c0]; rfl, ⟨rfl, rfl, rfl, Nat.le_refl _, fun _ _ => rfl⟩⟩
        · have d0 : decide (0 < part s 3) = true := by rw [hp3]; simpa using Nat.pos_of_ne_zero c0
          have eN : ((s.length : Int) - part s 3) = ((filtU s).length : Nat) := by rw [hp3]; omega
          rw [d0, eN]
          have hmk : (Instr.makeSlice 51 (.int .i64 ((filtU s).length : Nat)) (.int .i64 ((filtU s).length : Nat))).run Tryz.prog (w.drewN n) = .ok (.slice (some ⟨w.heap.size, 0, none⟩) (filtU s).length (filtU s).length) ((w.drewN n).alloc (.cells (madeCells #[.int .u8 0] (filtU s).length) 5)) := by
            obtain ⟨i, hi⟩ := Option.isSome_iff_exists.1 (show (Tryz.prog.info? 5).isSome = true by kernel_rfl)
            have hz : i.zero = some (.int .u8 0) := Option.some.inj ((show (Tryz.prog.info? 5).map (·.zero) = some (some (.int .u8 0)) by kernel_rfl).symm.trans (by rw [hi]; rfl)) |>.symm
            have hz1 : i.size = 1 := Option.some.inj ((show (Tryz.prog.info? 5).map (·.size) = some 1 by kernel_rfl).symm.trans (by rw [hi]; rfl)) |>.symm
            have hz2 : i.bytes = 1 := Option.some.inj ((show (Tryz.prog.info? 5).map (·.bytes) = some 1 by kernel_rfl).symm.trans (by rw [hi]; rfl)) |>.symm
            have hf := filtU_len s
            have hr := run_makeSlice (P := Tryz.prog) (w := w.drewN n) 51 5 i _ Tryz.underlying51 hi hz .i64 .i64 ((filtU s).length : Nat) ((filtU s).length : Nat) (by omega) (by omega) (by rw [hz1]; simp; omega) (by rw [hz2]; omega) (by omega)
            rw [hz1] at hr
            simpa [Value.cells] using hr
          go_wp2
          obtain ⟨H, hH⟩ : ∃ H, H = w.heap.size := ⟨_, rfl⟩
          go_loopw [13, 14] (fun j i wr => ∃ (k : Nat), k ≤ s.length ∧ i = .int .i64 k ∧ j = .int .i64 ((filtU (s.take k)).length : Nat) ∧ Lib.Buf w wr w.heap.size (filtU s).length (filtU (s.take k)))
            (fun _ i _ => s.length - (intOf i).toNat)
          case atStart =>
            refine ⟨0, Nat.zero_le _, rfl, rfl, ?_⟩
            have hB := Lib.Buf.start (w.drewN n) (madeCells #[.int .u8 0] (filtU s).length) 5 (filtU s).length 0 (by simp [madeCells])
            exact ⟨⟨hB.below.os, hB.below.tape, hB.below.output, hB.below.size, hB.below.block⟩, hB.there, hB.free, hB.holds, hB.fits⟩
          case round =>
            obtain ⟨k, hk, rfl, rfl, hB⟩ := hrel
            have hle := filt_take_le s k
            by_cases hlt : k < s.length
            case neg =>
              have ek : s.take k = s := List.take_of_length_le (by omega)
              rw [ek] at hB
              have htx := Buf.text hB rfl
              have hk2 : ¬ ((k : Int) < s.length) := by omega
              go_wp2
              go_ret
              exact ⟨rfl, hB.below⟩
            obtain ⟨x, hx⟩ : ∃ x, s[k]? = some x := ⟨_, List.getElem?_eq_getElem hlt⟩
            have hk2 : (k : Int) < s.length := by omega
            obtain ⟨u, u1, u2⟩ := hR x.toNat x.toNat_lt
            rw [UInt8.ofNat_toNat] at u2
            have u3 : wr.cell? ⟨g, x.toNat, none⟩ = some u := by
              rw [hB.below.cell (World.block_lt_of_cell? w _ u1)]; exact u1
            have htk := takeK hx
            have ex : ∀ p : k < (⟨s.toArray⟩ : ByteArray).size, (⟨s.toArray⟩ : ByteArray)[k]'p = x := fun p => by
              have := (List.getElem?_eq_some_iff.1 hx).2
              rw [← this]; rfl
            have hx6 : ((x.toNat : Nat) : Int) < 256 := by have := x.toNat_lt; omega
            cases hkp : keepU x with
            | true =>
              obtain rfl : u = .slice none 0 0 := by
                rcases u2 with ⟨h, -⟩ | ⟨-, h⟩
                · rw [hkp] at h; cases h
                · exact h
              rw [hkp] at htk
              have hnq := neqN
              have hle2 := filt_take_le s (k + 1)
              have hl2 : (filtU (s.take (k + 1))).length = (filtU (s.take k)).length + 1 := by rw [htk]; simp
              have jl : (filtU (s.take k)).length < (filtU s).length := by omega
              have jlt : (((filtU (s.take k)).length : Nat) : Int) < (((filtU s).length : Nat) : Int) := by omega
              obtain ⟨v0, v1⟩ := Option.isSome_iff_exists.1 (hB.there _ jl)
              have v2 := hB.free _ jl
              have hB2 := Buf.put1 hB jl x
              rw [if_pos rfl] at htk
              rw [← htk] at hB2
              go_wp2
              refine ⟨⟨k + 1, by omega, by simp, by rw [hl2]; simp, hB2⟩, ?_⟩
              simp [intOf]
              omega
            | false =>
              obtain ⟨aa, ac, rfl⟩ : ∃ a c, u = .slice (some a) 0 c := by
                rcases u2 with ⟨-, h⟩ | ⟨h, -⟩
                · exact h
                · rw [hkp] at h; cases h
              rw [hkp] at htk
              have hnq := neqS aa ac
              have hsl : ∀ W : World, (Instr.slice 51 (.slice (some ⟨w.heap.size, 0, none⟩) (filtU s).length (filtU s).length) (some (.int .i64 ((filtU (s.take k)).length : Nat))) none none).run Tryz.prog W = .ok (Lib.tailV w.heap.size (filtU s).length (filtU (s.take k)).length) W := fun W =>
                Lib.run_slice_tailV W 51 5 Tryz.underlying51 (fun w => by kernel_rfl) _ _ _ hle
              have hcp : ∀ (W : World) (ty : Nat), (Builtin.copy_ #[51, 51] ty #[Lib.tailV w.heap.size (filtU s).length (filtU (s.take k)).length, .slice (some aa) 0 ac]).run Tryz.prog W = .ok (.int .i64 0) W := fun W ty =>
                run_copy_none (P := Tryz.prog) W 51 51 ty 5 _ _ _ _ 0 ac Tryz.underlying51 (by kernel_rfl) (Nat.zero_min _)
              rw [if_neg (by simp), List.append_nil] at htk
              go_wp2
              go_region
              go_wp2
              refine ⟨⟨k + 1, by omega, by simp, by rw [htk], by rw [htk]; exact Buf.drew1 hB⟩, ?_⟩
              simp [intOf]
              omega
  · go_enter Tryz.func120, Tryz.ntmps120
    go_wp2
    go_loopw [5, 6, 10] (fun z y i wr => ∃ (k n : Nat), k ≤ s.length ∧ i = .int .i64 k ∧ z = .int .i64 ((s.length : Int) - rm (s.take k)) ∧ y = .bool (decide (0 < rm (s.take k))) ∧ wr = w.drewN n)
      (fun _ _ i _ => s.length - (intOf i).toNat)
    case atStart => exact ⟨0, 0, by omega, rfl, by simp [rm], by simp [rm], rfl⟩
    case round =>
      obtain ⟨k, n, hk, rfl, rfl, rfl, rfl⟩ := hrel
      by_cases hlt : k < s.length
      · obtain ⟨x, hx⟩ : ∃ x, s[k]? = some x := ⟨_, List.getElem?_eq_getElem hlt⟩
        have hk2 : (k : Int) < s.length := by omega
        obtain ⟨u, u1, u2⟩ := hR x.toNat x.toNat_lt
        rw [UInt8.ofNat_toNat] at u2
        have u3 : (w.drewN n).cell? ⟨g, x.toNat, none⟩ = some u := by rw [World.cell?_drewN]; exact u1
        have htk := takeR hx
        have hle := rm_take_le s (k + 1)
        have ex : ∀ p : k < (⟨s.toArray⟩ : ByteArray).size, (⟨s.toArray⟩ : ByteArray)[k]'p = x := fun p => by
          have := (List.getElem?_eq_some_iff.1 hx).2
          rw [← this]; rfl
        have hx6 : ((x.toNat : Nat) : Int) < 256 := by have := x.toNat_lt; omega
        cases hkp : keepU x with
        | true =>
          obtain rfl : u = .slice none 0 0 := by
            rcases u2 with ⟨h, -⟩ | ⟨-, h⟩
            · rw [hkp] at h; cases h
            · exact h
          rw [hkp, if_pos rfl] at htk
          have hnq := neqN
          go_wp2
          refine ⟨⟨k + 1, n, by omega, by simp, by rw [htk]; rfl, by rw [htk]; rfl, rfl⟩, ?_⟩
          simp [intOf]
          omega
        | false =>
          obtain ⟨aa, ac, rfl⟩ : ∃ a c, u = .slice (some a) 0 c := by
            rcases u2 with ⟨-, h⟩ | ⟨h, -⟩
            · exact h
            · rw [hkp] at h; cases h
          rw [hkp, if_neg (by simp)] at htk
          have hnq := neqS aa ac
          go_wp2
          refine ⟨⟨k + 1, n, by omega, by simp, by rw [htk]; congr 1; omega, by rw [htk, decide_eq_true (by omega)], rfl⟩, ?_⟩
          simp [intOf]
          omega
      · have hk3 : ¬ ((k : Int) < s.length) := by omega
        have hp3 : rm (s.take k) = rm s := by rw [List.take_of_length_le (by omega)]
        have hrs := rm_split s
        by_cases c0 : rm s = 0
        · have d0 : decide (0 < rm (s.take k)) = false := by rw [hp3]; simpa using c0
          rw [d0]
          go_wp2
          go_ret
          exact ⟨by rw [filt_same s c0]; rfl, ⟨rfl, rfl, rfl, Nat.le_refl _, fun _ _ => rfl⟩⟩
        · have d0 : decide (0 < rm (s.take k)) = true := by rw [hp3]; simpa using Nat.pos_of_ne_zero c0
          have eN : ((s.length : Int) - rm (s.take k)) = ((filtU s).length : Nat) := by rw [hp3]; omega
          rw [d0, eN]
          have hmk : (Instr.makeSlice 51 (.int .i64 ((filtU s).length : Nat)) (.int .i64 ((filtU s).length : Nat))).run Tryz.prog (w.drewN n) = .ok (.slice (some ⟨w.heap.size, 0, none⟩) (filtU s).length (filtU s).length) ((w.drewN n).alloc (.cells (madeCells #[.int .u8 0] (filtU s).length) 5)) := by
            obtain ⟨i, hi⟩ := Option.isSome_iff_exists.1 (show (Tryz.prog.info? 5).isSome = true by kernel_rfl)
            have hz : i.zero = some (.int .u8 0) := Option.some.inj ((show (Tryz.prog.info? 5).map (·.zero) = some (some (.int .u8 0)) by kernel_rfl).symm.trans (by rw [hi]; rfl)) |>.symm
            have hz1 : i.size = 1 := Option.some.inj ((show (Tryz.prog.info? 5).map (·.size) = some 1 by kernel_rfl).symm.trans (by rw [hi]; rfl)) |>.symm
            have hz2 : i.bytes = 1 := Option.some.inj ((show (Tryz.prog.info? 5).map (·.bytes) = some 1 by kernel_rfl).symm.trans (by rw [hi]; rfl)) |>.symm
            have hf := filtU_len s
            have hr := run_makeSlice (P := Tryz.prog) (w := w.drewN n) 51 5 i _ Tryz.underlying51 hi hz .i64 .i64 ((filtU s).length : Nat) ((filtU s).length : Nat) (by omega) (by omega) (by rw [hz1]; simp; omega) (by rw [hz2]; omega) (by omega)
            rw [hz1] at hr
            simpa [Value.cells] using hr
          go_wp2
          obtain ⟨H, hH⟩ : ∃ H, H = w.heap.size := ⟨_, rfl⟩
          go_loopw [13, 14] (fun j i wr => ∃ (k : Nat), k ≤ s.length ∧ i = .int .i64 k ∧ j = .int .i64 ((filtU (s.take k)).length : Nat) ∧ Lib.Buf w wr w.heap.size (filtU s).length (filtU (s.take k)))
            (fun _ i _ => s.length - (intOf i).toNat)
          case atStart =>
            refine ⟨0, Nat.zero_le _, rfl, rfl, ?_⟩
            have hB := Lib.Buf.start (w.drewN n) (madeCells #[.int .u8 0] (filtU s).length) 5 (filtU s).length 0 (by simp [madeCells])
            exact ⟨⟨hB.below.os, hB.below.tape, hB.below.output, hB.below.size, hB.below.block⟩, hB.there, hB.free, hB.holds, hB.fits⟩
          case round =>
            obtain ⟨k, hk, rfl, rfl, hB⟩ := hrel
            have hle := filt_take_le s k
            by_cases hlt : k < s.length
            case neg =>
              have ek : s.take k = s := List.take_of_length_le (by omega)
              rw [ek] at hB
              have htx := Buf.text hB rfl
              have hk2 : ¬ ((k : Int) < s.length) := by omega
              go_wp2
              go_ret
              exact ⟨rfl, hB.below⟩
            obtain ⟨x, hx⟩ : ∃ x, s[k]? = some x := ⟨_, List.getElem?_eq_getElem hlt⟩
            have hk2 : (k : Int) < s.length := by omega
            obtain ⟨u, u1, u2⟩ := hR x.toNat x.toNat_lt
            rw [UInt8.ofNat_toNat] at u2
            have u3 : wr.cell? ⟨g, x.toNat, none⟩ = some u := by
              rw [hB.below.cell (World.block_lt_of_cell? w _ u1)]; exact u1
            have htk := takeK hx
            have ex : ∀ p : k < (⟨s.toArray⟩ : ByteArray).size, (⟨s.toArray⟩ : ByteArray)[k]'p = x := fun p => by
              have := (List.getElem?_eq_some_iff.1 hx).2
              rw [← this]; rfl
            have hx6 : ((x.toNat : Nat) : Int) < 256 := by have := x.toNat_lt; omega
            cases hkp : keepU x with
            | true =>
              obtain rfl : u = .slice none 0 0 := by
                rcases u2 with ⟨h, -⟩ | ⟨-, h⟩
                · rw [hkp] at h; cases h
                · exact h
              rw [hkp] at htk
              have hnq := neqN
              have hle2 := filt_take_le s (k + 1)
              have hl2 : (filtU (s.take (k + 1))).length = (filtU (s.take k)).length + 1 := by rw [htk]; simp
              have jl : (filtU (s.take k)).length < (filtU s).length := by omega
              have jlt : (((filtU (s.take k)).length : Nat) : Int) < (((filtU s).length : Nat) : Int) := by omega
              obtain ⟨v0, v1⟩ := Option.isSome_iff_exists.1 (hB.there _ jl)
              have v2 := hB.free _ jl
              have hB2 := Buf.put1 hB jl x
              rw [if_pos rfl] at htk
              rw [← htk] at hB2
              go_wp2
              refine ⟨⟨k + 1, by omega, by simp, by rw [hl2]; simp, hB2⟩, ?_⟩
              simp [intOf]
              omega
            | false =>
              obtain ⟨aa, ac, rfl⟩ : ∃ a c, u = .slice (some a) 0 c := by
                rcases u2 with ⟨-, h⟩ | ⟨h, -⟩
                · exact h
                · rw [hkp] at h; cases h
              rw [hkp] at htk
              have hnq := neqS aa ac
              have hsl : ∀ W : World, (Instr.slice 51 (.slice (some ⟨w.heap.size, 0, none⟩) (filtU s).length (filtU s).length) (some (.int .i64 ((filtU (s.take k)).length : Nat))) none none).run Tryz.prog W = .ok (Lib.tailV w.heap.size (filtU s).length (filtU (s.take k)).length) W := fun W =>
                Lib.run_slice_tailV W 51 5 Tryz.underlying51 (fun w => by kernel_rfl) _ _ _ hle
              have hcp : ∀ (W : World) (ty : Nat), (Builtin.copy_ #[51, 51] ty #[Lib.tailV w.heap.size (filtU s).length (filtU (s.take k)).length, .slice (some aa) 0 ac]).run Tryz.prog W = .ok (.int .i64 0) W := fun W ty =>
                run_copy_none (P := Tryz.prog) W 51 51 ty 5 _ _ _ _ 0 ac Tryz.underlying51 (by kernel_rfl) (Nat.zero_min _)
              rw [if_neg (by simp), List.append_nil] at htk
              go_wp2
              go_region
              go_wp2
              refine ⟨⟨k + 1, by omega, by simp, by rw [htk], by rw [htk]; exact Buf.drew1 hB⟩, ?_⟩
              simp [intOf]
              omega
end Go.VL.ReplD
