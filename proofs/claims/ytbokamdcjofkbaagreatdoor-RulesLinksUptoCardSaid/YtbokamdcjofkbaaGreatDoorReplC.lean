/- What (*strings.Replacer).build lays at these three pairs. -/
import Derived.Test.YtbokamdcjofkbaaGreatDoorReplA
import Derived.Test.YtbokamdcjofkbaaGreatDoorVRepl
import Derived.LoopN
set_option linter.unusedVariables false
set_option linter.unusedSimpArgs false
namespace Go.VL.ReplC
open Go Go.Proofs Go.RowKit Go.VL.ReplB Go.VL.Repl
theorem make3 (W : World) : (Instr.makeSlice 22 (.int .i64 0) (.int .i64 3)).run Tryz.prog W = .ok (.slice (some ⟨W.heap.size, 0, none⟩) 0 3) (W.alloc (.cells #[.string ⟨#[]⟩, .string ⟨#[]⟩, .string ⟨#[]⟩] 9)) := by kernel_rfl
theorem zc_list : Tryz.zeroCells100.toList = List.replicate 257 (Value.slice none 0 0) := by kernel_rfl
theorem zc_one (v : Value) {u : Value} (h : v ∈ Tryz.zeroCells100.toList ∨ v = u) (hu : u.oneCell' = true := by rfl) : v.oneCell' = true := by
  rcases h with h | rfl
  · rw [zc_list] at h; rw [(List.mem_replicate.1 h).2]; rfl
  · exact hu
theorem conv1 (W : World) (x : UInt8) : (convert 51 9 (.slice (some ⟨W.heap.size, 0, none⟩) 1 1)).run Tryz.prog (W.alloc (.cells #[.int .u8 x.toNat] 5)) = .ok (.string ⟨#[x]⟩) (W.alloc (.cells #[.int .u8 x.toNat] 5)) := by
  have hl : (loadCells ⟨W.heap.size, 0, none⟩ 1).run Tryz.prog (W.alloc (.cells #[.int .u8 x.toNat] 5)) = .ok ([(x.toNat : Int)].map (Value.int .u8)).toArray (W.alloc (.cells #[.int .u8 x.toNat] 5)) :=
    run_loadCells_list (P := Tryz.prog) (w := W.alloc (.cells #[.int .u8 x.toNat] 5)) ⟨W.heap.size, 0, none⟩ [.int .u8 x.toNat] (fun j v hj => by
      rcases j with _ | j
      · simp only [List.getElem?_cons_zero, Option.some.injEq] at hj
        subst hj
        have e : (⟨W.heap.size, 0, none⟩ : Addr).add 0 = ⟨W.heap.size, 0, none⟩ := rfl
        rw [e]
        exact cell_new W _ _
      · simp at hj)
  rw [run_convert_bytes_string _ 51 9 5 _ _ _ Tryz.underlying51 Tryz.underlying5 Tryz.underlying9, run_bytesToString _ ⟨W.heap.size, 0, none⟩ _ 1 [(x.toNat : Int)] hl]
  simp
  rfl
theorem nilT (W : World) : (binOp .eql 51 (.slice none 0 0) (.slice none 0 0)).run Tryz.prog W = .ok (.bool true) W := by kernel_rfl
set_option maxRecDepth 100000 in
set_option maxHeartbeats 8000000 in
theorem build (b r o c : Nat) (w : World) (hs : w.cell? ⟨b, 4, none⟩ = some (.slice (some ⟨r, o, none⟩) 6 c))
    (s0 : w.cell? ⟨r, o, none⟩ = some (.string ⟨#[9]⟩)) (s1 : w.cell? ⟨r, o + 1, none⟩ = some (.string ⟨#[]⟩))
    (s2 : w.cell? ⟨r, o + 2, none⟩ = some (.string ⟨#[10]⟩)) (s3 : w.cell? ⟨r, o + 3, none⟩ = some (.string ⟨#[]⟩))
    (s4 : w.cell? ⟨r, o + 4, none⟩ = some (.string ⟨#[13]⟩)) (s5 : w.cell? ⟨r, o + 5, none⟩ = some (.string ⟨#[]⟩)) :
    Calls Tryz.prog 49 #[.pointer (some ⟨b, 0, none⟩)] w fun e w' => ∃ g h, e = .returned (.iface 101 (.pointer (some ⟨g, 0, none⟩))) ∧ Inv w g h 3 3 w' := by
  go_enter Tryz.func49, Tryz.ntmps49
  go_wp2
  refine wp_loop_rounds 4 ?_
  rw [rounds_succ]
  go_wp2
  rw [rounds_succ]
  go_wp2
  rw [rounds_succ]
  go_wp2
  rw [rounds_succ]
  go_wp2
  rw [make3]
  go_wp2
  have hz : ((w.alloc (.cells #[.string ⟨#[]⟩, .string ⟨#[]⟩, .string ⟨#[]⟩] 9)).alloc (.cells Tryz.zeroCells100 100)).heap[w.heap.size + 1]? = some (.cells Tryz.zeroCells100 100 (0, 0)) := by
    show ((w.heap.push _).push _)[_]? = _
    rw [Array.getElem?_push, if_pos (by rw [Array.size_push])]
  rw [run_storeCells_from (w.heap.size + 1) 100 (Tryz.zeroCells100.toList.set 256 (.slice (some ⟨w.heap.size, 0, none⟩) 0 3)) 0 Tryz.zeroCells100 _ hz (by simp) (by intro v hv; exact zc_one v (List.mem_or_eq_of_mem_set hv))]
  have hI := Inv.start w Tryz.zeroCells100 zc_list 100 9
  generalize hW : ((w.alloc (.cells #[.string ⟨#[]⟩, .string ⟨#[]⟩, .string ⟨#[]⟩] 9)).alloc (.cells Tryz.zeroCells100 100)).setRow (w.heap.size + 1) (Tryz.zeroCells100.toList.take 0 ++ Tryz.zeroCells100.toList.set 256 (.slice (some ⟨w.heap.size, 0, none⟩) 0 3)).toArray = W at *
  clear hW hz
  generalize w.heap.size + 1 = g at *
  generalize hq : w.heap.size = q at *
  have old : ∀ {V : World} {k1 k2 : Nat}, Inv w g q k1 k2 V → ∀ {a : Addr} {v : Value}, w.cell? a = some v → V.cell? a = some v := fun hV a v h => by
    rw [hV.below.cell (World.block_lt_of_cell? w _ h)]; exact h
  go_wp2
  refine wp_loop_rounds 4 ?_
  rw [rounds_succ]
  have e13 : ((⟨#[13]⟩ : ByteArray)[0]'(by decide)) = 13 := rfl
  have n13 : (13 : UInt8).toNat = 13 := rfl
  have hnil := nilT
  obtain ⟨z, z1, z2⟩ := hI.rep 13 (by omega)
  have z3 : z = .slice none 0 0 := by
    rcases z2 with ⟨⟨j, y, h1, h2, h3⟩, -⟩ | ⟨-, h⟩
    · exfalso
      match j, h1 with
      | j, h1 => exact absurd h1 (Nat.not_lt_zero j)
    · exact h
  subst z3
  have t0 := hI.to
  have v4 := old hI s4
  have v5 := old hI s5
  have hcv := conv1 W 13
  rw [show (((13 : UInt8).toNat : Nat) : Int) = 13 from rfl] at hcv
  obtain ⟨u0, u1, -⟩ := hI.txt 0 (by omega)
  have lq := hI.lh
  have lg := hI.lg
  have f1 := hI.fg 256
  have f2 := hI.fh 0
  have ne1 : g ≠ q := hI.ne
  have cq : ((W.alloc (.cells #[.int .u8 13] 5)).alloc (.cells #[.string ⟨#[13]⟩] 9)).cell? ⟨q, 0, none⟩ = some u0 := by
    rw [World.cell?_alloc_past _ _ _ (by simp; omega), World.cell?_alloc_past _ _ _ lq]; exact u1
  have fq : ((W.alloc (.cells #[.int .u8 13] 5)).alloc (.cells #[.string ⟨#[13]⟩] 9)).frozen? ⟨q, 0, none⟩ = false := by
    rw [World.frozen?_alloc_past _ _ _ (by simp; omega), World.frozen?_alloc_past _ _ _ lq]; exact hI.fh 0
  have cg : (((W.alloc (.cells #[.int .u8 13] 5)).alloc (.cells #[.string ⟨#[13]⟩] 9)).setCell ⟨q, 0, none⟩ (.string ⟨#[13]⟩)).cell? ⟨g, 256, none⟩ = some (.slice (some ⟨q, 0, none⟩) 0 3) := by
    rw [World.cell?_setCell_other _ _ _ _ (fun e => ne1 (congrArg Addr.block e).symm), World.cell?_alloc_past _ _ _ (by simp; omega), World.cell?_alloc_past _ _ _ lg]; exact t0
  have fg : (((W.alloc (.cells #[.int .u8 13] 5)).alloc (.cells #[.string ⟨#[13]⟩] 9)).setCell ⟨q, 0, none⟩ (.string ⟨#[13]⟩)).frozen? ⟨g, 256, none⟩ = false := by
    rw [World.frozen?_setCell, World.frozen?_alloc_past _ _ _ (by simp; omega), World.frozen?_alloc_past _ _ _ lg]; exact hI.fg 256
  go_wp2
  have hJ := hI.push (by omega) (x := 13) rfl (.cells #[.int .u8 13] 5) (.cells #[.string ⟨#[13]⟩] 9)
  clear f1 f2 cq fq cg fg u1 u0 lq lg hcv v4 v5 t0 z1
  generalize (((W.setCell ⟨q, 0, none⟩ (.string ⟨#[13]⟩)).setCell ⟨g, 256, none⟩ (.slice (some ⟨q, 0, none⟩) (0 + 1) 3)).alloc (.cells #[.int .u8 13] 5)).alloc (.cells #[.string ⟨#[13]⟩] 9) = V at *
  have hcb := Lib.run_convert_string_bytes V 9 51 5 ⟨#[]⟩ Tryz.underlying9 Tryz.underlying51 Tryz.underlying5
  rw [bytesWorld_eq] at hcb
  rw [hcb]
  clear hcb
  generalize (Obj.cells (Lib.bytesCells V 5 ⟨#[]⟩) 5 ((Lib.bytesCells V 5 ⟨#[]⟩).size, (Lib.bytesCells V 5 ⟨#[]⟩).size + 1)) = ob
  generalize grownCap V (⟨#[]⟩ : ByteArray).size 0 5 = cap
  rw [show (⟨#[]⟩ : ByteArray).size = 0 from rfl]
  obtain ⟨z, z1, z2⟩ := hJ.rep 13 (by omega)
  have lg := hJ.lg
  have f1 := hJ.fg 13
  go_wp2
  have hI2 := hJ.mark (x := 13) rfl ob ⟨V.heap.size, 0, none⟩ cap
  rw [show ((13 : UInt8).toNat) = 13 from rfl] at hI2
  clear z1 z2 lg f1 hnil n13 e13
  generalize ((V.setCell ⟨g, 13, none⟩ (.slice (some ⟨V.heap.size, 0, none⟩) 0 cap)).alloc ob).drew = Wa at *
  clear hJ hI
  have hI := hI2
  clear hI2
  rw [rounds_succ]
  have e10 : ((⟨#[10]⟩ : ByteArray)[0]'(by decide)) = 10 := rfl
  have n10 : (10 : UInt8).toNat = 10 := rfl
  have hnil := nilT
  obtain ⟨z, z1, z2⟩ := hI.rep 10 (by omega)
  have z3 : z = .slice none 0 0 := by
    rcases z2 with ⟨⟨j, y, h1, h2, h3⟩, -⟩ | ⟨-, h⟩
    · exfalso
      match j, h1 with
      | 0, _ => simp [outs] at h2; subst h2; simp at h3
    · exact h
  subst z3
  have t0 := hI.to
  have v4 := old hI s2
  have v5 := old hI s3
  have hcv := conv1 Wa 10
  rw [show (((10 : UInt8).toNat : Nat) : Int) = 10 from rfl] at hcv
  obtain ⟨u0, u1, -⟩ := hI.txt 1 (by omega)
  have lq := hI.lh
  have lg := hI.lg
  have f1 := hI.fg 256
  have f2 := hI.fh 1
  have ne1 : g ≠ q := hI.ne
  have cq : ((Wa.alloc (.cells #[.int .u8 10] 5)).alloc (.cells #[.string ⟨#[10]⟩] 9)).cell? ⟨q, 1, none⟩ = some u0 := by
    rw [World.cell?_alloc_past _ _ _ (by simp; omega), World.cell?_alloc_past _ _ _ lq]; exact u1
  have fq : ((Wa.alloc (.cells #[.int .u8 10] 5)).alloc (.cells #[.string ⟨#[10]⟩] 9)).frozen? ⟨q, 1, none⟩ = false := by
    rw [World.frozen?_alloc_past _ _ _ (by simp; omega), World.frozen?_alloc_past _ _ _ lq]; exact hI.fh 1
  have cg : (((Wa.alloc (.cells #[.int .u8 10] 5)).alloc (.cells #[.string ⟨#[10]⟩] 9)).setCell ⟨q, 1, none⟩ (.string ⟨#[10]⟩)).cell? ⟨g, 256, none⟩ = some (.slice (some ⟨q, 0, none⟩) 1 3) := by
    rw [World.cell?_setCell_other _ _ _ _ (fun e => ne1 (congrArg Addr.block e).symm), World.cell?_alloc_past _ _ _ (by simp; omega), World.cell?_alloc_past _ _ _ lg]; exact t0
  have fg : (((Wa.alloc (.cells #[.int .u8 10] 5)).alloc (.cells #[.string ⟨#[10]⟩] 9)).setCell ⟨q, 1, none⟩ (.string ⟨#[10]⟩)).frozen? ⟨g, 256, none⟩ = false := by
    rw [World.frozen?_setCell, World.frozen?_alloc_past _ _ _ (by simp; omega), World.frozen?_alloc_past _ _ _ lg]; exact hI.fg 256
  go_wp2
  have hJ := hI.push (by omega) (x := 10) rfl (.cells #[.int .u8 10] 5) (.cells #[.string ⟨#[10]⟩] 9)
  clear f1 f2 cq fq cg fg u1 u0 lq lg hcv v4 v5 t0 z1
  generalize (((Wa.setCell ⟨q, 1, none⟩ (.string ⟨#[10]⟩)).setCell ⟨g, 256, none⟩ (.slice (some ⟨q, 0, none⟩) (1 + 1) 3)).alloc (.cells #[.int .u8 10] 5)).alloc (.cells #[.string ⟨#[10]⟩] 9) = V at *
  have hcb := Lib.run_convert_string_bytes V 9 51 5 ⟨#[]⟩ Tryz.underlying9 Tryz.underlying51 Tryz.underlying5
  rw [bytesWorld_eq] at hcb
  rw [hcb]
  clear hcb
  generalize (Obj.cells (Lib.bytesCells V 5 ⟨#[]⟩) 5 ((Lib.bytesCells V 5 ⟨#[]⟩).size, (Lib.bytesCells V 5 ⟨#[]⟩).size + 1)) = ob
  generalize grownCap V (⟨#[]⟩ : ByteArray).size 0 5 = cap
  rw [show (⟨#[]⟩ : ByteArray).size = 0 from rfl]
  obtain ⟨z, z1, z2⟩ := hJ.rep 10 (by omega)
  have lg := hJ.lg
  have f1 := hJ.fg 10
  go_wp2
  have hI2 := hJ.mark (x := 10) rfl ob ⟨V.heap.size, 0, none⟩ cap
  rw [show ((10 : UInt8).toNat) = 10 from rfl] at hI2
  clear z1 z2 lg f1 hnil n10 e10
  generalize ((V.setCell ⟨g, 10, none⟩ (.slice (some ⟨V.heap.size, 0, none⟩) 0 cap)).alloc ob).drew = Wb at *
  clear hJ hI
  have hI := hI2
  clear hI2
  rw [rounds_succ]
  have e9 : ((⟨#[9]⟩ : ByteArray)[0]'(by decide)) = 9 := rfl
  have n9 : (9 : UInt8).toNat = 9 := rfl
  have hnil := nilT
  obtain ⟨z, z1, z2⟩ := hI.rep 9 (by omega)
  have z3 : z = .slice none 0 0 := by
    rcases z2 with ⟨⟨j, y, h1, h2, h3⟩, -⟩ | ⟨-, h⟩
    · exfalso
      match j, h1 with
      | 0, _ => simp [outs] at h2; subst h2; simp at h3
      | 1, _ => simp [outs] at h2; subst h2; simp at h3
    · exact h
  subst z3
  have t0 := hI.to
  have v4 := old hI s0
  have v5 := old hI s1
  have hcv := conv1 Wb 9
  rw [show (((9 : UInt8).toNat : Nat) : Int) = 9 from rfl] at hcv
  obtain ⟨u0, u1, -⟩ := hI.txt 2 (by omega)
  have lq := hI.lh
  have lg := hI.lg
  have f1 := hI.fg 256
  have f2 := hI.fh 2
  have ne1 : g ≠ q := hI.ne
  have cq : ((Wb.alloc (.cells #[.int .u8 9] 5)).alloc (.cells #[.string ⟨#[9]⟩] 9)).cell? ⟨q, 2, none⟩ = some u0 := by
    rw [World.cell?_alloc_past _ _ _ (by simp; omega), World.cell?_alloc_past _ _ _ lq]; exact u1
  have fq : ((Wb.alloc (.cells #[.int .u8 9] 5)).alloc (.cells #[.string ⟨#[9]⟩] 9)).frozen? ⟨q, 2, none⟩ = false := by
    rw [World.frozen?_alloc_past _ _ _ (by simp; omega), World.frozen?_alloc_past _ _ _ lq]; exact hI.fh 2
  have cg : (((Wb.alloc (.cells #[.int .u8 9] 5)).alloc (.cells #[.string ⟨#[9]⟩] 9)).setCell ⟨q, 2, none⟩ (.string ⟨#[9]⟩)).cell? ⟨g, 256, none⟩ = some (.slice (some ⟨q, 0, none⟩) 2 3) := by
    rw [World.cell?_setCell_other _ _ _ _ (fun e => ne1 (congrArg Addr.block e).symm), World.cell?_alloc_past _ _ _ (by simp; omega), World.cell?_alloc_past _ _ _ lg]; exact t0
  have fg : (((Wb.alloc (.cells #[.int .u8 9] 5)).alloc (.cells #[.string ⟨#[9]⟩] 9)).setCell ⟨q, 2, none⟩ (.string ⟨#[9]⟩)).frozen? ⟨g, 256, none⟩ = false := by
    rw [World.frozen?_setCell, World.frozen?_alloc_past _ _ _ (by simp; omega), World.frozen?_alloc_past _ _ _ lg]; exact hI.fg 256
  go_wp2
  have hJ := hI.push (by omega) (x := 9) rfl (.cells #[.int .u8 9] 5) (.cells #[.string ⟨#[9]⟩] 9)
  clear f1 f2 cq fq cg fg u1 u0 lq lg hcv v4 v5 t0 z1
  generalize (((Wb.setCell ⟨q, 2, none⟩ (.string ⟨#[9]⟩)).setCell ⟨g, 256, none⟩ (.slice (some ⟨q, 0, none⟩) (2 + 1) 3)).alloc (.cells #[.int .u8 9] 5)).alloc (.cells #[.string ⟨#[9]⟩] 9) = V at *
  have hcb := Lib.run_convert_string_bytes V 9 51 5 ⟨#[]⟩ Tryz.underlying9 Tryz.underlying51 Tryz.underlying5
  rw [bytesWorld_eq] at hcb
  rw [hcb]
  clear hcb
  generalize (Obj.cells (Lib.bytesCells V 5 ⟨#[]⟩) 5 ((Lib.bytesCells V 5 ⟨#[]⟩).size, (Lib.bytesCells V 5 ⟨#[]⟩).size + 1)) = ob
  generalize grownCap V (⟨#[]⟩ : ByteArray).size 0 5 = cap
  rw [show (⟨#[]⟩ : ByteArray).size = 0 from rfl]
  obtain ⟨z, z1, z2⟩ := hJ.rep 9 (by omega)
  have lg := hJ.lg
  have f1 := hJ.fg 9
  go_wp2
  have hI2 := hJ.mark (x := 9) rfl ob ⟨V.heap.size, 0, none⟩ cap
  rw [show ((9 : UInt8).toNat) = 9 from rfl] at hI2
  clear z1 z2 lg f1 hnil n9 e9
  generalize ((V.setCell ⟨g, 9, none⟩ (.slice (some ⟨V.heap.size, 0, none⟩) 0 cap)).alloc ob).drew = Wc at *
  clear hJ hI
  have hI := hI2
  clear hI2
  rw [rounds_succ]
  go_wp2
  go_ret
  exact ⟨_, _, rfl, hI⟩
end Go.VL.ReplC
