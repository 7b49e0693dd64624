/-
  Walks: the law TreeNames.
-/
import Derived.Test.YtpfhaalbikgmnaaTreeY
namespace Go.Proofs.Ytpfhaalbikgmnaa
open Go.RowKit

theorem four_more : nxT (gF [2, 1, 3, 3] 15) (gX [2, 1, 3, 3] 15) [13] 7 = (1, 8, 0) ∧ nxT (gF [2, 1, 3, 3] 15) (gX [2, 1, 3, 3] 15) [13] 8 = (0, 0, 10) ∧ nxT (gF [2, 1, 3, 3] 15) (gX [2, 1, 3, 3] 15) [0] (-1) = (0, 0, 2) := by decide +kernel
theorem one_reads : canE [0, 1] 15 = 0 ∧ nxT (gF [0, 1] 15) (gX [0, 1] 15) [254] 0 = (1, 1, 0) ∧ nxT (gF [0, 1] 15) (gX [0, 1] 15) [254] 1 = (0, 0, 50) := by decide +kernel
theorem nil_reads : canE [] 15 = 0 ∧ nxT (gF [] 15) (gX [] 15) [0] 0 = (0, 0, 50) := by decide +kernel
theorem four_tree : gF [2, 1, 3, 3] 15 1 = 1 ∧ gF [2, 1, 3, 3] 15 2 = 1 ∧ gF [2, 1, 3, 3] 15 3 = 2 ∧ gX [2, 1, 3, 3] 15 = [1, 0, 2, 3] := by decide +kernel
theorem zero_chk : chkE (fun _ => 0) [] = 0 ∧ chkE (fun _ => 0) [1] = 8 := by decide +kernel
theorem zo_bs (W : World) : Bs (W.alloc (.cells #[.int .u8 0, .int .u8 1] 5)) (some ⟨W.heap.size, 0, none⟩) [0, 1] := ⟨Sl.new _ _ _ _ rfl, by decide⟩

set_option maxRecDepth 100000 in
set_option maxHeartbeats 4000000 in
theorem tree_names (w : World) : Calls Try.prog 4 #[] w fun e w' => e = .returned (.bool true) ∧ Below w.heap.size w w' := by
  have HF := Lib.hid four_is
  have HV := Lib.hid tree_alive_any
  have HG := Lib.hid (fun wx A (h : Bs wx A [2, 1, 3, 3]) => show Calls Try.prog 10 #[.slice A 4 4, .int .i64 15] wx (fun e w' => ∃ (B : Option Addr) (d : Nat), e = .returned (.tuple #[.agg (cellsOf 17 (treeH (gF [2, 1, 3, 3] 15) (.slice B 4 d))), .int .i64 0]) ∧ Builds wx w' 3 1 B 4 d (ints [1, 0, 2, 3])) from by
    have := grow_is A 4 4 [2, 1, 3, 3] 15 wx h rfl (by omega) (by omega) (by omega)
    rw [four_can, four_tree.2.2.2] at this
    exact this)
  have H1 := Lib.hid (fun wx A (h : Bs wx A [2, 1, 3, 3]) => reads_yes A 4 4 13 1 8 [2, 1, 3, 3] 7 wx h rfl (by omega) (by omega) (by omega) (by omega) four_can four_more.1)
  have H2 := Lib.hid (fun wx A (h : Bs wx A [2, 1, 3, 3]) => fails_yes A 4 4 13 10 [2, 1, 3, 3] 8 wx h rfl (by omega) (by omega) (by omega) (by omega) four_can four_more.2.1)
  have H3 := Lib.hid (fun wx A (h : Bs wx A [0, 1]) => reads_yes A 2 2 254 1 1 [0, 1] 0 wx h rfl (by omega) (by omega) (by omega) (by omega) one_reads.1 one_reads.2.1)
  have H4 := Lib.hid (fun wx A (h : Bs wx A [0, 1]) => fails_yes A 2 2 254 50 [0, 1] 1 wx h rfl (by omega) (by omega) (by omega) (by omega) one_reads.1 one_reads.2.2)
  have H5 := Lib.hid (fun wx => fails_yes none 0 0 0 50 [] 0 wx Bs.nil_ rfl (by omega) (by omega) (by omega) (by omega) nil_reads.1 nil_reads.2)
  have H6 := Lib.hid (fun wx A (h : Bs wx A [2, 1, 3, 3]) => fails_yes A 4 4 0 2 [2, 1, 3, 3] (-1) wx h rfl (by omega) (by omega) (by omega) (by omega) four_can four_more.2.2)
  have H7 := Lib.hid (fun wx => show Calls Try.prog 13 #[.agg #[.int .i64 0, .int .i64 0, .int .i64 0, .int .i64 0, .int .i64 0, .int .i64 0, .int .i64 0, .int .i64 0, .int .i64 0, .int .i64 0, .int .i64 0, .int .i64 0, .int .i64 0, .int .i64 0, .int .i64 0, .int .i64 0, .slice none 0 0]] wx (fun e w' => e = .returned (.int .i64 0) ∧ Below wx.heap.size wx w') from by
    have := tcheck_any (fun _ => 0) none 0 0 [] wx Rd.nil_ rfl (Nat.le_refl _) (by omega)
    unfold ChkRes at this
    rw [zero_chk.1] at this
    exact this)
  have H8 := Lib.hid (fun wx A (h : Rd wx A (ints [1])) => show Calls Try.prog 13 #[.agg #[.int .i64 0, .int .i64 0, .int .i64 0, .int .i64 0, .int .i64 0, .int .i64 0, .int .i64 0, .int .i64 0, .int .i64 0, .int .i64 0, .int .i64 0, .int .i64 0, .int .i64 0, .int .i64 0, .int .i64 0, .int .i64 0, .slice A 1 1]] wx (fun e w' => e = .returned (.int .i64 8) ∧ Below wx.heap.size wx w') from by
    have := tcheck_any (fun _ => 0) A 1 1 [1] wx h rfl (Nat.le_refl _) (by omega)
    unfold ChkRes at this
    rw [zero_chk.2] at this
    exact this)
  go_enter Try.func4, Try.ntmps4
  go_upto_region 2 with (first
    | (go_at_call 16; refine (HF.out _).mono ?_; rintro e W1 ⟨A1, rfl, b1, h1⟩)
    | (go_at_call 10; refine (HG.out _ _ h1).mono ?_; rintro e W2 ⟨B, d, rfl, hT⟩)
    | (refine store_new rfl 26 (.tmp 1) (.tmp 8) rfl _ _ rfl rfl rfl 26 _ (by rw [cellsOf_size]; exact tree_size) (by rw [cellsOf_size]; rfl) (cellsOf_one (fun k _ => treeH_one _ _ _ _ k)) ?_))
  change Code.wp _ _ _ _ (W2.alloc (.cells (cellsOf 17 (treeH (gF [2, 1, 3, 3] 15) (.slice B 4 d))) 26))
  have k1 : Arr (W2.alloc (.cells (cellsOf 17 (treeH (gF [2, 1, 3, 3] 15) (.slice B 4 d))) 26)) W2.heap.size 26 17 (treeH (gF [2, 1, 3, 3] 15) (.slice B 4 d)) := Blk.new _ _ _
  have hb3 : Below w.heap.size w (W2.alloc (.cells (cellsOf 17 (treeH (gF [2, 1, 3, 3] 15) (.slice B 4 d))) 26)) := (b1.trans (hT.1.mono b1.size)).alloc (Nat.le_trans b1.size hT.1.size) _
  have hrd := hT.rd.alloc (.cells (cellsOf 17 (treeH (gF [2, 1, 3, 3] 15) (.slice B 4 d))) 26)
  generalize W2.alloc (.cells (cellsOf 17 (treeH (gF [2, 1, 3, 3] 15) (.slice B 4 d))) 26) = W3 at *
  have c1 := (Arr.cell k1 1 (by omega)).trans (congrArg some ((treeH_lt (by omega)).trans (congrArg (Value.int .i64) four_tree.1)))
  have c2 := (Arr.cell k1 2 (by omega)).trans (congrArg some ((treeH_lt (by omega)).trans (congrArg (Value.int .i64) four_tree.2.1)))
  have c3 := (Arr.cell k1 3 (by omega)).trans (congrArg some ((treeH_lt (by omega)).trans (congrArg (Value.int .i64) four_tree.2.2.1)))
  have c16 := (Arr.cell k1 16 (by omega)).trans (congrArg some treeH_16)
  obtain ⟨g, off, rfl, hc⟩ := hrd.at_ (by decide)
  have e0 := hc 0 _ rfl
  rw [Nat.add_zero] at e0
  have e1 := hc 1 _ rfl
  have e2 := hc 2 _ rfl
  have e3 := hc 3 _ rfl
  clear hc hrd k1 hT b1 h1 HG
  go_upto_region 5 with (fail)
  clear c1 c2 c3 c16 e0 e1 e2 e3
  go_wp2_with fail
  refine (HF.out _).mono ?_
  rintro e W4 ⟨A4, rfl, b4, h4⟩
  have hb4 := hb3.trans (b4.mono hb3.size)
  go_wp2_with fail
  refine (H1.out _ _ h4).mono ?_
  rintro e W5 ⟨rfl, b5⟩
  have hb5 := hb4.trans (b5.mono hb4.size)
  go_wp2_with fail
  refine (HF.out _).mono ?_
  rintro e W6 ⟨A6, rfl, b6, h6⟩
  have hb6 := hb5.trans (b6.mono hb5.size)
  go_wp2_with fail
  refine (H2.out _ _ h6).mono ?_
  rintro e W7 ⟨rfl, b7⟩
  have hb7 := hb6.trans (b7.mono hb6.size)
  go_wp2_with fail
  refine (H3.out _ _ (zo_bs W7)).mono ?_
  rintro e W8 ⟨rfl, b8⟩
  have hb8 := (hb7.alloc hb7.size (.cells #[.int .u8 0, .int .u8 1] 5)).trans (b8.mono (Nat.le_trans hb7.size (by simp)))
  go_wp2_with fail
  refine (H4.out _ _ (zo_bs W8)).mono ?_
  rintro e W9 ⟨rfl, b9⟩
  have hb9 := (hb8.alloc hb8.size (.cells #[.int .u8 0, .int .u8 1] 5)).trans (b9.mono (Nat.le_trans hb8.size (by simp)))
  go_wp2_with fail
  refine (H5.out _).mono ?_
  rintro e W10 ⟨rfl, b10⟩
  have hb10 := hb9.trans (b10.mono hb9.size)
  go_wp2_with fail
  refine (HF.out _).mono ?_
  rintro e W11 ⟨A11, rfl, b11, h11⟩
  have hb11 := hb10.trans (b11.mono hb10.size)
  go_wp2_with fail
  refine (H6.out _ _ h11).mono ?_
  rintro e W12 ⟨rfl, b12⟩
  have hb12 := hb11.trans (b12.mono hb11.size)
  go_wp2_with fail
  refine (HV.out _).mono ?_
  rintro e W13 ⟨rfl, b13⟩
  have hb13 := hb12.trans (b13.mono hb12.size)
  go_wp2_with fail
  refine (H7.out _).mono ?_
  rintro e W14 ⟨rfl, b14⟩
  have hb14 := hb13.trans (b14.mono hb13.size)
  have hone : Rd (W14.alloc (.cells #[.int .i64 1] 3)) (some ⟨W14.heap.size, 0, none⟩) (ints [1]) := Rd.new _ _ _ _ rfl
  go_wp2_with fail
  refine (H8.out _ _ hone).mono ?_
  rintro e W15 ⟨rfl, b15⟩
  have hb15 := (hb14.alloc hb14.size (.cells #[.int .i64 1] 3)).trans (b15.mono (Nat.le_trans hb14.size (by simp)))
  go_wp2_with fail
  go_ret
  exact ⟨rfl, hb15⟩
end Go.Proofs.Ytpfhaalbikgmnaa
