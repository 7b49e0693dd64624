/-
  Walks: reads, fails, alive of the laws.
-/
import Derived.Test.YtpfhaalbikgmnaaTreeW
namespace Go.Proofs.Ytpfhaalbikgmnaa
open Go.RowKit

theorem nx_is {l : List Nat} {b : List Nat} {a : Int} {r : Nat × Nat × Nat} (h : nxT (gF l 15) (gX l 15) b a = r) (w w' : World) (e : Ending) (hr : ReadRes w w' e (nxT (gF l 15) (gX l 15) b a)) : ReadRes w w' e r := h ▸ hr

set_option maxRecDepth 100000 in
set_option maxHeartbeats 2000000 in
theorem reads_yes (A : Option Addr) (c nl x s n : Nat) (l : List Nat) (a : Int) (w : World) (hl : Bs w A l) (hnl : nl = l.length) (hm : nl ≤ 1001) (hx : x < 256) (h1 : -9223372036854775808 ≤ a) (h2 : a ≤ 9223372036854775807)
    (hc : canE l 15 = 0) (hr : nxT (gF l 15) (gX l 15) [x] a = (s, n, 0)) :
    Calls Try.prog 17 #[.slice A nl c, .int .u8 (x : Int), .int .i64 a, .int .i64 (s : Int), .int .i64 (n : Int)] w fun e w' => e = .returned (.bool true) ∧ Below w.heap.size w w' := by
  have HG := Lib.hid (fun wx (h : Bs wx A l) => grow_is A c nl l 15 wx h hnl hm (by omega) (by omega))
  have hgx := gX_len l 15
  rw [← hnl] at hgx
  have HX := Lib.hid (fun wx B d A' c' (hB : Rd wx B (ints (gX l 15))) (hd : (gX l 15).length ≤ d) (hA : Bs wx A' [x]) => show Calls Try.prog 20 #[.agg (cellsOf 17 (treeH (gF l 15) (.slice B (gX l 15).length d))), .slice A' 1 c', .int .i64 a] wx (fun e w' => e = .returned (.tuple #[.int .i64 (s : Int), .int .i64 (n : Int), .int .i64 0]) ∧ Below wx.heap.size wx w') from by
    have := tnext_any (gF l 15) B A' (gX l 15).length d 1 c' (gX l 15) [x] a wx hB rfl hd (by omega) hA rfl (by omega) h1 h2
    rw [hr] at this
    exact this)
  rw [hc] at HG
  obtain ⟨nz, hnz⟩ : ∃ nz, (gX l 15).length = nz := ⟨_, rfl⟩
  rw [hnz] at HG HX hgx
  clear hnz hr hc hnl
  go_enter Try.func17, Try.ntmps17
  go_upto_region 2 with (first
    | (go_at_call 10; refine (HG.out _ hl).mono ?_; rintro e W1 ⟨B, d, rfl, hT⟩)
    | (refine store_new rfl 26 (.tmp 11) (.tmp 19) rfl _ _ rfl rfl rfl 26 _ (by rw [cellsOf_size]; exact tree_size) (by rw [cellsOf_size]; rfl) (cellsOf_one (fun k _ => treeH_one _ _ _ _ k)) ?_))
  change Code.wp _ _ _ _ (W1.alloc (.cells (cellsOf 17 (treeH (gF l 15) (.slice B nz d))) 26))
  have k11 : Arr (W1.alloc (.cells (cellsOf 17 (treeH (gF l 15) (.slice B nz d))) 26)) W1.heap.size 26 17 (treeH (gF l 15) (.slice B nz d)) := Blk.new _ _ _
  have hb2 : Below w.heap.size w (W1.alloc (.cells (cellsOf 17 (treeH (gF l 15) (.slice B nz d))) 26)) := hT.1.alloc hT.1.size _
  have hrd := hT.rd.alloc (.cells (cellsOf 17 (treeH (gF l 15) (.slice B nz d))) 26)
  have hcap := hT.cap
  generalize W1.alloc (.cells (cellsOf 17 (treeH (gF l 15) (.slice B nz d))) 26) = W2 at *
  clear hT HG
  have hbx : Bs (W2.alloc (.cells #[.int .u8 (x : Int)] 5)) (some ⟨W2.heap.size, 0, none⟩) [x] := ⟨Sl.new _ _ _ _ rfl, fun y hy => by simp only [List.mem_cons, List.not_mem_nil, or_false] at hy; omega⟩
  have hrd2 := hrd.alloc (.cells #[.int .u8 (x : Int)] 5)
  have hb3 : Below w.heap.size w (W2.alloc (.cells #[.int .u8 (x : Int)] 5)) := hb2.alloc hb2.size _
  go_wp2_with (first
    | (refine load_arr rfl 26 (.tmp 11) rfl rfl k11 tree_under rfl tree_size ?_)
    | (go_at_call 20; refine (HX.out _ _ _ _ _ hrd2 hcap hbx).mono ?_; rintro e W4 ⟨rfl, b4⟩))
  go_ret
  exact ⟨rfl, hb3.trans (b4.mono hb3.size)⟩

set_option maxRecDepth 100000 in
set_option maxHeartbeats 2000000 in
theorem fails_yes (A : Option Addr) (c nl x E : Nat) (l : List Nat) (a : Int) (w : World) (hl : Bs w A l) (hnl : nl = l.length) (hm : nl ≤ 1001) (hx : x < 256) (h1 : -9223372036854775808 ≤ a) (h2 : a ≤ 9223372036854775807)
    (hc : canE l 15 = 0) (hr : nxT (gF l 15) (gX l 15) [x] a = (0, 0, E)) :
    Calls Try.prog 18 #[.slice A nl c, .int .u8 (x : Int), .int .i64 a, .int .i64 (E : Int)] w fun e w' => e = .returned (.bool true) ∧ Below w.heap.size w w' := by
  have HG := Lib.hid (fun wx (h : Bs wx A l) => grow_is A c nl l 15 wx h hnl hm (by omega) (by omega))
  have hgx := gX_len l 15
  rw [← hnl] at hgx
  have HX := Lib.hid (fun wx B d A' c' (hB : Rd wx B (ints (gX l 15))) (hd : (gX l 15).length ≤ d) (hA : Bs wx A' [x]) => show Calls Try.prog 20 #[.agg (cellsOf 17 (treeH (gF l 15) (.slice B (gX l 15).length d))), .slice A' 1 c', .int .i64 a] wx (fun e w' => e = .returned (.tuple #[.int .i64 0, .int .i64 0, .int .i64 (E : Int)]) ∧ Below wx.heap.size wx w') from by
    have := tnext_any (gF l 15) B A' (gX l 15).length d 1 c' (gX l 15) [x] a wx hB rfl hd (by omega) hA rfl (by omega) h1 h2
    rw [hr] at this
    exact this)
  rw [hc] at HG
  obtain ⟨nz, hnz⟩ : ∃ nz, (gX l 15).length = nz := ⟨_, rfl⟩
  rw [hnz] at HG HX hgx
  clear hnz hr hc hnl
  go_enter Try.func18, Try.ntmps18
  go_upto_region 2 with (first
    | (go_at_call 10; refine (HG.out _ hl).mono ?_; rintro e W1 ⟨B, d, rfl, hT⟩)
    | (refine store_new rfl 26 (.tmp 9) (.tmp 17) rfl _ _ rfl rfl rfl 26 _ (by rw [cellsOf_size]; exact tree_size) (by rw [cellsOf_size]; rfl) (cellsOf_one (fun k _ => treeH_one _ _ _ _ k)) ?_))
  change Code.wp _ _ _ _ (W1.alloc (.cells (cellsOf 17 (treeH (gF l 15) (.slice B nz d))) 26))
  have k11 : Arr (W1.alloc (.cells (cellsOf 17 (treeH (gF l 15) (.slice B nz d))) 26)) W1.heap.size 26 17 (treeH (gF l 15) (.slice B nz d)) := Blk.new _ _ _
  have hb2 : Below w.heap.size w (W1.alloc (.cells (cellsOf 17 (treeH (gF l 15) (.slice B nz d))) 26)) := hT.1.alloc hT.1.size _
  have hrd := hT.rd.alloc (.cells (cellsOf 17 (treeH (gF l 15) (.slice B nz d))) 26)
  have hcap := hT.cap
  generalize W1.alloc (.cells (cellsOf 17 (treeH (gF l 15) (.slice B nz d))) 26) = W2 at *
  clear hT HG
  have hbx : Bs (W2.alloc (.cells #[.int .u8 (x : Int)] 5)) (some ⟨W2.heap.size, 0, none⟩) [x] := ⟨Sl.new _ _ _ _ rfl, fun y hy => by simp only [List.mem_cons, List.not_mem_nil, or_false] at hy; omega⟩
  have hrd2 := hrd.alloc (.cells #[.int .u8 (x : Int)] 5)
  have hb3 : Below w.heap.size w (W2.alloc (.cells #[.int .u8 (x : Int)] 5)) := hb2.alloc hb2.size _
  go_wp2_with (first
    | (refine load_arr rfl 26 (.tmp 9) rfl rfl k11 tree_under rfl tree_size ?_)
    | (go_at_call 20; refine (HX.out _ _ _ _ _ hrd2 hcap hbx).mono ?_; rintro e W4 ⟨rfl, b4⟩))
  go_ret
  exact ⟨rfl, hb3.trans (b4.mono hb3.size)⟩

theorem four_any (w : World) : Calls Try.prog 16 #[] w fun e w' => e = .returned (.slice (some ⟨w.heap.size, 0, none⟩) 4 4) ∧ w' = w.alloc (.cells #[.int .u8 2, .int .u8 1, .int .u8 3, .int .u8 3] 5) := by
  go_enter Try.func16, Try.ntmps16
  go_wp2_with fail
  go_ret
  exact ⟨rfl, rfl⟩
theorem four_is (w : World) : Calls Try.prog 16 #[] w fun e w' => ∃ A, e = .returned (.slice A 4 4) ∧ Below w.heap.size w w' ∧ Bs w' A [2, 1, 3, 3] :=
  (four_any w).mono fun e w' ⟨he, hw⟩ => by subst hw; exact ⟨_, he, (Below.refl _ _).alloc (Nat.le_refl _) _, Sl.new _ _ _ _ rfl, by decide⟩
theorem four_can : canE [2, 1, 3, 3] 15 = 0 := by decide +kernel
theorem four_reads : nxT (gF [2, 1, 3, 3] 15) (gX [2, 1, 3, 3] 15) [13] 0 = (0, 2, 0) ∧ nxT (gF [2, 1, 3, 3] 15) (gX [2, 1, 3, 3] 15) [13] 1 = (1, 2, 0) ∧ nxT (gF [2, 1, 3, 3] 15) (gX [2, 1, 3, 3] 15) [13] 2 = (2, 5, 0) := by decide +kernel

set_option maxRecDepth 100000 in
set_option maxHeartbeats 2000000 in
theorem tree_alive_any (w : World) : Calls Try.prog 19 #[] w fun e w' => e = .returned (.bool true) ∧ Below w.heap.size w w' := by
  have HF := Lib.hid four_is
  have H1 := Lib.hid (fun wx A (h : Bs wx A [2, 1, 3, 3]) => reads_yes A 4 4 13 0 2 [2, 1, 3, 3] 0 wx h rfl (by omega) (by omega) (by omega) (by omega) four_can four_reads.1)
  have H2 := Lib.hid (fun wx A (h : Bs wx A [2, 1, 3, 3]) => reads_yes A 4 4 13 1 2 [2, 1, 3, 3] 1 wx h rfl (by omega) (by omega) (by omega) (by omega) four_can four_reads.2.1)
  have H3 := Lib.hid (fun wx A (h : Bs wx A [2, 1, 3, 3]) => reads_yes A 4 4 13 2 5 [2, 1, 3, 3] 2 wx h rfl (by omega) (by omega) (by omega) (by omega) four_can four_reads.2.2)
  go_enter Try.func19, Try.ntmps19
  go_wp2_with fail
  refine (HF.out _).mono ?_
  rintro e W1 ⟨A1, rfl, b1, h1⟩
  go_wp2_with fail
  refine (H1.out _ _ h1).mono ?_
  rintro e W2 ⟨rfl, b2⟩
  go_wp2_with fail
  refine (HF.out _).mono ?_
  rintro e W3 ⟨A3, rfl, b3, h3⟩
  go_wp2_with fail
  refine (H2.out _ _ h3).mono ?_
  rintro e W4 ⟨rfl, b4⟩
  go_wp2_with fail
  refine (HF.out _).mono ?_
  rintro e W5 ⟨A5, rfl, b5, h5⟩
  go_wp2_with fail
  refine (H3.out _ _ h5).mono ?_
  rintro e W6 ⟨rfl, b6⟩
  go_wp2_with fail
  go_ret
  have c2 := b1.trans (b2.mono b1.size)
  have c3 := c2.trans (b3.mono c2.size)
  have c4 := c3.trans (b4.mono c3.size)
  have c5 := c4.trans (b5.mono c4.size)
  exact ⟨rfl, c5.trans (b6.mono c5.size)⟩
end Go.Proofs.Ytpfhaalbikgmnaa
