/-
  Walks: the law TreeGrows.
-/
import Derived.Test.YtpfhaalbikgmnaaTreeV
import Derived.Test.YtpfhaalbikgmnaaExt
import Derived.Test.YtpfhaalbikgmnaaOpenT
namespace Go.Proofs.Ytpfhaalbikgmnaa
open Go.RowKit

def gF (l : List Nat) (m : Int) : Nat → Int := if canE l m = 0 then cntS (allP l 16) else fun _ => 0
def gX (l : List Nat) (m : Int) : List Int := if canE l m = 0 then symS (allP l 16) else []
theorem gX_len (l : List Nat) (m : Int) : (gX l m).length ≤ l.length := by
  unfold gX
  split
  · rw [symS_length]; exact allP_le l 16
  · simp
theorem growRes {w w' : World} {e : Ending} {l : List Nat} {m : Int} (h : Below w.heap.size w w' ∧
      ∃ (B : Option Addr) (n d : Nat) (f : Nat → Int) (xs : List Int), e = .returned (.tuple #[treeV f B n d, .int .i64 (canE l m)]) ∧ w'.ownsRow w.heap.size 3 1 (.slice B n d) n (ints xs) ∧
        if canE l m = 0 then f = cntS (allP l 16) ∧ xs = symS (allP l 16) else f = (fun _ => 0) ∧ xs = []) :
    ∃ (B : Option Addr) (d : Nat), e = .returned (.tuple #[.agg (cellsOf 17 (treeH (gF l m) (.slice B (gX l m).length d))), .int .i64 (canE l m)]) ∧ Builds w w' 3 1 B (gX l m).length d (ints (gX l m)) := by
  obtain ⟨hb, B, n, d, f, xs, he, ho, hif⟩ := h
  have hn := ho.1
  rw [ints_length, Nat.mul_one] at hn
  have hfx : f = gF l m ∧ xs = gX l m := by
    unfold gF gX
    split at hif
    · rename_i h0; rw [if_pos h0, if_pos h0]; exact hif
    · rename_i h0; rw [if_neg h0, if_neg h0]; exact hif
  obtain ⟨rfl, rfl⟩ := hfx
  subst hn
  exact ⟨B, d, he, hb, ho⟩
theorem grow_is (A : Option Addr) (c nl : Nat) (l : List Nat) (m : Int) (w : World) (hl : Bs w A l) (hn : nl = l.length) (hm : nl ≤ 1001) (h1 : -9223372036854775808 ≤ m) (h2 : m ≤ 9223372036854775807) :
    Calls Try.prog 10 #[.slice A nl c, .int .i64 m] w fun e w' => ∃ (B : Option Addr) (d : Nat), e = .returned (.tuple #[.agg (cellsOf 17 (treeH (gF l m) (.slice B (gX l m).length d))), .int .i64 (canE l m)]) ∧ Builds w w' 3 1 B (gX l m).length d (ints (gX l m)) := by
  subst hn
  exact (grow_any A c l m w hl hm h1 h2).mono fun e w' h => growRes h
theorem rgrow_is (A : Option Addr) (c nl : Nat) (l : List Nat) (m : Int) (w : World) (hl : Bs w A l) (hn : nl = l.length) (hm : nl ≤ 1001) (h1 : -9223372036854775808 ≤ m) (h2 : m ≤ 9223372036854775807) :
    Calls Try.prog 11 #[.slice A nl c, .int .i64 m] w fun e w' => ∃ (B : Option Addr) (d : Nat), e = .returned (.tuple #[.agg (cellsOf 17 (treeH (gF l m) (.slice B (gX l m).length d))), .int .i64 (canE l m)]) ∧ Builds w w' 3 1 B (gX l m).length d (ints (gX l m)) := by
  subst hn
  exact (rgrow_any A c l m w hl hm h1 h2).mono fun e w' h => growRes h
theorem rtwin_is (f : Nat → Int) (A : Option Addr) (n c : Nat) (xs : List Int) (w : World) (hl : Rd w A (ints xs)) (hn : n = xs.length) (hm : n ≤ 1001) :
    Calls Try.prog 9 #[.agg (cellsOf 17 (treeH f (.slice A n c)))] w fun e w' =>
      ∃ (B : Option Addr) (d : Nat), e = .returned (.agg (cellsOf 17 (treeH f (.slice B n d)))) ∧ Builds w w' 3 1 B n d (ints xs) := rtwin_any f A n c xs w hl hn hm

set_option maxRecDepth 100000 in
set_option maxHeartbeats 4000000 in
theorem law_grows' (A : Option Addr) (l : List Nat) (c : Nat) (m : Int) (f : Nat → Int) (B : Option Addr) (xs : List Int) (cb : Nat) (g : Nat → Int) (D : Option Addr) (ys : List Int) (cd : Nat) (w : World) (nl nx ny : Nat) (hnl : nl = l.length) (hnx : nx = xs.length) (hny : ny = ys.length)
    (hl : Bs w A l) (hA : A = none → l = []) (hm : nl ≤ maxLen) (h1 : -9223372036854775808 ≤ m) (h2 : m ≤ 9223372036854775807) (hB : Rd w B (ints xs)) (_ : nx ≤ cb) (hbm : nx ≤ maxLen) (hD : Rd w D (ints ys)) (_ : ny ≤ cd) (hdm : ny ≤ maxLen) :
    Calls Try.prog 3 #[.slice A nl c, .int .i64 m, .agg (cellsOf 17 (treeH f (.slice B nx cb))), .agg (cellsOf 17 (treeH g (.slice D ny cd)))] w fun e w' => e = .returned (.bool true) ∧ Below w.heap.size w w' := by
  unfold maxLen at hm hbm hdm
  have HA := Lib.hid hA
  have HN := Lib.hid (And.intro hnl (And.intro hnx hny))
  have HB : ∀ o o', Below w.heap.size w ((w.alloc o).alloc o') := fun o o' => ((Below.refl _ _).alloc (Nat.le_refl _) _).alloc (by simp) _
  have k6 : Arr ((w.alloc (.cells (cellsOf 17 (treeH f (.slice B nx cb))) 26)).alloc (.cells (cellsOf 17 (treeH g (.slice D ny cd))) 26)) w.heap.size 26 17 (treeH f (.slice B nx cb)) := Blk.alloc (Blk.new _ _ _) _
  have k7 : Arr ((w.alloc (.cells (cellsOf 17 (treeH f (.slice B nx cb))) 26)).alloc (.cells (cellsOf 17 (treeH g (.slice D ny cd))) 26)) (w.heap.size + 1) 26 17 (treeH g (.slice D ny cd)) := Blk.new' _ _ _ _ (by simp)
  have hb0 := HB (.cells (cellsOf 17 (treeH f (.slice B nx cb))) 26) (.cells (cellsOf 17 (treeH g (.slice D ny cd))) 26)
  have c6 := (Arr.cell k6 16 (by omega)).trans (congrArg some treeH_16)
  have c7 := (Arr.cell k7 16 (by omega)).trans (congrArg some treeH_16)
  clear HB hA hnl hnx hny
  by_cases hbig : 1000 < nl ∨ 1000 < nx ∨ 1000 < ny
  · have hcases : 1000 < nl ∨ (¬ 1000 < nl ∧ 1000 < nx) ∨ (¬ 1000 < nl ∧ ¬ 1000 < nx ∧ 1000 < ny) := by omega
    clear hbig
    rcases hcases with hq | ⟨hp, hq⟩ | ⟨hp, hp2, hq⟩
    all_goals
      go_enter Try.func3, Try.ntmps3
      go_upto_region 1 with (fail)
      change Code.wp _ _ _ _ ((w.alloc (.cells (cellsOf 17 (treeH f (.slice B nx cb))) 26)).alloc (.cells (cellsOf 17 (treeH g (.slice D ny cd))) 26))
      generalize (w.alloc (.cells (cellsOf 17 (treeH f (.slice B nx cb))) 26)).alloc (.cells (cellsOf 17 (treeH g (.slice D ny cd))) 26) = W0 at *
      go_wp2_with fail
      go_ret
      exact ⟨rfl, hb0⟩
  · have g1 : nl ≤ 1000 := by omega
    have g2 : nx ≤ 1000 := by omega
    have g3 : ny ≤ 1000 := by omega
    clear hbig
    go_enter Try.func3, Try.ntmps3
    go_upto_region 1 with (fail)
    change Code.wp _ _ _ _ ((w.alloc (.cells (cellsOf 17 (treeH f (.slice B nx cb))) 26)).alloc (.cells (cellsOf 17 (treeH g (.slice D ny cd))) 26))
    generalize (w.alloc (.cells (cellsOf 17 (treeH f (.slice B nx cb))) 26)).alloc (.cells (cellsOf 17 (treeH g (.slice D ny cd))) 26) = W0 at *
    have HTw := Lib.hid (fun wx (h : Rd wx B (ints xs)) => rtwin_is f B nx cb xs wx h HN.out.2.1 (by omega))
    have hB0 := hB.below hb0
    go_upto_region 4 with (first
      | (refine load_arr rfl 26 (.tmp 6) rfl rfl k6 tree_under rfl tree_size ?_)
      | (go_at_call 9; refine (HTw.out _ hB0).mono ?_; rintro e W1 ⟨B1, d1, rfl, hT1⟩)
      | (refine store_new rfl 26 (.tmp 9) (.tmp 32) rfl _ _ rfl rfl rfl 26 _ (by rw [cellsOf_size]; exact tree_size) (by rw [cellsOf_size]; rfl) (cellsOf_one (fun k _ => treeH_one _ _ _ _ k)) ?_))
    change Code.wp _ _ _ _ (W1.alloc (.cells (cellsOf 17 (treeH f (.slice B1 nx d1))) 26))
    have k9 : Arr (W1.alloc (.cells (cellsOf 17 (treeH f (.slice B1 nx d1))) 26)) W1.heap.size 26 17 (treeH f (.slice B1 nx d1)) := Blk.new _ _ _
    have hb2 : Below W0.heap.size W0 (W1.alloc (.cells (cellsOf 17 (treeH f (.slice B1 nx d1))) 26)) := hT1.1.alloc hT1.1.size _
    have hr9 := hT1.rd.alloc (.cells (cellsOf 17 (treeH f (.slice B1 nx d1))) 26)
    have hbx2 := hb0.trans (hb2.mono hb0.size)
    replace k6 := Arr.below k6 hb2 (Blk.lt k6)
    replace k7 := Arr.below k7 hb2 (Blk.lt k7)
    have hd9 := hT1.cap
    generalize W1.alloc (.cells (cellsOf 17 (treeH f (.slice B1 nx d1))) 26) = W2 at *
    clear c6 c7 hb0 hb2 hT1 HTw hB0
    have hl2 := hl.below hbx2
    have hrl := hl2.rd HA.out
    go_upto_region 5 with (at_builtin; refine grow elem_u8 rfl (.const (.slice none 0 0)) (.tmp 33) rfl rfl (Builds.nil_ W2 _ _) rfl hrl (by rw [u8s_length, HN.out.1, Nat.mul_one]) (u8s_one _) nl (by omega) (u8s l) rfl (by omega) (by omega) ?_; intro A3 c3 W3 hB3 hg3)
    clear hg3
    have HG1 := Lib.hid (fun wx A c (h : Bs wx A l) => grow_is A c nl l m wx h HN.out.1 (by omega) h1 h2)
    have HG2 := Lib.hid (fun wx A c (h : Bs wx A l) => rgrow_is A c nl l m wx h HN.out.1 (by omega) h1 h2)
    have hgx := gX_len l m
    rw [← HN.out.1] at hgx
    have hb3 := hbx2.trans (hB3.1.mono hbx2.size)
    replace k6 := Arr.below k6 hB3.1 (Blk.lt k6)
    replace k7 := Arr.below k7 hB3.1 (Blk.lt k7)
    replace k9 := Arr.below k9 hB3.1 (Blk.lt k9)
    replace hr9 := hr9.below hB3.1
    have hin3 := hB3.rd
    have hl3 := rd_u8 hin3 hl2.2
    clear hrl hl2 hbx2 hB3
    go_upto_region 6 with (first
      | (go_at_call 10; refine (HG1.out _ _ _ hl3).mono ?_; rintro e W4 ⟨B4, d4, rfl, hT4⟩)
      | (refine store_new rfl 26 (.tmp 11) (.tmp 39) rfl _ _ rfl rfl rfl 26 _ (by rw [cellsOf_size]; exact tree_size) (by rw [cellsOf_size]; rfl) (cellsOf_one (fun k _ => treeH_one _ _ _ _ k)) ?_))
    obtain ⟨nz, hnz⟩ : ∃ nz, (gX l m).length = nz := ⟨_, rfl⟩
    rw [hnz] at hT4 hgx HG2
    have HZ := Lib.hid hnz
    simp only [hnz]
    clear hnz
    change Code.wp _ _ _ _ (W4.alloc (.cells (cellsOf 17 (treeH (gF l m) (.slice B4 nz d4))) 26))
    have k11 : Arr (W4.alloc (.cells (cellsOf 17 (treeH (gF l m) (.slice B4 nz d4))) 26)) W4.heap.size 26 17 (treeH (gF l m) (.slice B4 nz d4)) := Blk.new _ _ _
    have hb5 : Below W3.heap.size W3 (W4.alloc (.cells (cellsOf 17 (treeH (gF l m) (.slice B4 nz d4))) 26)) := hT4.1.alloc hT4.1.size _
    have hr11 := hT4.rd.alloc (.cells (cellsOf 17 (treeH (gF l m) (.slice B4 nz d4))) 26)
    generalize W4.alloc (.cells (cellsOf 17 (treeH (gF l m) (.slice B4 nz d4))) 26) = W5 at *
    have hbx5 := hb3.trans (hb5.mono hb3.size)
    replace k6 := Arr.below k6 hb5 (Blk.lt k6)
    replace k7 := Arr.below k7 hb5 (Blk.lt k7)
    replace k9 := Arr.below k9 hb5 (Blk.lt k9)
    replace hr9 := hr9.below hb5
    replace hin3 := hin3.below hb5
    have hl5 := hl.below hbx5
    clear hl3 hT4 hb3 hb5
    go_upto_region 7 with (first
      | (go_at_call 11; refine (HG2.out _ _ _ hl5).mono ?_; rintro e W6 ⟨B6, d6, rfl, hT6⟩)
      | (refine store_new rfl 26 (.tmp 13) (.tmp 45) rfl _ _ rfl rfl rfl 26 _ (by rw [cellsOf_size]; exact tree_size) (by rw [cellsOf_size]; rfl) (cellsOf_one (fun k _ => treeH_one _ _ _ _ k)) ?_))
    change Code.wp _ _ _ _ (W6.alloc (.cells (cellsOf 17 (treeH (gF l m) (.slice B6 nz d6))) 26))
    have k13 : Arr (W6.alloc (.cells (cellsOf 17 (treeH (gF l m) (.slice B6 nz d6))) 26)) W6.heap.size 26 17 (treeH (gF l m) (.slice B6 nz d6)) := Blk.new _ _ _
    have hb7 : Below W5.heap.size W5 (W6.alloc (.cells (cellsOf 17 (treeH (gF l m) (.slice B6 nz d6))) 26)) := hT6.1.alloc hT6.1.size _
    have hr13 := hT6.rd.alloc (.cells (cellsOf 17 (treeH (gF l m) (.slice B6 nz d6))) 26)
    generalize W6.alloc (.cells (cellsOf 17 (treeH (gF l m) (.slice B6 nz d6))) 26) = W7 at *
    have hbx7 := hbx5.trans (hb7.mono hbx5.size)
    replace k6 := Arr.below k6 hb7 (Blk.lt k6)
    replace k7 := Arr.below k7 hb7 (Blk.lt k7)
    replace k9 := Arr.below k9 hb7 (Blk.lt k9)
    replace k11 := Arr.below k11 hb7 (Blk.lt k11)
    replace hr9 := hr9.below hb7
    replace hr11 := hr11.below hb7
    replace hin3 := hin3.below hb7
    clear hl5 hT6 hb7 hbx5 HG1 HG2
    have K6 : ∀ w', (∃ n : Wx W7, w' = n.w) → Arr w' w.heap.size 26 17 (treeH f (.slice B nx cb)) := fun _ ⟨n, hn⟩ => hn ▸ Arr.below k6 n.b (Blk.lt k6)
    have K9 : ∀ w', (∃ n : Wx W7, w' = n.w) → Arr w' W1.heap.size 26 17 (treeH f (.slice B1 nx d1)) := fun _ ⟨n, hn⟩ => hn ▸ Arr.below k9 n.b (Blk.lt k9)
    have K11 : ∀ w', (∃ n : Wx W7, w' = n.w) → Arr w' W4.heap.size 26 17 (treeH (gF l m) (.slice B4 nz d4)) := fun _ ⟨n, hn⟩ => hn ▸ Arr.below k11 n.b (Blk.lt k11)
    have K13 : ∀ w', (∃ n : Wx W7, w' = n.w) → Arr w' W6.heap.size 26 17 (treeH (gF l m) (.slice B6 nz d6)) := fun _ ⟨n, hn⟩ => hn ▸ Arr.below k13 n.b (Blk.lt k13)
    have HS1 := Lib.hid (fun n : Wx W7 => show Calls Try.prog 12 #[.agg (cellsOf 17 (treeH (gF l m) (.slice B4 nz d4))), .agg (cellsOf 17 (treeH (gF l m) (.slice B6 nz d6)))] n.w (fun e w' => e = .returned (.bool true) ∧ Below n.w.heap.size n.w w') from by
      have := rsame_any (gF l m) (gF l m) B4 B6 nz d4 nz d6 (gX l m) (gX l m) n.w (hr11.below n.b) (hr13.below n.b) HZ.out.symm HZ.out.symm (by omega) (by omega)
      rw [sameT_refl] at this
      exact this)
    have HC1 := Lib.hid (fun n : Wx W7 => show Calls Try.prog 13 #[.agg (cellsOf 17 (treeH f (.slice B1 nx d1)))] n.w (fun e w' => e = .returned (.int .i64 (chkE f xs : Nat)) ∧ Below n.w.heap.size n.w w') from tcheck_any f B1 nx d1 xs n.w (hr9.below n.b) HN.out.2.1 hd9 (by omega))
    have HC2 := Lib.hid (fun n : Wx W7 => show Calls Try.prog 14 #[.agg (cellsOf 17 (treeH f (.slice B nx cb)))] n.w (fun e w' => e = .returned (.int .i64 (chkE f xs : Nat)) ∧ Below n.w.heap.size n.w w') from rchk_any f B nx cb xs n.w (hB.below (hbx7.trans (n.b.mono hbx7.size))) HN.out.2.1 (by omega))
    go_upto_region 7 with (fail)
    refine wp_region_ext (by kernel_rfl) (by kernel_rfl) ?_
    repeat (first
      | (go_big_quiet_want; refine quiet_row 26 (.tmp 11) rfl rfl K11 tree_under rfl tree_size ?_; go_big_quiet_on; simp only [Act.put, List.setIfInBounds_toArray, List.set_cons_zero, List.set_cons_succ])
      | (go_big_quiet_want; refine quiet_row 26 (.tmp 13) rfl rfl K13 tree_under rfl tree_size ?_; go_big_quiet_on; simp only [Act.put, List.setIfInBounds_toArray, List.set_cons_zero, List.set_cons_succ])
      | (go_big_quiet_want; refine quiet_row 26 (.tmp 9) rfl rfl K9 tree_under rfl tree_size ?_; go_big_quiet_on; simp only [Act.put, List.setIfInBounds_toArray, List.set_cons_zero, List.set_cons_succ])
      | (go_big_quiet_want; refine quiet_row 26 (.tmp 6) rfl rfl K6 tree_under rfl tree_size ?_; go_big_quiet_on; simp only [Act.put, List.setIfInBounds_toArray, List.set_cons_zero, List.set_cons_succ])
      | (go_big_quiet_step (first
          | (go_at_call 12; with_reducible exact Calls.ext _ (HS1.out _))
          | (go_at_call 13; with_reducible exact Calls.ext _ (HC1.out _))
          | (go_at_call 14; with_reducible exact Calls.ext _ (HC2.out _)))))
    refine wpQuiet_nil ?_
    rintro W8 ⟨n8, hn8⟩
    have b8 : Below W7.heap.size W7 W8 := hn8 ▸ n8.b
    clear hn8 n8
    clear HS1 HC1 HC2 K6 K9 K11 K13 k11 k13 hr11 hr13
    have hbx8 := hbx7.trans (b8.mono hbx7.size)
    replace k6 := Arr.below k6 b8 (Blk.lt k6)
    replace k7 := Arr.below k7 b8 (Blk.lt k7)
    replace k9 := Arr.below k9 b8 (Blk.lt k9)
    replace hr9 := hr9.below b8
    replace hin3 := hin3.below b8
    have K6 : ∀ w', (∃ n : Wx W8, w' = n.w) → Arr w' w.heap.size 26 17 (treeH f (.slice B nx cb)) := fun _ ⟨n, hn⟩ => hn ▸ Arr.below k6 n.b (Blk.lt k6)
    have K7 : ∀ w', (∃ n : Wx W8, w' = n.w) → Arr w' (w.heap.size + 1) 26 17 (treeH g (.slice D ny cd)) := fun _ ⟨n, hn⟩ => hn ▸ Arr.below k7 n.b (Blk.lt k7)
    have K9 : ∀ w', (∃ n : Wx W8, w' = n.w) → Arr w' W1.heap.size 26 17 (treeH f (.slice B1 nx d1)) := fun _ ⟨n, hn⟩ => hn ▸ Arr.below k9 n.b (Blk.lt k9)
    have HS := Lib.hid (fun n : Wx W8 => show Calls Try.prog 15 #[.agg (cellsOf 17 (treeH f (.slice B1 nx d1))), .agg (cellsOf 17 (treeH g (.slice D ny cd)))] n.w (fun e w' => e = .returned (.bool (sameT f g xs ys)) ∧ Below n.w.heap.size n.w w') from tsame_any f g B1 D nx d1 ny cd xs ys n.w (hr9.below n.b) (hD.below (hbx8.trans (n.b.mono hbx8.size))) HN.out.2.1 HN.out.2.2 (by omega) (by omega))
    have HR := Lib.hid (fun n : Wx W8 => show Calls Try.prog 12 #[.agg (cellsOf 17 (treeH f (.slice B nx cb))), .agg (cellsOf 17 (treeH g (.slice D ny cd)))] n.w (fun e w' => e = .returned (.bool (sameT f g xs ys)) ∧ Below n.w.heap.size n.w w') from rsame_any f g B D nx cb ny cd xs ys n.w (hB.below (hbx8.trans (n.b.mono hbx8.size))) (hD.below (hbx8.trans (n.b.mono hbx8.size))) HN.out.2.1 HN.out.2.2 (by omega) (by omega))
    have HS2 := Lib.hid (fun n : Wx W8 => show Calls Try.prog 15 #[.agg (cellsOf 17 (treeH f (.slice B1 nx d1))), .agg (cellsOf 17 (treeH f (.slice B nx cb)))] n.w (fun e w' => e = .returned (.bool true) ∧ Below n.w.heap.size n.w w') from by
      have := tsame_any f f B1 B nx d1 nx cb xs xs n.w (hr9.below n.b) (hB.below (hbx8.trans (n.b.mono hbx8.size))) HN.out.2.1 HN.out.2.1 (by omega) (by omega)
      rw [sameT_refl] at this
      exact this)
    have HR2 := Lib.hid (fun n : Wx W8 => show Calls Try.prog 12 #[.agg (cellsOf 17 (treeH f (.slice B1 nx d1))), .agg (cellsOf 17 (treeH f (.slice B nx cb)))] n.w (fun e w' => e = .returned (.bool true) ∧ Below n.w.heap.size n.w w') from by
      have := rsame_any f f B1 B nx d1 nx cb xs xs n.w (hr9.below n.b) (hB.below (hbx8.trans (n.b.mono hbx8.size))) HN.out.2.1 HN.out.2.1 (by omega) (by omega)
      rw [sameT_refl] at this
      exact this)
    have hcv1 : ∀ n : Wx W8, (convert 22 9 (.slice A3 nl c3)).run Try.prog n.w = .ok (.string (str l)) n.w := fun n => by
      have := conv_bytes (P := Try.prog) n.w 22 5 Try.underlying22 Try.underlying5 9 Try.underlying9 A3 l c3 (rd_u8 (hin3.below n.b) hl.2) (fun h => List.map_eq_nil_iff.1 (hin3.2 h))
      rw [← HN.out.1] at this
      exact this
    have hcv2 : ∀ n : Wx W8, (convert 22 9 (.slice A nl c)).run Try.prog n.w = .ok (.string (str l)) n.w := fun n => by
      have := conv_bytes (P := Try.prog) n.w 22 5 Try.underlying22 Try.underlying5 9 Try.underlying9 A l c (hl.below (hbx8.trans (n.b.mono hbx8.size))) HA.out
      rw [← HN.out.1] at this
      exact this
    go_upto_region 8 with (fail)
    generalize sameT f g xs ys = z at *
    cases z
    all_goals
      refine wp_region_ext (by kernel_rfl) (by kernel_rfl) ?_
      repeat (first
        | (go_big_quiet_want; refine quiet_row 26 (.tmp 9) rfl rfl K9 tree_under rfl tree_size ?_; go_big_quiet_on; simp only [Act.put, List.setIfInBounds_toArray, List.set_cons_zero, List.set_cons_succ])
        | (go_big_quiet_want; refine quiet_row 26 (.tmp 7) rfl rfl K7 tree_under rfl tree_size ?_; go_big_quiet_on; simp only [Act.put, List.setIfInBounds_toArray, List.set_cons_zero, List.set_cons_succ])
        | (go_big_quiet_want; refine quiet_row 26 (.tmp 6) rfl rfl K6 tree_under rfl tree_size ?_; go_big_quiet_on; simp only [Act.put, List.setIfInBounds_toArray, List.set_cons_zero, List.set_cons_succ])
        | (go_big_quiet_step (first
            | (go_at_call 15; with_reducible exact Calls.ext _ (HS.out _))
            | (go_at_call 15; with_reducible exact Calls.ext _ (HS2.out _))
            | (go_at_call 12; with_reducible exact Calls.ext _ (HR.out _))
            | (go_at_call 12; with_reducible exact Calls.ext _ (HR2.out _)))))
      refine wpQuiet_nil ?_
      rintro W9 ⟨n9, hn9⟩
      have b9 : Below W8.heap.size W8 W9 := hn9 ▸ n9.b
      clear hn9 n9
      go_wp2_with fail
      go_ret
      exact ⟨rfl, hbx8.trans (b9.mono hbx8.size)⟩

theorem law_grows (A : Option Addr) (l : List Nat) (c : Nat) (m : Int) (f : Nat → Int) (B : Option Addr) (xs : List Int) (cb : Nat) (g : Nat → Int) (D : Option Addr) (ys : List Int) (cd : Nat) (w : World)
    (hin : InBs w A l) (h1 : -9223372036854775808 ≤ m) (h2 : m ≤ 9223372036854775807) (hB : Rd w B (ints xs)) (hbc : xs.length ≤ cb) (hbm : xs.length ≤ maxLen) (hD : Rd w D (ints ys)) (hdc : ys.length ≤ cd) (hdm : ys.length ≤ maxLen) :
    Calls Try.prog 3 #[.slice A l.length c, .int .i64 m, treeV f B xs.length cb, treeV g D ys.length cd] w fun e w' => e = .returned (.bool true) ∧ Below w.heap.size w w' :=
  law_grows' A l c m f B xs cb g D ys cd w _ _ _ rfl rfl rfl hin.1 hin.2.1 hin.2.2 h1 h2 hB hbc hbm hD hdc hdm
end Go.Proofs.Ytpfhaalbikgmnaa
