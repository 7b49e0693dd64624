/-
  Walks: the law TreeFull.
-/
import Derived.Test.YtpfhaalbikgmnaaTreeY
import Derived.Test.YtpfhaalbikgmnaaTreeZ
namespace Go.Proofs.Ytpfhaalbikgmnaa
open Go.RowKit

def anyI (xs : List Int) (s : Int) (k : Nat) : Bool := (List.range k).any fun j => nthI xs j == s
theorem anyI_succ (xs : List Int) (s : Int) (k : Nat) : anyI xs s (k + 1) = (anyI xs s k || (nthI xs k == s)) := by simp [anyI, List.range_succ]
theorem anyI_mem {xs : List Int} {s : Int} (h : s ∈ xs) : anyI xs s xs.length = true := by
  unfold anyI
  rw [List.any_eq_true]
  obtain ⟨j, hj, e⟩ := List.getElem_of_mem h
  exact ⟨j, List.mem_range.2 hj, by simp [nthI, List.getElem?_eq_getElem hj, e]⟩

set_option maxRecDepth 100000 in
set_option maxHeartbeats 4000000 in
theorem law_full' (f : Nat → Int) (B : Option Addr) (xs : List Int) (cb : Nat) (A : Option Addr) (b : List Nat) (c : Nat) (a : Int) (w : World) (nb nx : Nat) (hnb : nb = b.length) (hnx : nx = xs.length)
    (hB : Rd w B (ints xs)) (hbc : nx ≤ cb) (hbm : nx ≤ maxLen) (hl : Bs w A b) (hm : nb ≤ maxLen) (h1 : -9223372036854775808 ≤ a) (h2 : a ≤ 9223372036854775807) :
    Calls Try.prog 6 #[.agg (cellsOf 17 (treeH f (.slice B nx cb))), .slice A nb c, .int .i64 a] w fun e w' => e = .returned (.bool true) ∧ Below w.heap.size w w' := by
  unfold maxLen at hm hbm
  have HN := Lib.hid (And.intro hnb hnx)
  have k3 : Arr (w.alloc (.cells (cellsOf 17 (treeH f (.slice B nx cb))) 26)) w.heap.size 26 17 (treeH f (.slice B nx cb)) := Blk.new _ _ _
  have hb0 : Below w.heap.size w (w.alloc (.cells (cellsOf 17 (treeH f (.slice B nx cb))) 26)) := (Below.refl _ _).alloc (Nat.le_refl _) _
  have MK := Lib.hid (fun (W1 : World) (ka : Arr W1 w.heap.size 26 17 (treeH f (.slice B nx cb))) => (Arr.cell ka 16 (by omega)).trans (congrArg some treeH_16))
  have HV := Lib.hid tree_alive_any
  have hch := fun (hm : nx ≤ 1000) => Lib.hid (fun wx (hr : Rd wx B (ints xs)) => show Calls Try.prog 13 #[.agg (cellsOf 17 (treeH f (.slice B nx cb)))] wx (fun e w' => e = .returned (.int .i64 (chkE f xs : Nat)) ∧ Below wx.heap.size wx w') from tcheck_any f B nx cb xs wx hr hnx hbc (by omega))
  clear hnb hnx
  by_cases hbig : 1000 < nx ∨ 1000 < nb
  · have hcases : 1000 < nx ∨ (¬ 1000 < nx ∧ 1000 < nb) := by omega
    clear hbig hch
    rcases hcases with hq | ⟨hp, hq⟩
    all_goals
      go_enter Try.func6, Try.ntmps6
      go_upto_region 1 with (fail)
      change Code.wp _ _ _ _ (w.alloc (.cells (cellsOf 17 (treeH f (.slice B nx cb))) 26))
      generalize w.alloc (.cells (cellsOf 17 (treeH f (.slice B nx cb))) 26) = W0 at *
      go_wp2_with (go_at_call 19; refine (HV.out _).mono ?_; rintro e W1 ⟨rfl, b1⟩; have hb1 := hb0.trans (b1.mono hb0.size); have c16 := MK.out W1 (Arr.below k3 b1 (Blk.lt k3)))
      go_ret
      exact ⟨rfl, hb1⟩
  · have g1 : nx ≤ 1000 := by omega
    have g2 : nb ≤ 1000 := by omega
    have d1 : decide ((1000 : Int) < (nx : Int)) = false := decide_eq_false (by omega)
    have d2 : decide ((1000 : Int) < (nb : Int)) = false := decide_eq_false (by omega)
    clear hbig
    have HC := hch g1
    clear hch
    by_cases hok : chkE f xs = 0
    · by_cases hx2 : nx < 2
      · rw [hok] at HC
        have d3 : decide ((nx : Int) < 2) = true := decide_eq_true (by omega)
        clear hok
        go_enter Try.func6, Try.ntmps6
        go_upto_region 1 with (fail)
        change Code.wp _ _ _ _ (w.alloc (.cells (cellsOf 17 (treeH f (.slice B nx cb))) 26))
        generalize w.alloc (.cells (cellsOf 17 (treeH f (.slice B nx cb))) 26) = W0 at *
        go_wp2_with (first
          | (go_at_call 19; refine (HV.out _).mono ?_; rintro e W1 ⟨rfl, b1⟩; have hb1 := hb0.trans (b1.mono hb0.size); have k31 := Arr.below k3 b1 (Blk.lt k3); have c16 := MK.out W1 k31; have hx1 := hB.below hb1)
          | (refine load_arrG rfl 26 (.tmp 3) rfl rfl k31 tree_under rfl tree_size ?_)
          | (go_at_call 13; refine (HC.out _ hx1).mono ?_; rintro e W2 ⟨rfl, b2⟩; have hb2 := hb1.trans (b2.mono hb1.size); have c17 := MK.out W2 (Arr.below k31 b2 (Blk.lt k31))))
        go_ret
        exact ⟨rfl, hb2⟩
      · have d3 : decide ((nx : Int) < 2) = false := decide_eq_false (by omega)
        by_cases hin : 0 ≤ a ∧ a ≤ 8 * (nb : Int) - 15
        · obtain ⟨a0, rfl⟩ : ∃ a0 : Nat, a = (a0 : Int) := ⟨a.toNat, by omega⟩
          obtain ⟨i, n, hr, g3, g4, g5⟩ := nx_full (b := b) (a := a0) hok (by rw [← HN.out.2]; omega) (by rw [← HN.out.1]; omega)
          have HX := Lib.hid (fun wx (hr1 : Rd wx B (ints xs)) (h : Bs wx A b) => show Calls Try.prog 20 #[.agg (cellsOf 17 (treeH f (.slice B nx cb))), .slice A nb c, .int .i64 (a0 : Int)] wx (fun e w' => e = .returned (.tuple #[.int .i64 (i : Int), .int .i64 (n : Int), .int .i64 0]) ∧ Below wx.heap.size wx w') from by
            have := tnext_any f B A nx cb nb c xs b a0 wx hr1 HN.out.2 hbc (by omega) h HN.out.1 (by omega) h1 h2
            rw [hr] at this
            exact this)
          have HI := Lib.hid (show anyI xs i nx = true by rw [HN.out.2]; exact anyI_mem g5)
          rw [hok] at HC
          clear hok hr g5
          have d4 : decide ((a0 : Int) < 0) = false := decide_eq_false (by omega)
          have d5 : decide (8 * (nb : Int) - 15 < (a0 : Int)) = false := decide_eq_false (by omega)
          have e1 : decide ((n : Int) ≤ (a0 : Int)) = false := decide_eq_false (by omega)
          have e2 : decide (n ≤ a0) = false := decide_eq_false (by omega)
          go_enter Try.func6, Try.ntmps6
          go_upto_region 1 with (fail)
          change Code.wp _ _ _ _ (w.alloc (.cells (cellsOf 17 (treeH f (.slice B nx cb))) 26))
          generalize w.alloc (.cells (cellsOf 17 (treeH f (.slice B nx cb))) 26) = W0 at *
          go_wp2_with (first
            | (go_at_call 19; refine (HV.out _).mono ?_; rintro e W1 ⟨rfl, b1⟩; have hb1 := hb0.trans (b1.mono hb0.size); have k31 := Arr.below k3 b1 (Blk.lt k3); have c16 := MK.out W1 k31; have hx1 := hB.below hb1)
            | (refine load_arrG rfl 26 (.tmp 3) rfl rfl k31 tree_under rfl tree_size ?_)
            | (go_at_call 13; refine (HC.out _ hx1).mono ?_; rintro e W2 ⟨rfl, b2⟩; have hb2 := hb1.trans (b2.mono hb1.size); have k32 := Arr.below k31 b2 (Blk.lt k31); have c17 := MK.out W2 k32; have hx2 := hB.below hb2; have hl2 := hl.below hb2)
            | (refine load_arr rfl 26 (.tmp 3) rfl rfl k32 tree_under rfl tree_size ?_)
            | (go_at_call 20; refine (HX.out _ hx2 hl2).mono ?_; rintro e W3 ⟨rfl, b3⟩; have hb3 := hb2.trans (b3.mono hb2.size); have k33 := Arr.below k32 b3 (Blk.lt k32); have c18 := MK.out W3 k33; have hx3 := hB.below hb3))
          go_loopg [11, 12] nx (fun gk v11 v12 wr => ∃ (k : Nat) (bb : Bool), k ≤ nx ∧ gk = nx - k ∧ v12 = .int .i64 (k : Int) ∧ v11 = .bool bb ∧ bb = anyI xs i k ∧ wr = W3)
          case atStart => exact ⟨0, false, by omega, rfl, rfl, rfl, rfl, rfl⟩
          case round =>
            obtain ⟨k, bb, hk, hgk, rfl, rfl, hbb, rfl⟩ := hrel
            have HBB := Lib.hid hbb
            clear hbb
            by_cases hlt : k < nx
            · obtain ⟨g, off, rfl, hcell⟩ := hx3.int (i := k) (by rw [← HN.out.2]; exact hlt)
              have HS := Lib.hid (anyI_succ xs i k)
              cases bb
              all_goals
                go_wp2_with fail
                go_roundg (nx - (k + 1))
                case measure => omega
                case rel => exact ⟨k + 1, _, by omega, by omega, by go_num, rfl, by rw [HS.out, ← HBB.out]; simp, rfl⟩
            · obtain rfl : k = nx := by omega
              obtain rfl : bb = true := HBB.out.trans HI.out
              go_wp2_with fail
              go_ret
              exact ⟨rfl, hb3⟩
        · have hcases : a < 0 ∨ (¬ a < 0 ∧ 8 * (nb : Int) - 15 < a) := by omega
          rw [hok] at HC
          clear hok hin
          rcases hcases with hq | ⟨hp, hq⟩
          case' inl => have d4 : decide (a < 0) = true := decide_eq_true hq
          case' inr => have d4 : decide (a < 0) = false := decide_eq_false hp
          all_goals
            go_enter Try.func6, Try.ntmps6
            go_upto_region 1 with (fail)
            change Code.wp _ _ _ _ (w.alloc (.cells (cellsOf 17 (treeH f (.slice B nx cb))) 26))
            generalize w.alloc (.cells (cellsOf 17 (treeH f (.slice B nx cb))) 26) = W0 at *
            go_wp2_with (first
              | (go_at_call 19; refine (HV.out _).mono ?_; rintro e W1 ⟨rfl, b1⟩; have hb1 := hb0.trans (b1.mono hb0.size); have k31 := Arr.below k3 b1 (Blk.lt k3); have c16 := MK.out W1 k31; have hx1 := hB.below hb1)
              | (refine load_arrG rfl 26 (.tmp 3) rfl rfl k31 tree_under rfl tree_size ?_)
              | (go_at_call 13; refine (HC.out _ hx1).mono ?_; rintro e W2 ⟨rfl, b2⟩; have hb2 := hb1.trans (b2.mono hb1.size); have c17 := MK.out W2 (Arr.below k31 b2 (Blk.lt k31))))
            go_ret
            exact ⟨rfl, hb2⟩
    · have hne : (((chkE f xs : Nat) : Int) != 0) = true := by rw [bne_iff_ne]; omega
      generalize chkE f xs = E at *
      clear hok
      go_enter Try.func6, Try.ntmps6
      go_upto_region 1 with (fail)
      change Code.wp _ _ _ _ (w.alloc (.cells (cellsOf 17 (treeH f (.slice B nx cb))) 26))
      generalize w.alloc (.cells (cellsOf 17 (treeH f (.slice B nx cb))) 26) = W0 at *
      go_wp2_with (first
        | (go_at_call 19; refine (HV.out _).mono ?_; rintro e W1 ⟨rfl, b1⟩; have hb1 := hb0.trans (b1.mono hb0.size); have k31 := Arr.below k3 b1 (Blk.lt k3); have c16 := MK.out W1 k31; have hx1 := hB.below hb1)
        | (refine load_arrG rfl 26 (.tmp 3) rfl rfl k31 tree_under rfl tree_size ?_)
        | (go_at_call 13; refine (HC.out _ hx1).mono ?_; rintro e W2 ⟨rfl, b2⟩; have hb2 := hb1.trans (b2.mono hb1.size); have c17 := MK.out W2 (Arr.below k31 b2 (Blk.lt k31))))
      go_ret
      exact ⟨rfl, hb2⟩

theorem law_full (f : Nat → Int) (B : Option Addr) (xs : List Int) (cb : Nat) (A : Option Addr) (b : List Nat) (c : Nat) (a : Int) (w : World)
    (hB : Rd w B (ints xs)) (hbc : xs.length ≤ cb) (hbm : xs.length ≤ maxLen) (hin : InBs w A b) (h1 : -9223372036854775808 ≤ a) (h2 : a ≤ 9223372036854775807) :
    Calls Try.prog 6 #[treeV f B xs.length cb, .slice A b.length c, .int .i64 a] w fun e w' => e = .returned (.bool true) ∧ Below w.heap.size w w' :=
  law_full' f B xs cb A b c a w _ _ rfl rfl hB hbc hbm hin.1 hin.2.2 h1 h2
end Go.Proofs.Ytpfhaalbikgmnaa
