/-
  Walks: slices.Backward of rows.
-/
import Derived.LoopIn
import Derived.LoopNIn
import Derived.Maps.AppendAt
import Derived.OwnWalkIn
import Derived.RangeFuncBound
import Derived.RangeFuncBox
import Derived.RangeFuncCalls
import Derived.RangeFuncLeaves
import Derived.RangeFuncNested
import Derived.Shelf.Abstract
import Derived.Shelf.RegionOpen
import Derived.TacticsInMore
import Derived.Test.YtfcefhaaphieeaaGreatChecked
import Derived.Test.YtfcefhaaphieeaaGreatG05
import Derived.Test.YtfcefhaaphieeaaGreatGRange
import Derived.WalkKit
namespace Go.Proofs.YtfcefhaaphieeaaGreat
open Go.RowKit Go.Shelf
attribute [local go_sem] Oper.semAt_some

/-- L - 1, L - 2, ..: the first k. -/
def bwN (L k : Nat) : List Nat := (List.range k).map fun j => L - 1 - j
theorem bwN_length (L k : Nat) : (bwN L k).length = k := by simp [bwN]
theorem bwN_succ (L k : Nat) : bwN L (k + 1) = bwN L k ++ [L - 1 - k] := by simp [bwN, List.range_succ]
/-- x comes next. -/
def NxB (L : Nat) (pre : List Nat) (x : Nat) : Prop := pre = bwN L pre.length ∧ pre.length < L ∧ x = L - 1 - pre.length
/-- The two blocks lie as they lay. -/
def Kp2 (A B : Nat) (W W' : World) : Prop := W'.heap[A]? = W.heap[A]? ∧ W'.heap[B]? = W.heap[B]?

set_option maxRecDepth 100000 in
set_option maxHeartbeats 2000000 in
theorem bw_rounds (n : Nat) (hn : 1 ≤ n) (Bn RB L cR : Nat) (V : Nat → Value) (w : World) (hL : L ≤ 15) (hBn : Blk w Bn 126 #[.slice (some ⟨RB, 0, none⟩) L cR]) (hR : Arr w RB 127 L V) :
    Rounds Fence.wide n Tryz.prog 91 #[.pointer (some ⟨Bn, 0, none⟩)] (fun x : Nat => #[.int .i64 (x : Int), V x]) (Kp2 Bn RB) (NxB L) (fun xs => xs = bwN L L) w := by
  intro loop J W hW _ hY h0
  have hB1 := Blk.below hBn hW (Blk.lt hBn)
  have hR1 := Arr.below hR hW (Blk.lt hR)
  clear hBn hR hW
  have HY := Lib.hid hY
  clear hY
  refine callsIn_of_wp Tryz.func91 rfl trivial ?_ rfl
  simp only [Tryz.ntmps91, List.size_toArray, List.length_cons, List.length_nil, Nat.reduceAdd, Nat.reduceSub, Array.replicate_succ, Array.replicate_zero, List.push_toArray, List.append_toArray, List.nil_append, List.cons_append]
  have cb := Blk.cells hB1
  gi_wp2
  gi_loopw [3] (fun v wr => ∃ k : Nat, k ≤ L ∧ v = .int .i64 ((L : Int) - 1 - (k : Int)) ∧ J (bwN L k) wr ∧ Blk wr Bn 126 #[.slice (some ⟨RB, 0, none⟩) L cR] ∧ Arr wr RB 127 L V)
    (fun v _ => (intOf v + 1).toNat)
  case atStart => exact ⟨0, by omega, by first | rfl | go_num, h0, hB1, hR1⟩
  case round =>
    clear h0 hB1 hR1 cb
    obtain ⟨k, hk, rfl, hJ, hB1, hR1⟩ := hrel
    have cb := Blk.cells hB1
    by_cases hlt : k < L
    · obtain ⟨x, hx⟩ : ∃ x, L - 1 - k = x := ⟨_, rfl⟩
      have ex : (L : Int) - 1 - (k : Int) = (x : Int) := by omega
      have hxL : x < L := by omega
      have d1 : decide ((x : Int) ≥ 0) = true := decide_eq_true (by omega)
      obtain ⟨fn, tmps, assign, body, hy, hR⟩ := HY.out (bwN L k) x _ hJ ⟨by rw [bwN_length], by rw [bwN_length]; exact hlt, by rw [bwN_length]; exact hx.symm⟩
      (try dsimp only at hy)
      have cx := Arr.cell hR1 x hxL
      have HX := Lib.hid hx
      clear hx
      rw [ex]
      gi_wp2
      refine hR.mono ?_
      rintro e W3 ⟨rfl, hJ3, hk3⟩
      gi_wp2
      go_roundw
      case rel => exact ⟨k + 1, by omega, by (first | rfl | go_num | (congr 1; omega)), by rw [bwN_succ, HX.out]; exact hJ3, hk3.1.trans hB1, hk3.2.trans hR1⟩
      case measure => first | (simp [intOf]; done) | (simp [intOf]; omega)
    · obtain rfl : k = L := by omega
      have d1 : decide ((k : Int) - 1 - (k : Int) ≥ 0) = false := decide_eq_false (by omega)
      have ex : (k : Int) - 1 - (k : Int) = -1 := by omega
      rw [ex]
      gi_wp2
      go_end0
      exact ⟨⟨_, rfl⟩, _, rfl, hJ⟩

theorem backward_is (v : Value) (w : World) (hv : ∃ A n c, v = .slice A n c) :
    Calls Tryz.prog 69 #[v] w fun e w' => e = .returned (.func (.func 91) #[] #[.pointer (some ⟨w.heap.size, 0, none⟩)]) ∧ w' = w.alloc (.cells #[v] 126) := by
  obtain ⟨A, n, c, rfl⟩ := hv
  go_enter Tryz.func69, Tryz.ntmps69
  go_wp2_with fail
  go_ret
  exact ⟨rfl, rfl⟩
end Go.Proofs.YtfcefhaaphieeaaGreat
