/-
  Walks: byLength's closure, byLength.
-/
import Derived.Test.YtpfhaalbikgmnaaRows
import Derived.Test.YtpfhaalbikgmnaaCanonA
import Derived.Test.YtpfhaalbikgmnaaTreeM
import Derived.RangeFuncNested
import Derived.RangeFuncBound
import Derived.RangeFuncCalls
import Derived.RangeFuncLeaves
import Derived.RangeFuncBox
import Derived.Shelf.Abstract
import Derived.Shelf.RegionOpen
import Derived.WalkKit
import Derived.OwnWalkIn
import Derived.TacticsInMore
import Derived.LoopNIn
import Derived.LoopIn
import Derived.Maps.AppendAt
namespace Go.Proofs.Ytpfhaalbikgmnaa
open Go.RowKit Go.Shelf
attribute [local go_sem] Oper.semAt_some

/-- What a round keeps: all below, and the box. -/
def KpB (n₀ Bn : Nat) (W W' : World) : Prop := Below n₀ W W' ∧ W'.heap[Bn]? = W.heap[Bn]?

set_option maxRecDepth 100000 in
set_option maxHeartbeats 2000000 in
theorem by1_in (n : Nat) (hn : 1 ≤ n) (loop Bn n₀ : Nat) (A : Option Addr) (c : Nat) (l : List Nat) (W0 : World) (hn₀ : W0.heap.size ≤ n₀) (hl : Bs W0 A l) (hm : l.length ≤ 1001) (J Jx : List (Nat × Nat) → World → Prop)
    (hY : ∀ pre x W, J pre W → pre.length < 16 * l.length → x.1 < 16 → x.2 < l.length → YieldAt Fence.wide (n - 1) Try.prog loop #[.int .u8 (x.1 : Int), .int .i64 (x.2 : Int)] W fun e W' =>
      (e = .returned (.bool true) ∧ J (pre ++ [x]) W' ∧ KpB n₀ Bn W W') ∨ (e = .returned (.bool false) ∧ Jx (pre ++ [x]) W'))
    (W : World) (hB : Below n₀ W0 W) (hBn : Blk W Bn 22 #[.slice A l.length c]) (h0 : J [] W) :
    CallsIn Fence.wide n Try.prog 43 #[.func (.yield loop) #[] #[], .pointer (some ⟨Bn, 0, none⟩)] W fun e W' => (∃ v, e = .returned v) ∧
      ((∃ ys, ys = allP l 16 ∧ J ys W') ∨ (∃ pre, True ∧ Jx pre W')) := by
  refine callsIn_of_wp Try.func43 rfl trivial ?_ rfl
  simp only [Try.ntmps43, List.size_toArray, List.length_cons, List.length_nil, Nat.reduceAdd, Nat.reduceSub, Array.replicate_succ, Array.replicate_zero, List.push_toArray, List.append_toArray, List.nil_append, List.cons_append]
  gi_wp2
  gi_loopw [6] (fun v wr => ∃ k : Nat, k ≤ 16 ∧ v = .int .u8 (k : Int) ∧ J (allP l k) wr ∧ Below n₀ W0 wr ∧ Blk wr Bn 22 #[.slice A l.length c])
    (fun v _ => 16 - (intOf v).toNat)
  case atStart => exact ⟨0, by omega, rfl, h0, hB, hBn⟩
  case round =>
    obtain ⟨k, hk, rfl, hJ, hb, hbox⟩ := hrel
    have cb := Blk.cells hbox
    by_cases hlt : k < 16
    · have hd : decide ((k : Int) < 16) = true := decide_eq_true (by omega)
      gi_wp2
      gi_loopw [11] (fun v wr => ∃ j : Nat, j ≤ l.length ∧ v = .int .i64 (j : Int) ∧ J (part l k j) wr ∧ Below n₀ W0 wr ∧ Blk wr Bn 22 #[.slice A l.length c])
        (fun v _ => l.length - (intOf v).toNat)
      case atStart => exact ⟨0, by omega, rfl, by rw [part_zero]; exact hJ, hb, hbox⟩
      case round =>
        clear hJ hb hbox cb
        obtain ⟨j, hj, rfl, hJ, hb, hbox⟩ := hrel
        by_cases hjl : j < l.length
        · obtain ⟨b, off, rfl, hc, hx⟩ := (hl.below (hb.mono hn₀)).at_ hjl
          by_cases hit : nth l j = k ∧ k ≠ 0
          · obtain ⟨fn, tmps, assign, body, hy, hR⟩ := hY _ (k, j) _ hJ (part_len hlt hjl) hlt hjl
            dsimp only at hy
            have e1 : (((nth l j : Nat) : Int) == (k : Int)) = true := by rw [beq_iff_eq]; omega
            have e2 : 0 < (k : Int) := by omega
            have HIT := Lib.hid (part_hit hit.1 hit.2)
            clear hit
            generalize nth l j = x at *
            gi_wp2
            refine hR.mono ?_
            rintro e W3 (⟨rfl, hJ3, hk3⟩ | ⟨rfl, hJx3⟩)
            · gi_wp2
              go_roundw
              case rel => exact ⟨j + 1, by omega, by go_num, by rw [HIT.out]; exact hJ3, hb.trans hk3.1, hk3.2.trans hbox⟩
              case measure => simp [intOf]; omega
            · gi_wp2
              refine bodyPost_ret (results_none rfl _ _ _) rfl ?_
              exact ⟨⟨_, rfl⟩, .inr ⟨_, trivial, hJx3⟩⟩
          · have HM := Lib.hid (part_miss hit)
            by_cases he : nth l j = k
            · have hk0 : ¬ 0 < k := fun h => hit ⟨he, by omega⟩
              have e1 : (((nth l j : Nat) : Int) == (k : Int)) = true := by rw [beq_iff_eq]; omega
              have e2 : decide (0 < (k : Int)) = false := decide_eq_false (by omega)
              have e3 : decide (0 < k) = false := decide_eq_false (by omega)
              clear hk0
              clear hit he
              generalize nth l j = x at *
              gi_wp2
              refine ⟨fun _ h => (by cases h), ?_⟩
              gi_wp2
              go_roundw
              case rel => exact ⟨j + 1, by omega, by go_num, by rw [HM.out]; exact hJ, hb, hbox⟩
              case measure => simp [intOf]; omega
            · have e1 : (((nth l j : Nat) : Int) == (k : Int)) = false := by rw [beq_eq_false_iff_ne]; omega
              clear hit he
              generalize nth l j = x at *
              gi_wp2
              refine ⟨fun _ h => (by cases h), ?_⟩
              gi_wp2
              go_roundw
              case rel => exact ⟨j + 1, by omega, by go_num, by rw [HM.out]; exact hJ, hb, hbox⟩
              case measure => simp [intOf]; omega
        · obtain rfl : j = l.length := by omega
          gi_wp2
          go_roundw
          case rel => exact ⟨k + 1, by omega, by go_num, by rw [← part_full]; exact hJ, hb, hbox⟩
          case measure => simp [intOf]; omega
    · obtain rfl : k = 16 := by omega
      gi_wp2
      go_end0
      exact ⟨⟨_, rfl⟩, .inl ⟨_, rfl, hJ⟩⟩

theorem byLength_any (A : Option Addr) (c n : Nat) (w : World) :
    Calls Try.prog 27 #[.slice A n c] w fun e w' => e = .returned (.func (.func 43) #[] #[.pointer (some ⟨w.heap.size, 0, none⟩)]) ∧ w' = w.alloc (.cells #[.slice A n c] 22) := by
  go_enter Try.func27, Try.ntmps27
  go_wp2_with fail
  go_ret
  exact ⟨rfl, rfl⟩

/-- What the closure hands on: a length and a symbol. -/
abbrev Sy := { x : Nat × Nat // x.1 < 16 ∧ x.2 ≤ 1001 }
def syL (ys : List Sy) : List (Nat × Nat) := ys.map (·.1)

theorem by_stops (n : Nat) (hn : 1 ≤ n) (Bn n₀ : Nat) (A : Option Addr) (c : Nat) (l : List Nat) (W0 w : World) (h0 : W0.heap.size ≤ n₀) (hb0 : Below n₀ W0 w) (hn₀ : n₀ ≤ w.heap.size) (hl : Bs W0 A l) (hm : l.length ≤ 1001)
    (hBn : Blk w Bn 22 #[.slice A l.length c]) :
    SeqStopsK Fence.wide n Try.prog 43 #[.pointer (some ⟨Bn, 0, none⟩)] (fun x : Sy => #[.int .u8 (x.1.1 : Int), .int .i64 (x.1.2 : Int)]) (KpB n₀ Bn) (fun ys => syL ys = allP l 16) (fun _ => True) (16 * l.length) w := fun loop J Jx W hW _ _ hY hJ => by
  refine (by1_in n hn loop Bn n₀ A c l W0 h0 hl hm (fun pre W => ∃ ys, syL ys = pre ∧ J ys W) (fun pre W => ∃ ys, syL ys = pre ∧ Jx ys W) ?_ W (hb0.trans (hW.mono hn₀)) (Blk.below hBn hW (Blk.lt hBn)) ⟨[], rfl, hJ⟩).mono ?_
  · rintro pre x W1 ⟨ys, rfl, hj⟩ hlen h1 h2
    obtain ⟨fn, tmps, assign, body, hy, hR⟩ := hY ys ⟨x, h1, by omega⟩ W1 hj (by simpa [syL] using hlen)
    refine ⟨fn, tmps, assign, body, hy, hR.mono ?_⟩
    rintro e W' (⟨rfl, hJ', hk⟩ | ⟨rfl, hJ'⟩)
    · exact .inl ⟨rfl, ⟨_, by simp [syL], hJ'⟩, hk⟩
    · exact .inr ⟨rfl, ⟨_, by simp [syL], hJ'⟩⟩
  · rintro e W' ⟨hv, ⟨ys, rfl, zs, hz, hj⟩ | ⟨pre, -, zs, hz, hj⟩⟩
    · exact ⟨hv, .inl ⟨zs, hz, hj⟩⟩
    · exact ⟨hv, .inr ⟨zs, trivial, hj⟩⟩

theorem kpB_t {n₀ Bn : Nat} {A B C : World} (h : KpB n₀ Bn A B) (k : KpB n₀ Bn B C) : KpB n₀ Bn A C := ⟨h.1.trans k.1, k.2.trans h.2⟩
theorem kpB_b {n₀ Bn : Nat} {w : World} (hn : n₀ ≤ w.heap.size) (hBn : Bn < w.heap.size) (W : World) (l : Nat) (o o' : Obj) (hl : w.heap.size ≤ l) (h : W.heap[l]? = some o) (h1 : o.isCells = false) (h2 : o.isWalk = false) : KpB n₀ Bn W (W.putObj l o') :=
  ⟨belowK_b hn W l o o' hl h h1 h2, (belowK_b (w := w) (n₀ := w.heap.size) (Nat.le_refl _) W l o o' hl h h1 h2).block Bn hBn⟩
end Go.Proofs.Ytpfhaalbikgmnaa
