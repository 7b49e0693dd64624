/-
  Walks: swell.New.
-/
import Derived.Test.YtahboomghjdjhaaG37
import Derived.Test.YtahboomghjdjhaaGSwV
namespace Go.Proofs.Ytahboomghjdjhaa
open Go.RowKit

theorem results_two {P : Program} {fn : Func} {p s1 : Tmp} {ty : TypeId} (h : fn.results = #[.cell p ty, .tmp s1]) (tmps : Array Value) (w : World) (g : Nat) (t : TypeId) (cs : Array Value) (v1 : Value) (d : TypeDesc)
    (hp : tmps.getD p undef = .pointer (some ⟨g, 0, none⟩)) (h1 : tmps.getD s1 undef = v1) (hg : Blk w g t cs)
    (hu : P.underlying ty = some d) (hd : (match d with | .struct _ | .array _ _ => true | _ => false) = true) (hi : (P.info? ty).map (·.size) = some cs.size) :
    (results fn tmps).run P w = .ok (.tuple #[.agg cs, v1]) w := by
  have hp' : tmps[p]?.getD undef = .pointer (some ⟨g, 0, none⟩) := by simpa using hp
  have h1' : tmps[s1]?.getD undef = v1 := by simpa using h1
  simp [results, h, hp', h1', asAddr, run_loadVar_row w g t ty cs (0, 0) d hg hu hd hi]
/-- A stream's cells, held as a value. -/
def swH (most made : Int) (inV : Value) (at0 : Int) (bk : Nat → Value) (op : Bool) (size : Int) (winV : Value) (over : Bool) (i : Nat) : Value :=
  if i < 4 then (if i = 0 then .int .i64 most else if i = 1 then .int .i64 made else if i = 2 then inV else .int .i64 at0) else if i < 41 then bk (i - 4) else if i = 41 then .bool op else if i = 42 then .int .i64 size else if i = 43 then winV else .bool over
theorem sw_size : (Try.prog.info? 32).map (·.size) = some 45 := by kernel_rfl
theorem swH_one (most made : Int) (A1 : Option Addr) (n1 c1 : Nat) (at0 : Int) (bk : Bv) (op : Bool) (size : Int) (A2 : Option Addr) (n2 c2 : Nat) (over : Bool) (i : Nat) : (swH most made (.slice A1 n1 c1) at0 bk.F op size (.slice A2 n2 c2) over i).oneCell' = true := by
  unfold swH
  (repeat' split) <;> first | rfl | exact bkH_one _ _ _ _ _ _ _ _ _ _ _ _
abbrev swZ : Nat → Value := swH 0 0 (.slice none 0 0) 0 zeroV.F false 0 (.slice none 0 0) false
abbrev swN (most : Int) : Nat → Value := swH most 0 (.slice none 0 0) 0 zeroV.F false 32768 (.slice none 0 0) false
/-- What New answers. -/
def NewRes (w w' : World) (most : Int) (r : Ending) : Prop := Below w.heap.size w w' ∧ r = .returned (.tuple #[.agg (cellsOf 45 (if 0 ≤ most ∧ most ≤ 131072 then swN most else swZ)), .int .i64 ((if 0 ≤ most ∧ most ≤ 131072 then 0 else 2 : Nat) : Int)])

set_option maxRecDepth 100000 in
set_option maxHeartbeats 4000000 in
theorem snew_any (most : Int) (w : World) : Calls Try.prog 7 #[.int .i64 most] w fun r w' => NewRes w w' most r := by
  have hb0 : Below w.heap.size w (w.alloc (.cells (cellsOf 45 swZ) 32)) := (Below.refl _ _).alloc (Nat.le_refl _) _
  have k0 : Arr (w.alloc (.cells (cellsOf 45 swZ) 32)) w.heap.size 32 45 swZ := Blk.new _ _ _
  go_enter Try.func7, Try.ntmps7
  go_upto_region 1 with (fail)
  change Code.wp _ _ _ _ (w.alloc (.cells (cellsOf 45 swZ) 32))
  generalize w.alloc (.cells (cellsOf 45 swZ) 32) = w0 at *
  by_cases h1 : most < 0
  · have HR := Lib.hid (show ∀ w', Below w.heap.size w w' → NewRes w w' most (.returned (.tuple #[.agg (cellsOf 45 swZ), .int .i64 2])) from fun w' hb => ⟨hb, by rw [if_neg (by omega), if_neg (by omega)]; rfl⟩)
    have e1 : decide (most < 0) = true := decide_eq_true h1
    go_wp2_with (refine store_over rfl 32 (.tmp 2) (.tmp 10) (f := swZ) rfl rfl rfl k0 sw_size (fun i _ => swH_one _ _ _ _ _ _ _ _ _ _ _ _ _ i) ?_; intro w3 k3 g3)
    refine bodyPost_ret (results_two Try.results7 _ _ w.heap.size 32 _ _ _ rfl rfl k3 Try.underlying32 rfl (by rw [cellsOf_size]; exact sw_size)) rfl ?_
    exact HR.out _ (Below.then_only hb0 g3 hb0.size (Nat.le_refl _))
  · have e1 : decide (most < 0) = false := decide_eq_false h1
    by_cases h2 : 131072 < most
    · have HR := Lib.hid (show ∀ w', Below w.heap.size w w' → NewRes w w' most (.returned (.tuple #[.agg (cellsOf 45 swZ), .int .i64 2])) from fun w' hb => ⟨hb, by rw [if_neg (by omega), if_neg (by omega)]; rfl⟩)
      have e2 : decide (131072 < most) = true := decide_eq_true h2
      go_wp2_with (refine store_over rfl 32 (.tmp 2) (.tmp 10) (f := swZ) rfl rfl rfl k0 sw_size (fun i _ => swH_one _ _ _ _ _ _ _ _ _ _ _ _ _ i) ?_; intro w3 k3 g3)
      refine bodyPost_ret (results_two Try.results7 _ _ w.heap.size 32 _ _ _ rfl rfl k3 Try.underlying32 rfl (by rw [cellsOf_size]; exact sw_size)) rfl ?_
      exact HR.out _ (Below.then_only hb0 g3 hb0.size (Nat.le_refl _))
    · have HR := Lib.hid (show ∀ w', Below w.heap.size w w' → NewRes w w' most (.returned (.tuple #[.agg (cellsOf 45 (swN most)), .int .i64 0])) from fun w' hb => ⟨hb, by rw [if_pos (by omega), if_pos (by omega)]; rfl⟩)
      have e2 : decide (131072 < most) = false := decide_eq_false h2
      go_wp2_with (refine store_over rfl 32 (.tmp 2) (.tmp 13) (f := swN most) rfl rfl rfl k0 sw_size (fun i _ => swH_one _ _ _ _ _ _ _ _ _ _ _ _ _ i) ?_; intro w3 k3 g3)
      refine bodyPost_ret (results_two Try.results7 _ _ w.heap.size 32 _ _ _ rfl rfl k3 Try.underlying32 rfl (by rw [cellsOf_size]; exact sw_size)) rfl ?_
      exact HR.out _ (Below.then_only hb0 g3 hb0.size (Nat.le_refl _))
end Go.Proofs.Ytahboomghjdjhaa
