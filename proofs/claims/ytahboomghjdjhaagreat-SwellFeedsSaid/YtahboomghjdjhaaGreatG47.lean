/-
  Walks: a stored block's text; what is wrong with a block.
-/
import Derived.Test.YtahboomghjdjhaaGreatG33
import Derived.Test.YtahboomghjdjhaaGreatG46
import Derived.Test.YtahboomghjdjhaaGreatGBlkE
namespace Go.Proofs.YtahboomghjdjhaaGreat
open Go.RowKit

/-! ### What is wrong -/
/-- A token's cells. -/
def tkV (l : List Tk) : List Value := l.flatMap fun t => [.int .u8 ((t.lit : Nat) : Int), .int .i64 t.dist, .int .i64 t.long]
/-- Numbers that fit a token's fields. -/
def TkN (t : Tk) : Prop := t.lit < 256 ∧ -9223372036854775808 ≤ t.dist ∧ t.dist ≤ 9223372036854775807 ∧ -9223372036854775808 ≤ t.long ∧ t.long ≤ 9223372036854775807
def tkVal (t : Tk) : Value := .agg #[.int .u8 ((t.lit : Nat) : Int), .int .i64 t.dist, .int .i64 t.long]

end Go.Proofs.YtahboomghjdjhaaGreat

/-
  Walks: slices.IndexFunc, slices.ContainsFunc over tokens; asked.
-/
namespace Go.Proofs.YtahboomghjdjhaaGreat
open Go.RowKit

/-- What is wrong with a block: of so many bytes. -/
def askK (kind rn : Nat) (l : List Tk) : Nat := if 2 < kind then 2 else if 65535 < rn ∨ 65535 < l.length then 4 else if l.all tkB = true then 0 else 8

end Go.Proofs.YtahboomghjdjhaaGreat

/-
  Walks: the document's own numbers: Bits, cut, May, Asked, Order.
-/
namespace Go.Proofs.YtahboomghjdjhaaGreat
open Go.RowKit

set_option maxRecDepth 100000 in
set_option maxHeartbeats 1000000 in
theorem rorder_any (w : World) : Calls Tryz.prog 90 #[] w fun e w' => e = .returned (.agg orderV) ∧ Below w.heap.size w w' := by
  go_enter Tryz.func90, Tryz.ntmps90
  go_wp2_with (first
    | (refine wpList_build_to rfl _ _ rfl orderV (by kernel_rfl) ?_)
    | (refine wpList_store_new rfl _ _ _ rfl _ orderV rfl rfl (by simp) _ _ (by kernel_rfl) rfl (by kernel_rfl) ?_))
  exact bodyPost_ret (results_one_row Tryz.results90 _ _ w.heap.size 149 orderV _ rfl (Blk.new' _ _ _ _ rfl) Tryz.underlying149 rfl (by kernel_rfl)) rfl ⟨rfl, (Below.refl _ _).alloc (Nat.le_refl _) _⟩
end Go.Proofs.YtahboomghjdjhaaGreat
