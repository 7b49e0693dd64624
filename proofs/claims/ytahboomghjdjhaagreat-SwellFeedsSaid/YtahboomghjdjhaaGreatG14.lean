/-
  ten, alive: the chapter's pen. Words for the laws without the reference.
-/
import Derived.Test.YtahboomghjdjhaaGreatGOpen
import Derived.Test.YtahboomghjdjhaaGreatGPenD
namespace Go.Proofs.YtahboomghjdjhaaGreat
open Go.RowKit

/-- The chapter's pen. -/
def TenRes (w w' : World) (e : Ending) : Prop :=
  Below w.heap.size w w' ∧ ∃ A c, e = .returned (.tuple #[.agg #[.slice A 2 c, .int .i64 10], .bool true]) ∧ w'.ownsRow w.heap.size 5 1 (.slice A 2 c) 2 (u8s [29, 0])

end Go.Proofs.YtahboomghjdjhaaGreat

/-
  BitsTurned, walked.
-/
namespace Go.Proofs.YtahboomghjdjhaaGreat
open Go.RowKit

end Go.Proofs.YtahboomghjdjhaaGreat
