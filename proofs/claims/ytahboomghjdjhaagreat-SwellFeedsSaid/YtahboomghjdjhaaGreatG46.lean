/-
  Walks: a block's text: how many lengths are told, numbers put behind, a code put behind, how many bits there are.
-/
import Derived.Test.YtahboomghjdjhaaGreatG05
import Derived.Test.YtahboomghjdjhaaGreatG09
import Derived.Test.YtahboomghjdjhaaGreatG25
import Derived.Test.YtahboomghjdjhaaGreatG29
namespace Go.Proofs.YtahboomghjdjhaaGreat
open Go.RowKit

/-- Numbers, cell by cell. -/
def nbV (L : List (Nat × Nat)) : List Value := prs (fun x => .int .u32 ((x.1 : Nat) : Int)) (fun x => .int .i64 ((x.2 : Nat) : Int)) L
section
variable {W w w' w'' : World} {g : Nat} {L : List (Nat × Nat)}
end

end Go.Proofs.YtahboomghjdjhaaGreat

/-
  Walks: told, code, long of a block's text.
-/
namespace Go.Proofs.YtahboomghjdjhaaGreat
open Go.RowKit

end Go.Proofs.YtahboomghjdjhaaGreat
