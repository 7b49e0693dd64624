/-
  Walks: slices.Clone at bytes, Twin, Same, Check, May.
-/
import Derived.BigQuiet
import Derived.Deep.DeepCutAuto
import Derived.Deep.QuietTactic
import Derived.StillTailTactics
import Derived.Test.YtahboomghjdjhaaGreatG00
import Derived.Test.YtahboomghjdjhaaGreatG09
import Derived.Test.YtahboomghjdjhaaGreatGMem
import Derived.Test.YtahboomghjdjhaaGreatRows
namespace Go.Proofs.YtahboomghjdjhaaGreat
open Go.RowKit

/-- Its errors: 0, or 8. -/
def pchkE (l : List Nat) (n : Int) : Nat := if mayB l n then 0 else 8

end Go.Proofs.YtahboomghjdjhaaGreat

/-
  Walks: a pen's bit.
-/
namespace Go.Proofs.YtahboomghjdjhaaGreat
open Go.RowKit

/-- A pen under way: its struct in block g (of type t), its bytes a row of the call's own. -/
def PenAt (base : Nat) (w : World) (t : TypeId) (g : Nat) (l : List Nat) (n : Nat) : Prop :=
  ∃ A c, Blk w g t #[.slice A l.length c, .int .i64 (n : Int)] ∧ w.ownsRow base 5 1 (.slice A l.length c) l.length (u8s l)

/-- The bytes in which the next bit has its place. -/
def roomL (l : List Nat) (n : Nat) : List Nat := if n % 8 = 0 then l ++ [0] else l
theorem pu8s_set (l : List Nat) (i x : Nat) : (u8s l).set i (.int .u8 (x : Int)) = u8s (l.set i x) := by simp [u8s, List.map_set]
end Go.Proofs.YtahboomghjdjhaaGreat

/-
  Walks: Put, Align.
-/
namespace Go.Proofs.YtahboomghjdjhaaGreat
open Go.RowKit

/-- What a pen's function answers: the pen or the empty one, and the error. -/
def PenRes (w w' : World) (e : Ending) (l : List Nat) (n E : Nat) : Prop :=
  Below w.heap.size w w' ∧ ∃ A c, e = .returned (.tuple #[.agg #[.slice A l.length c, .int .i64 (n : Int)], .int .i64 (E : Int)]) ∧ w'.ownsRow w.heap.size 5 1 (.slice A l.length c) l.length (u8s l)

end Go.Proofs.YtahboomghjdjhaaGreat
