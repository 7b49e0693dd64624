/-
  Slices of structs of two numbers that came in. No program in sight.
-/
import Derived.ChangeSame
import Derived.Deep.Fields
import Derived.Deep.Slices
import Derived.Test.YtahboomghjdjhaaGreatG03
import Derived.Test.YtahboomghjdjhaaGreatGOpen
namespace Go.Proofs.YtahboomghjdjhaaGreat
open Go.Joins Go.ChangeShapes Go.WideShapes Go.ChangeAt Go.RowKit Go.Deep

section
variable {H : Type} {enc : TypeId × Value → H} {P : Program} {w : World} {base : Nat} {spare : Nat → Bool}
end

section
variable {H : Type} {enc : TypeId × Value → H} {P : Program} {w : World} {base : Nat} {spare : Nat → Bool} {r : Reach} {b0 : Nat} {t : TypeId} {v : Value} {d : DataW H} {ps : List MemPlace}
/-- Pairs of numbers that came in. -/
def InPairs (w : World) (A : Option Addr) (l : List (Int × Int)) : Prop :=
  Rd w A (prs (fun r => .int .i64 r.1) (fun r => .int .i64 r.2) l) ∧ l.length ≤ maxLen ∧ ∀ r ∈ l, -9223372036854775808 ≤ r.1 ∧ r.1 ≤ 9223372036854775807 ∧ -9223372036854775808 ≤ r.2 ∧ r.2 ≤ 9223372036854775807

end
end Go.Proofs.YtahboomghjdjhaaGreat
