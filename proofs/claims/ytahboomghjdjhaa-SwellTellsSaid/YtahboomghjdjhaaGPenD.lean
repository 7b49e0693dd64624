/-
  Walks: Align.
-/
import Derived.Deep.AppendLies
import Derived.Deep.RegionHeld3
import Derived.Test.YtahboomghjdjhaaG12
namespace Go.Proofs.Ytahboomghjdjhaa
open Go.RowKit

/-- The reference writes a bit as the program does. -/
theorem set_step (x k : Nat) (hx : x < 256) (hk : k < 8) (h0 : x / 2 ^ k = 0) : IntKind.u8.wrap ((x : Int) + ((2 ^ k : Nat) : Int) % 256) = ((x + 1 * 2 ^ k : Nat) : Int) := by
  obtain ⟨h1, _⟩ := low_bits x hx k hk h0 1 (by omega)
  rw [IntKind.wrap_u8]
  omega

end Go.Proofs.Ytahboomghjdjhaa
