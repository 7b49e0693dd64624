/-
  Walks: Align.
-/
import Derived.Test.YtpfhaalbikgmnaaPenC
import Derived.Deep.RegionHeld3
import Derived.Deep.AppendLies
namespace Go.Proofs.Ytpfhaalbikgmnaa
open Go.RowKit

/-- The reference writes a bit as the program does. -/
theorem set_step (x k : Nat) (hx : x < 256) (hk : k < 8) (h0 : x / 2 ^ k = 0) : IntKind.u8.wrap ((x : Int) + ((2 ^ k : Nat) : Int) % 256) = ((x + 1 * 2 ^ k : Nat) : Int) := by
  obtain ⟨h1, _⟩ := low_bits x hx k hk h0 1 (by omega)
  rw [IntKind.wrap_u8]
  omega

theorem power_at (k : Nat) (m : Int) (w : World) (hk : k ≤ 32) (hm : m = k) :
    Calls Try.prog 49 #[.int .i64 m] w fun e w' => e = .returned (.int .u64 ((2 ^ k : Nat) : Int)) ∧ w = w' := by
  subst hm; exact power_any k w hk

end Go.Proofs.Ytpfhaalbikgmnaa
