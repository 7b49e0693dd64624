/-
  The law CanonCodes, walked; are, eight, alive.
-/
import Derived.Test.YtpfhaalbikgmnaaCanonC
namespace Go.Proofs.Ytpfhaalbikgmnaa
open Go.RowKit

theorem canL_len (l : List Nat) (m : Int) : (canL l m).length ≤ l.length := by
  unfold canL
  split
  · rw [codesL_length]; exact Nat.le_refl _
  · simp

theorem eight_ok : canE [3, 3, 3, 3, 3, 2, 4, 4] 15 = 0 ∧ codesL [3, 3, 3, 3, 3, 2, 4, 4] = [(2, 3), (3, 3), (4, 3), (5, 3), (6, 3), (0, 2), (14, 4), (15, 4)] := by decide +kernel

end Go.Proofs.Ytpfhaalbikgmnaa
