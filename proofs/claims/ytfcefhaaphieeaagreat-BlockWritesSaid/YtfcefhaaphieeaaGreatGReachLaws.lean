/-
  The laws of reach, walked.
-/
import Derived.Test.YtfcefhaaphieeaaGreatG06
import Derived.Test.YtfcefhaaphieeaaGreatG07
import Derived.Test.YtfcefhaaphieeaaGreatGOpen
namespace Go.Proofs.YtfcefhaaphieeaaGreat
open Go.RowKit

/-- The reference's Long tells what the table tells. -/
theorem rLong_any (n : Int) (w : World) :
    Calls Tryz.prog 53 #[.int .i64 n] w fun e w' => 
      e = .returned (.tuple #[.int .i64 (tellT 257 longT n).1, .int .i64 (tellT 257 longT n).2.1, .int .i64 (tellT 257 longT n).2.2.1, .int .i64 (tellT 257 longT n).2.2.2]) ∧ Below w.heap.size w w' := by
  have l0 : lst longT 0 = 3 := rfl
  have l1 : rendT longT = 259 := rfl
  by_cases h : n < 3 ∨ 258 < n
  · rw [tell_out rising_long 257 n (by omega)]
    exact rlong_bad n w h
  · obtain ⟨i, hi, h1, h2, h3, h4⟩ := tell_in rising_long 257 n (by omega) (by omega)
    rw [h4]
    have := rlong_ok n w (by omega) (by omega)
    rw [show (29 : Nat) = longT.length from rfl, ← h3] at this
    exact this
theorem rFar_any (n : Int) (w : World) :
    Calls Tryz.prog 54 #[.int .i64 n] w fun e w' => 
      e = .returned (.tuple #[.int .i64 (tellT 0 farT n).1, .int .i64 (tellT 0 farT n).2.1, .int .i64 (tellT 0 farT n).2.2.1, .int .i64 (tellT 0 farT n).2.2.2]) ∧ Below w.heap.size w w' := by
  have l0 : lst farT 0 = 1 := rfl
  have l1 : rendT farT = 32769 := rfl
  by_cases h : n < 1 ∨ 32768 < n
  · rw [tell_out rising_far 0 n (by omega)]
    exact rfar_bad n w h
  · obtain ⟨i, hi, h1, h2, h3, h4⟩ := tell_in rising_far 0 n (by omega) (by omega)
    rw [h4]
    have := rfar_ok n w (by omega) (by omega)
    rw [show (30 : Nat) = farT.length from rfl, ← h3] at this
    exact this

end Go.Proofs.YtfcefhaaphieeaaGreat
