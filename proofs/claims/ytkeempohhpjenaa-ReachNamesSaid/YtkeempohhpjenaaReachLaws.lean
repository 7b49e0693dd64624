/-
  The laws of reach, walked.
-/
import Derived.Test.YtkeempohhpjenaaReachT
import Derived.Test.YtkeempohhpjenaaReachU
import Derived.Test.YtkeempohhpjenaaReachM
import Derived.Test.YtkeempohhpjenaaOpen
namespace Go.Proofs.Ytkeempohhpjenaa
open Go.RowKit

/-- The reference's Long tells what the table tells. -/
theorem rLong_any (n : Int) (w : World) :
    Calls Try.prog 9 #[.int .i64 n] w fun e w' => 
      e = .returned (.tuple #[.int .i64 (tellT 257 longT n).1, .int .i64 (tellT 257 longT n).2.1, .int .i64 (tellT 257 longT n).2.2.1, .int .i64 (tellT 257 longT n).2.2.2]) ∧ Below w.heap.size w w' := by
  have l0 : lst longT 0 = 3 := rfl
  have l1 : endT longT = 259 := rfl
  by_cases h : n < 3 ∨ 258 < n
  · rw [tell_out rising_long 257 n (by omega)]
    exact rlong_bad n w h
  · obtain ⟨i, hi, h1, h2, h3, h4⟩ := tell_in rising_long 257 n (by omega) (by omega)
    rw [h4]
    have := rlong_ok n w (by omega) (by omega)
    rw [show (29 : Nat) = longT.length from rfl, ← h3] at this
    exact this
theorem rFar_any (n : Int) (w : World) :
    Calls Try.prog 11 #[.int .i64 n] w fun e w' => 
      e = .returned (.tuple #[.int .i64 (tellT 0 farT n).1, .int .i64 (tellT 0 farT n).2.1, .int .i64 (tellT 0 farT n).2.2.1, .int .i64 (tellT 0 farT n).2.2.2]) ∧ Below w.heap.size w w' := by
  have l0 : lst farT 0 = 1 := rfl
  have l1 : endT farT = 32769 := rfl
  by_cases h : n < 1 ∨ 32768 < n
  · rw [tell_out rising_far 0 n (by omega)]
    exact rfar_bad n w h
  · obtain ⟨i, hi, h1, h2, h3, h4⟩ := tell_in rising_far 0 n (by omega) (by omega)
    rw [h4]
    have := rfar_ok n w (by omega) (by omega)
    rw [show (30 : Nat) = farT.length from rfl, ← h3] at this
    exact this

set_option maxHeartbeats 1000000 in
theorem tells_walk (n : Int) (w : World) (h1 : -9223372036854775808 ≤ n) (h2 : n ≤ 9223372036854775807) :
    Calls Try.prog 3 #[.int .i64 n] w fun e w' => e = .returned (.bool true) ∧ Below w.heap.size w w' := by
  go_enter Try.func3, Try.ntmps3
  go_wp2_with fail
  refine (Long_any n _ h1 h2).mono ?_
  rintro e w1 ⟨rfl, hb1⟩
  go_wp2_with fail
  refine (rLong_any n _).mono ?_
  rintro e w2 ⟨rfl, hb2⟩
  go_wp2_with fail
  refine (Far_any n _ h1 h2).mono ?_
  rintro e w3 ⟨rfl, hb3⟩
  go_wp2_with fail
  refine (rFar_any n _).mono ?_
  rintro e w4 ⟨rfl, hb4⟩
  have b2 := hb1.trans (hb2.mono hb1.size)
  have b3 := b2.trans (hb3.mono b2.size)
  have b4 := b3.trans (hb4.mono b3.size)
  clear hb1 hb2 hb3 hb4 b2 b3
  generalize tellT 257 longT n = x at *
  generalize tellT 0 farT n = y at *
  go_wp2_with fail
  go_ret
  exact ⟨rfl, b4⟩
end Go.Proofs.Ytkeempohhpjenaa
