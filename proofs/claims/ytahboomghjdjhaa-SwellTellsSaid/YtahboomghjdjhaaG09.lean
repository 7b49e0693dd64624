/-
  Walks: bits.Take: what it answers where it takes, and where it refuses.
-/
import Derived.Test.YtahboomghjdjhaaG00
import Derived.Test.YtahboomghjdjhaaRows
namespace Go.Proofs.Ytahboomghjdjhaa
open Go.RowKit

set_option maxHeartbeats 400000 in
theorem take_arg (A : Option Addr) (c : Nat) (l : List Nat) (at_ n : Int) (w : World) (_ : l.length ≤ 1000000000)
    (h2 : at_ ≤ 9223372036854775807) (h : at_ < 0 ∨ n < 0 ∨ 32 < n) :
    Calls Try.prog 59 #[.slice A l.length c, .int .i64 at_, .int .i64 n] w fun e w' => e = .returned (.tuple #[.int .u32 (0 : Nat), .int .i64 (2 : Nat)]) ∧ w = w' := by
  by_cases ha : at_ < 0
  · go_enter Try.func59, Try.ntmps59
    go_wp2
    go_ret2
    exact ⟨rfl, rfl⟩
  · by_cases hb : n < 0
    · go_enter Try.func59, Try.ntmps59
      go_wp2
      go_ret2
      exact ⟨rfl, rfl⟩
    · have hc : 32 < n := by omega
      clear h
      go_enter Try.func59, Try.ntmps59
      go_wp2
      go_ret2
      exact ⟨rfl, rfl⟩

set_option maxHeartbeats 400000 in
theorem take_end (A : Option Addr) (c : Nat) (l : List Nat) (at_ n : Int) (w : World) (hm : l.length ≤ 1000000000)
    (h0 : 0 ≤ at_) (h1 : 0 ≤ n) (h2 : n ≤ 32) (h3 : 8 * (l.length : Int) - n < at_) :
    Calls Try.prog 59 #[.slice A l.length c, .int .i64 at_, .int .i64 n] w fun e w' => e = .returned (.tuple #[.int .u32 (0 : Nat), .int .i64 (10 : Nat)]) ∧ w = w' := by
  go_enter Try.func59, Try.ntmps59
  go_wp2
  go_ret2
  exact ⟨rfl, rfl⟩

set_option maxHeartbeats 400000 in
theorem take_ok (A : Option Addr) (c : Nat) (l : List Nat) (a n : Nat) (w : World) (hl : Bs w A l) (hm : l.length ≤ 1000000000)
    (h1 : n ≤ 32) (h3 : a + n ≤ 8 * l.length) :
    Calls Try.prog 59 #[.slice A l.length c, .int .i64 a, .int .i64 n] w fun e w' => e = .returned (.tuple #[.int .u32 (numOf l a n : Nat), .int .i64 0]) ∧ w = w' := by
  go_enter Try.func59, Try.ntmps59
  go_wp2
  go_loop [6, 27] (fun v i => ∃ k : Nat, k ≤ n ∧ i = .int .i64 k ∧ v = .int .u32 (numOf l a k : Nat)) (fun _ i => n - (intOf i).toNat)
  case atStart => exact ⟨0, by omega, rfl, rfl⟩
  case round =>
    obtain ⟨k, hk, rfl, rfl⟩ := hrel
    by_cases hlt : k < n
    · obtain ⟨b, off, rfl, hc, hb⟩ := hl.at_ (show (a + k) / 8 < l.length by omega)
      have h8 : (a + k) / 8 < l.length := by omega
      go_wp2
      go_round
      case rel => 
        refine ⟨k + 1, by omega, by go_num, ?_⟩
        rw [take_step l a k (by omega) hb]
      case measure => simp [intOf]; omega
    · go_wp2
      go_ret2
      exact ⟨ret_two (by rw [show n = k by omega]) rfl, rfl⟩
end Go.Proofs.Ytahboomghjdjhaa

/-
  Walks: number, Turn, and the reference's power, Bit, Number, Take, fits, Turned, Turn.
-/
namespace Go.Proofs.Ytahboomghjdjhaa
open Go.RowKit

/-- Take and its reference tell the same. -/
theorem take_any (A : Option Addr) (c : Nat) (l : List Nat) (at_ n : Int) (w : World) (hl : Bs w A l) (hm : l.length ≤ 1000000000)
    (h1 : -9223372036854775808 ≤ at_) (h2 : at_ ≤ 9223372036854775807) :
    Calls Try.prog 59 #[.slice A l.length c, .int .i64 at_, .int .i64 n] w fun e w' => e = .returned (.tuple #[.int .u32 (takeV l at_ n : Nat), .int .i64 (takeE l at_ n : Nat)]) ∧ w = w' := by
  unfold takeV takeE
  by_cases ha : at_ < 0 ∨ n < 0 ∨ 32 < n
  · simp only [if_pos ha]
    exact take_arg A c l at_ n w hm h2 ha
  · simp only [if_neg ha]
    by_cases hb : 8 * (l.length : Int) - n < at_
    · simp only [if_pos hb]
      exact take_end A c l at_ n w hm (by omega) (by omega) (by omega) hb
    · simp only [if_neg hb]
      obtain ⟨a, rfl⟩ := Int.eq_ofNat_of_zero_le (a := at_) (by omega)
      obtain ⟨m, rfl⟩ := Int.eq_ofNat_of_zero_le (a := n) (by omega)
      exact take_ok A c l a m w hl hm (by omega) (by omega)

end Go.Proofs.Ytahboomghjdjhaa
