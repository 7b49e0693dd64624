/-
  Walks: bits.Take: what it answers where it takes, and where it refuses.
-/
import Derived.Test.YtahboomghjdjhaaGreatG00
import Derived.Test.YtahboomghjdjhaaGreatRows
namespace Go.Proofs.YtahboomghjdjhaaGreat
open Go.RowKit

set_option maxHeartbeats 400000 in
theorem take_arg (A : Option Addr) (c : Nat) (l : List Nat) (at_ n : Int) (w : World) (_ : l.length ≤ 1000000000)
    (h2 : at_ ≤ 9223372036854775807) (h : at_ < 0 ∨ n < 0 ∨ 32 < n) :
    Calls Tryz.prog 98 #[.slice A l.length c, .int .i64 at_, .int .i64 n] w fun e w' => e = .returned (.tuple #[.int .u32 (0 : Nat), .int .i64 (2 : Nat)]) ∧ w = w' := by
  by_cases ha : at_ < 0
  · go_enter Tryz.func98, Tryz.ntmps98
    go_wp2
    go_ret2
    exact ⟨rfl, rfl⟩
  · by_cases hb : n < 0
    · go_enter Tryz.func98, Tryz.ntmps98
      go_wp2
      go_ret2
      exact ⟨rfl, rfl⟩
    · have hc : 32 < n := by omega
      clear h
      go_enter Tryz.func98, Tryz.ntmps98
      go_wp2
      go_ret2
      exact ⟨rfl, rfl⟩

set_option maxHeartbeats 400000 in
theorem take_end (A : Option Addr) (c : Nat) (l : List Nat) (at_ n : Int) (w : World) (hm : l.length ≤ 1000000000)
    (h0 : 0 ≤ at_) (h1 : 0 ≤ n) (h2 : n ≤ 32) (h3 : 8 * (l.length : Int) - n < at_) :
    Calls Tryz.prog 98 #[.slice A l.length c, .int .i64 at_, .int .i64 n] w fun e w' => e = .returned (.tuple #[.int .u32 (0 : Nat), .int .i64 (10 : Nat)]) ∧ w = w' := by
  go_enter Tryz.func98, Tryz.ntmps98
  go_wp2
  go_ret2
  exact ⟨rfl, rfl⟩

set_option maxHeartbeats 400000 in
theorem take_ok (A : Option Addr) (c : Nat) (l : List Nat) (a n : Nat) (w : World) (hl : Bs w A l) (hm : l.length ≤ 1000000000)
    (h1 : n ≤ 32) (h3 : a + n ≤ 8 * l.length) :
    Calls Tryz.prog 98 #[.slice A l.length c, .int .i64 a, .int .i64 n] w fun e w' => e = .returned (.tuple #[.int .u32 (numOf l a n : Nat), .int .i64 0]) ∧ w = w' := by
  go_enter Tryz.func98, Tryz.ntmps98
  go_wp2
  go_loop [6, 27] (fun v i => ∃ k : Nat, k ≤ n ∧ i = .int .i64 k ∧ v = .int .u32 (numOf l a k : Nat)) (fun _ i => n - (intOf i).toNat)
  case atStart => exact ⟨0, by omega, rfl, rfl⟩
  case round =>
    obtain ⟨k, hk, rfl, rfl⟩ := hrel
    by_cases hlt : k < n
    · obtain ⟨b, off, rfl, hc, hb⟩ := hl.at_ (show (a + k) / 8 < l.length by omega)
      have h8 : (a + k) / 8 < l.length := by omega
      go_wp2
      go_round
      case rel => 
        refine ⟨k + 1, by omega, by go_num, ?_⟩
        rw [take_step l a k (by omega) hb]
      case measure => simp [intOf]; omega
    · go_wp2
      go_ret2
      exact ⟨ret_two (by rw [show n = k by omega]) rfl, rfl⟩
end Go.Proofs.YtahboomghjdjhaaGreat

/-
  Walks: number, Turn, and the reference's power, Bit, Number, Take, fits, Turned, Turn.
-/
namespace Go.Proofs.YtahboomghjdjhaaGreat
open Go.RowKit

set_option maxHeartbeats 400000 in
theorem power_any (n : Nat) (w : World) (hn : n ≤ 32) :
    Calls Tryz.prog 89 #[.int .i64 n] w fun e w' => e = .returned (.int .u64 ((2 ^ n : Nat) : Int)) ∧ w = w' := by
  go_enter Tryz.func89, Tryz.ntmps89
  go_wp2
  go_loop [3, 4] (fun p i => ∃ k : Nat, k ≤ n ∧ i = .int .i64 k ∧ p = .int .u64 ((2 ^ k : Nat) : Int)) (fun _ i => n - (intOf i).toNat)
  case atStart => exact ⟨0, by omega, rfl, rfl⟩
  case round =>
    obtain ⟨k, hk, rfl, rfl⟩ := hrel
    by_cases hlt : k < n
    · have hp : 2 ^ k ≤ 2 ^ 31 := Nat.pow_le_pow_right (by omega) (by omega)
      generalize hq : 2 ^ k = q at *
      have Hq := Lib.hid hq; clear hq
      go_wp2
      go_round
      case rel => exact ⟨k + 1, by omega, by go_num, by rw [Nat.pow_succ, Hq.out]; go_num⟩
      case measure => simp [intOf]; omega
    · go_wp2
      go_ret
      exact ⟨ret_int (by rw [show n = k by omega]), rfl⟩

set_option maxHeartbeats 400000 in
theorem bit_any (A : Option Addr) (c : Nat) (l : List Nat) (i : Nat) (w : World) (hl : Bs w A l) (hi : i < 8 * l.length) (hm : l.length ≤ 1000000000) :
    Calls Tryz.prog 88 #[.slice A l.length c, .int .i64 i] w fun e w' => e = .returned (.int .u32 (bitOf l i : Nat)) ∧ w = w' := by
  obtain ⟨b, off, rfl, hc, hb⟩ := hl.at_ (show i / 8 < l.length by omega)
  have h8 : i / 8 < l.length := by omega
  go_enter Tryz.func88, Tryz.ntmps88
  go_wp2
  go_loop [5, 6] (fun x j => ∃ k : Nat, k ≤ i % 8 ∧ j = .int .i64 k ∧ x = .int .i64 ((nth l (i / 8) / 2 ^ k : Nat) : Int)) (fun _ j => i % 8 - (intOf j).toNat)
  case atStart => exact ⟨0, by omega, rfl, by simp⟩
  case round =>
    obtain ⟨k, hk, rfl, rfl⟩ := hrel
    have hs := shr_le (nth l (i / 8)) k
    by_cases hlt : k < i % 8
    · generalize hq : nth l (i / 8) / 2 ^ k = q at *
      have Hq := Lib.hid hq; clear hq
      go_wp2
      go_round
      case rel => exact ⟨k + 1, by omega, by go_num, by rw [Nat.pow_succ, ← Nat.div_div_eq_div_mul, Hq.out]; go_num⟩
      case measure => simp [intOf]; omega
    · obtain rfl : k = i % 8 := by omega
      generalize hq : nth l (i / 8) / 2 ^ (i % 8) = q at *
      have Hq := Lib.hid hq; clear hq
      go_wp2
      go_ret
      exact ⟨ret_int (by unfold bitOf; rw [Hq.out]; omega), rfl⟩

set_option maxHeartbeats 400000 in
theorem bnumber_any (A : Option Addr) (c : Nat) (l : List Nat) (a n : Nat) (w : World) (hl : Bs w A l) (hm : l.length ≤ 1000000000) (h1 : n ≤ 32) (h3 : a + n ≤ 8 * l.length) :
    Calls Tryz.prog 64 #[.slice A l.length c, .int .i64 a, .int .i64 n] w fun e w' => e = .returned (.int .u32 (numOf l a n : Nat)) ∧ w = w' := by
  go_enter Tryz.func64, Tryz.ntmps64
  go_wp2
  go_loop [7, 8] (fun v i => ∃ k : Nat, k ≤ n ∧ i = .int .i64 k ∧ v = .int .u64 (numOf l a k : Nat)) (fun _ i => n - (intOf i).toNat)
  case atStart => exact ⟨0, by omega, rfl, rfl⟩
  case round =>
    obtain ⟨k, hk, rfl, rfl⟩ := hrel
    have h2 := numOf_lt32 l a k (by omega)
    by_cases hlt : k < n
    · have hb := bitOf_lt l (a + k)
      have hp : 2 ^ k ≤ 2 ^ 31 := pow2_le _ _ (by omega)
      have hx : bitOf l (a + k) * 2 ^ k ≤ 1 * 2 ^ k := Nat.mul_le_mul_right _ (by omega)
      have hs := Lib.hid (number_step l a k)
      generalize hq : 2 ^ k = q at *
      have Hq := Lib.hid hq; clear hq
      go_wp2_with fail
      refine (bit_any A c l (a + k) _ hl (by omega) hm).mono ?_
      rintro e w' ⟨rfl, rfl⟩
      go_wp2_with fail
      refine (power_any k _ (by omega)).mono ?_
      rintro e w' ⟨rfl, rfl⟩
      rw [Hq.out]
      go_wp2_with fail
      go_round
      case rel => exact ⟨k + 1, by omega, by go_num, by rw [← hs.out]⟩
      case measure => simp [intOf]; omega
    · go_wp2
      go_ret
      exact ⟨ret_int (by rw [show n = k by omega]), rfl⟩

set_option maxHeartbeats 400000 in
theorem rtake_arg (A : Option Addr) (c : Nat) (l : List Nat) (at_ n : Int) (w : World) (_ : l.length ≤ 1000000000)
    (h2 : at_ ≤ 9223372036854775807) (h : at_ < 0 ∨ n < 0 ∨ 32 < n) :
    Calls Tryz.prog 48 #[.slice A l.length c, .int .i64 at_, .int .i64 n] w fun e w' => e = .returned (.tuple #[.int .u32 (0 : Nat), .int .i64 (2 : Nat)]) ∧ w = w' := by
  by_cases ha : at_ < 0
  · go_enter Tryz.func48, Tryz.ntmps48
    go_wp2
    go_ret2
    exact ⟨rfl, rfl⟩
  · by_cases hb : n < 0
    · go_enter Tryz.func48, Tryz.ntmps48
      go_wp2
      go_ret2
      exact ⟨rfl, rfl⟩
    · have hc : 32 < n := by omega
      clear h
      go_enter Tryz.func48, Tryz.ntmps48
      go_wp2
      go_ret2
      exact ⟨rfl, rfl⟩

set_option maxHeartbeats 400000 in
theorem rtake_end (A : Option Addr) (c : Nat) (l : List Nat) (at_ n : Int) (w : World) (hm : l.length ≤ 1000000000)
    (h0 : 0 ≤ at_) (h1 : 0 ≤ n) (h2 : n ≤ 32) (h3 : 8 * (l.length : Int) - n < at_) :
    Calls Tryz.prog 48 #[.slice A l.length c, .int .i64 at_, .int .i64 n] w fun e w' => e = .returned (.tuple #[.int .u32 (0 : Nat), .int .i64 (10 : Nat)]) ∧ w = w' := by
  rcases Int.lt_or_le (8 * (l.length : Int)) at_ with h | h
  · go_enter Tryz.func48, Tryz.ntmps48
    go_wp2
    go_ret2
    exact ⟨rfl, rfl⟩
  · have h5 : 8 * (l.length : Int) - at_ < n := by omega
    go_enter Tryz.func48, Tryz.ntmps48
    go_wp2
    go_ret2
    exact ⟨rfl, rfl⟩

set_option maxHeartbeats 400000 in
theorem rtake_ok (A : Option Addr) (c : Nat) (l : List Nat) (a n : Nat) (w : World) (hl : Bs w A l) (hm : l.length ≤ 1000000000)
    (h1 : n ≤ 32) (h3 : a + n ≤ 8 * l.length) :
    Calls Tryz.prog 48 #[.slice A l.length c, .int .i64 a, .int .i64 n] w fun e w' => e = .returned (.tuple #[.int .u32 (numOf l a n : Nat), .int .i64 0]) ∧ w = w' := by
  go_enter Tryz.func48, Tryz.ntmps48
  go_wp2_with fail
  refine (bnumber_any A c l a n w hl hm h1 h3).mono ?_
  rintro e w' ⟨rfl, rfl⟩
  go_wp2_with fail
  go_ret2
  exact ⟨rfl, rfl⟩

/-- Take and its reference tell the same. -/
theorem take_any (A : Option Addr) (c : Nat) (l : List Nat) (at_ n : Int) (w : World) (hl : Bs w A l) (hm : l.length ≤ 1000000000)
    (h1 : -9223372036854775808 ≤ at_) (h2 : at_ ≤ 9223372036854775807) :
    Calls Tryz.prog 98 #[.slice A l.length c, .int .i64 at_, .int .i64 n] w fun e w' => e = .returned (.tuple #[.int .u32 (takeV l at_ n : Nat), .int .i64 (takeE l at_ n : Nat)]) ∧ w = w' := by
  unfold takeV takeE
  by_cases ha : at_ < 0 ∨ n < 0 ∨ 32 < n
  · simp only [if_pos ha]
    exact take_arg A c l at_ n w hm h2 ha
  · simp only [if_neg ha]
    by_cases hb : 8 * (l.length : Int) - n < at_
    · simp only [if_pos hb]
      exact take_end A c l at_ n w hm (by omega) (by omega) (by omega) hb
    · simp only [if_neg hb]
      obtain ⟨a, rfl⟩ := Int.eq_ofNat_of_zero_le (a := at_) (by omega)
      obtain ⟨m, rfl⟩ := Int.eq_ofNat_of_zero_le (a := n) (by omega)
      exact take_ok A c l a m w hl hm (by omega) (by omega)

theorem rtake_any (A : Option Addr) (c : Nat) (l : List Nat) (at_ n : Int) (w : World) (hl : Bs w A l) (hm : l.length ≤ 1000000000)
    (h1 : -9223372036854775808 ≤ at_) (h2 : at_ ≤ 9223372036854775807) :
    Calls Tryz.prog 48 #[.slice A l.length c, .int .i64 at_, .int .i64 n] w fun e w' => e = .returned (.tuple #[.int .u32 (takeV l at_ n : Nat), .int .i64 (takeE l at_ n : Nat)]) ∧ w = w' := by
  unfold takeV takeE
  by_cases ha : at_ < 0 ∨ n < 0 ∨ 32 < n
  · simp only [if_pos ha]
    exact rtake_arg A c l at_ n w hm h2 ha
  · simp only [if_neg ha]
    by_cases hb : 8 * (l.length : Int) - n < at_
    · simp only [if_pos hb]
      exact rtake_end A c l at_ n w hm (by omega) (by omega) (by omega) hb
    · simp only [if_neg hb]
      obtain ⟨a, rfl⟩ := Int.eq_ofNat_of_zero_le (a := at_) (by omega)
      obtain ⟨m, rfl⟩ := Int.eq_ofNat_of_zero_le (a := n) (by omega)
      exact rtake_ok A c l a m w hl hm (by omega) (by omega)
end Go.Proofs.YtahboomghjdjhaaGreat
