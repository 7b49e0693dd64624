/-
  Walks: number, Turn, and the reference's power, Bit, Number, Take, fits, Turned, Turn.
-/
import Derived.Test.YtdaoocpcncbdpaaRows
import Derived.Test.YtdaoocpcncbdpaaBitsA
namespace Go.Proofs.Ytdaoocpcncbdpaa
open Go.RowKit

set_option maxHeartbeats 400000 in
theorem power_any (n : Nat) (w : World) (hn : n ≤ 32) :
    Calls Try.prog 33 #[.int .i64 n] w fun e w' => e = .returned (.int .u64 ((2 ^ n : Nat) : Int)) ∧ w = w' := by
  go_enter Try.func33, Try.ntmps33
  go_wp2
  go_loop [3, 4] (fun p i => ∃ k : Nat, k ≤ n ∧ i = .int .i64 k ∧ p = .int .u64 ((2 ^ k : Nat) : Int)) (fun _ i => n - (intOf i).toNat)
  case atStart => exact ⟨0, by omega, rfl, rfl⟩
  case round =>
    obtain ⟨k, hk, rfl, rfl⟩ := hrel
    by_cases hlt : k < n
    · have hp : 2 ^ k ≤ 2 ^ 31 := Nat.pow_le_pow_right (by omega) (by omega)
      generalize hq : 2 ^ k = q at *
      have Hq := Lib.hid hq; clear hq
      go_wp2
      go_round
      case rel => exact ⟨k + 1, by omega, by go_num, by rw [Nat.pow_succ, Hq.out]; go_num⟩
      case measure => simp [intOf]; omega
    · go_wp2
      go_ret
      exact ⟨ret_int (by rw [show n = k by omega]), rfl⟩

set_option maxHeartbeats 400000 in
theorem bit_any (A : Option Addr) (c : Nat) (l : List Nat) (i : Nat) (w : World) (hl : Bs w A l) (hi : i < 8 * l.length) (hm : l.length ≤ 1000000000) :
    Calls Try.prog 32 #[.slice A l.length c, .int .i64 i] w fun e w' => e = .returned (.int .u32 (bitOf l i : Nat)) ∧ w = w' := by
  obtain ⟨b, off, rfl, hc, hb⟩ := hl.at_ (show i / 8 < l.length by omega)
  have h8 : i / 8 < l.length := by omega
  go_enter Try.func32, Try.ntmps32
  go_wp2
  go_loop [5, 6] (fun x j => ∃ k : Nat, k ≤ i % 8 ∧ j = .int .i64 k ∧ x = .int .i64 ((nth l (i / 8) / 2 ^ k : Nat) : Int)) (fun _ j => i % 8 - (intOf j).toNat)
  case atStart => exact ⟨0, by omega, rfl, by simp⟩
  case round =>
    obtain ⟨k, hk, rfl, rfl⟩ := hrel
    have hs := shr_le (nth l (i / 8)) k
    by_cases hlt : k < i % 8
    · generalize hq : nth l (i / 8) / 2 ^ k = q at *
      have Hq := Lib.hid hq; clear hq
      go_wp2
      go_round
      case rel => exact ⟨k + 1, by omega, by go_num, by rw [Nat.pow_succ, ← Nat.div_div_eq_div_mul, Hq.out]; go_num⟩
      case measure => simp [intOf]; omega
    · obtain rfl : k = i % 8 := by omega
      generalize hq : nth l (i / 8) / 2 ^ (i % 8) = q at *
      have Hq := Lib.hid hq; clear hq
      go_wp2
      go_ret
      exact ⟨ret_int (by unfold bitOf; rw [Hq.out]; omega), rfl⟩

set_option maxHeartbeats 400000 in
theorem number_any (A : Option Addr) (c : Nat) (l : List Nat) (a n : Nat) (w : World) (hl : Bs w A l) (hm : l.length ≤ 1000000000) (h1 : n ≤ 32) (h3 : a + n ≤ 8 * l.length) :
    Calls Try.prog 24 #[.slice A l.length c, .int .i64 a, .int .i64 n] w fun e w' => e = .returned (.int .u32 (numOf l a n : Nat)) ∧ w = w' := by
  go_enter Try.func24, Try.ntmps24
  go_wp2
  go_loop [7, 8] (fun v i => ∃ k : Nat, k ≤ n ∧ i = .int .i64 k ∧ v = .int .u64 (numOf l a k : Nat)) (fun _ i => n - (intOf i).toNat)
  case atStart => exact ⟨0, by omega, rfl, rfl⟩
  case round =>
    obtain ⟨k, hk, rfl, rfl⟩ := hrel
    have h2 := numOf_lt32 l a k (by omega)
    by_cases hlt : k < n
    · have hb := bitOf_lt l (a + k)
      have hp : 2 ^ k ≤ 2 ^ 31 := pow2_le _ _ (by omega)
      have hx : bitOf l (a + k) * 2 ^ k ≤ 1 * 2 ^ k := Nat.mul_le_mul_right _ (by omega)
      have hs := Lib.hid (number_step l a k)
      generalize hq : 2 ^ k = q at *
      have Hq := Lib.hid hq; clear hq
      go_wp2_with fail
      refine (bit_any A c l (a + k) _ hl (by omega) hm).mono ?_
      rintro e w' ⟨rfl, rfl⟩
      go_wp2_with fail
      refine (power_any k _ (by omega)).mono ?_
      rintro e w' ⟨rfl, rfl⟩
      rw [Hq.out]
      go_wp2_with fail
      go_round
      case rel => exact ⟨k + 1, by omega, by go_num, by rw [← hs.out]⟩
      case measure => simp [intOf]; omega
    · go_wp2
      go_ret
      exact ⟨ret_int (by rw [show n = k by omega]), rfl⟩

set_option maxHeartbeats 400000 in
theorem isnum_any (v : Nat) (n : Int) (w : World) (hv : v < 4294967296) (h1 : -9223372036854775808 ≤ n) (h2 : n ≤ 9223372036854775807) :
    Calls Try.prog 25 #[.int .u32 v, .int .i64 n] w fun e w' => e = .returned (.bool (fitsB v n)) ∧ w = w' := by
  go_enter Try.func25, Try.ntmps25
  go_wp2
  · go_ret
    refine ⟨ret_bool ?_, rfl⟩
    obtain ⟨m, rfl⟩ := Int.eq_ofNat_of_zero_le (a := n) (by omega)
    unfold fitsB
    rw [Bool.eq_iff_iff, beq_iff_eq, decide_eq_true_iff, Int.toNat_natCast, cast_shr]
    have := Nat.div_eq_zero_iff_lt (x := v) (Nat.two_pow_pos m)
    omega
  · go_ret
    exact ⟨ret_bool (by unfold fitsB; symm; simp; omega), rfl⟩
  · go_ret
    exact ⟨ret_bool (by unfold fitsB; symm; simp; omega), rfl⟩

set_option maxHeartbeats 400000 in
theorem fits_any (v : Nat) (n : Int) (w : World) (hv : v < 4294967296) (h1 : -9223372036854775808 ≤ n) (h2 : n ≤ 9223372036854775807) :
    Calls Try.prog 26 #[.int .u32 v, .int .i64 n] w fun e w' => e = .returned (.bool (fitsB v n)) ∧ w = w' := by
  by_cases h : 0 ≤ n ∧ n ≤ 32
  · obtain ⟨m, rfl⟩ := Int.eq_ofNat_of_zero_le (a := n) (by omega)
    obtain ⟨_, h32⟩ := h
    go_enter Try.func26, Try.ntmps26
    go_wp2_with fail
    refine (power_any m _ (by omega)).mono ?_
    rintro e w' ⟨rfl, rfl⟩
    go_wp2_with fail
    go_ret
    exact ⟨ret_bool (by unfold fitsB; rw [Bool.eq_iff_iff, decide_eq_true_iff, decide_eq_true_iff, Int.toNat_natCast, show ((2 : Int) ^ m) = ((2 ^ m : Nat) : Int) by simp]; omega), rfl⟩
  · have hf : fitsB v n = false := by unfold fitsB; simp; omega
    have Hf := Lib.hid hf; clear hf
    rcases Int.lt_or_le n 0 with h0 | h0
    · clear h
      go_enter Try.func26, Try.ntmps26
      go_wp2_with fail
      go_ret
      exact ⟨ret_bool Hf.out.symm, rfl⟩
    · have h5 : 32 < n := by omega
      clear h
      go_enter Try.func26, Try.ntmps26
      go_wp2_with fail
      go_ret
      exact ⟨ret_bool Hf.out.symm, rfl⟩

set_option maxHeartbeats 400000 in
theorem turn_any (v : Nat) (n : Int) (w : World) (hv : v < 4294967296) (h1 : -9223372036854775808 ≤ n) (h2 : n ≤ 9223372036854775807) :
    Calls Try.prog 12 #[.int .u32 v, .int .i64 n] w fun e w' => e = .returned (.tuple #[.int .u32 (turnV v n : Nat), .int .i64 (turnE v n : Nat)]) ∧ w = w' := by
  have hn := isnum_any v n w hv h1 h2
  cases hf : fitsB v n with
  | false =>
    rw [hf] at hn
    have HN := Lib.hid hn; clear hn
    have Hf := Lib.hid hf; clear hf
    go_enter Try.func12, Try.ntmps12
    go_wp2_with fail
    refine HN.out.mono ?_
    rintro e w' ⟨rfl, rfl⟩
    go_wp2_with fail
    go_ret2
    exact ⟨ret_two (by simp [turnV, Hf.out]) (by simp [turnE, Hf.out]), rfl⟩
  | true =>
    rw [hf] at hn
    have HN := Lib.hid hn; clear hn
    obtain ⟨h3, h4, h5⟩ := fitsB_true hf
    have Hf := Lib.hid hf; clear hf
    obtain ⟨m, rfl⟩ := Int.eq_ofNat_of_zero_le (a := n) (by omega)
    rw [Int.toNat_natCast] at h5
    go_enter Try.func12, Try.ntmps12
    go_wp2_with fail
    refine HN.out.mono ?_
    rintro e w' ⟨rfl, rfl⟩
    go_wp2_with fail
    go_loop [4, 12] (fun o i => ∃ k : Nat, k ≤ m ∧ i = .int .i64 k ∧ o = .int .u32 ((rev v k * 2 ^ (m - k) : Nat) : Int)) (fun _ i => m - (intOf i).toNat)
    case atStart => exact ⟨0, by omega, rfl, by simp [rev]⟩
    case round =>
      obtain ⟨k, hk, rfl, rfl⟩ := hrel
      by_cases hlt : k < m
      · have hs := Lib.hid (turn_step v m k hv (by omega) hlt)
        generalize hq : rev v k * 2 ^ (m - k) = q at *
        have Hq := Lib.hid hq; clear hq
        go_wp2_with fail
        go_round
        case rel => 
          exact ⟨k + 1, by omega, by go_num, by rw [hs.out]⟩
        case measure => simp [intOf]; omega
      · obtain rfl : m = k := by omega
        go_wp2_with fail
        go_ret2
        exact ⟨ret_two (by simp [turnV, Hf.out]) (by simp [turnE, Hf.out]), rfl⟩

set_option maxHeartbeats 400000 in
theorem turned_any (v n : Nat) (w : World) (hv : v < 4294967296) (h1 : n ≤ 32) :
    Calls Try.prog 27 #[.int .u32 v, .int .i64 n] w fun e w' => e = .returned (.int .u32 (rev v n : Nat)) ∧ w = w' := by
  go_enter Try.func27, Try.ntmps27
  go_wp2_with fail
  go_loop [0, 5, 6] (fun x o i => ∃ k : Nat, k ≤ n ∧ i = .int .i64 k ∧ x = .int .u32 ((v / 2 ^ k : Nat) : Int) ∧ o = .int .u32 (rev v k : Nat)) (fun _ _ i => n - (intOf i).toNat)
  case atStart => exact ⟨0, by omega, rfl, by simp, by simp [rev]⟩
  case round =>
    obtain ⟨k, hk, rfl, rfl, rfl⟩ := hrel
    by_cases hlt : k < n
    · have hs := shr_le v k
      have h2 := rev_lt v k
      have h3 : rev v (k + 1) < 2 ^ 32 := Nat.lt_of_lt_of_le (rev_lt v (k + 1)) (pow2_le _ _ (by omega))
      have h4 : rev v (k + 1) = 2 * rev v k + v / 2 ^ k % 2 := rfl
      have h5 : 2 * rev v k + v / 2 ^ k % 2 < 4294967296 := by omega
      have h6 : v / 2 ^ (k + 1) = v / 2 ^ k / 2 := by rw [Nat.pow_succ, Nat.div_div_eq_div_mul]
      have H4 := Lib.hid h4; clear h4
      have H6 := Lib.hid h6; clear h6
      generalize hq : v / 2 ^ k = q at *
      have Hq := Lib.hid hq; clear hq
      go_wp2_with fail
      go_round
      case rel => 
        refine ⟨k + 1, by omega, by go_num, ?_, ?_⟩
        · rw [H6.out]; go_num
        · rw [H4.out]; go_num
      case measure => simp [intOf]; omega
    · obtain rfl : n = k := by omega
      go_wp2_with fail
      go_ret
      exact ⟨rfl, rfl⟩

set_option maxHeartbeats 400000 in
theorem rturn_any (v : Nat) (n : Int) (w : World) (hv : v < 4294967296) (h1 : -9223372036854775808 ≤ n) (h2 : n ≤ 9223372036854775807) :
    Calls Try.prog 13 #[.int .u32 v, .int .i64 n] w fun e w' => e = .returned (.tuple #[.int .u32 (turnV v n : Nat), .int .i64 (turnE v n : Nat)]) ∧ w = w' := by
  have hn := fits_any v n w hv h1 h2
  cases hf : fitsB v n with
  | false =>
    rw [hf] at hn
    have HN := Lib.hid hn; clear hn
    have Hf := Lib.hid hf; clear hf
    go_enter Try.func13, Try.ntmps13
    go_wp2_with fail
    refine HN.out.mono ?_
    rintro e w' ⟨rfl, rfl⟩
    go_wp2_with fail
    go_ret2
    exact ⟨ret_two (by simp [turnV, Hf.out]) (by simp [turnE, Hf.out]), rfl⟩
  | true =>
    rw [hf] at hn
    have HN := Lib.hid hn; clear hn
    obtain ⟨h3, h4, h5⟩ := fitsB_true hf
    have Hf := Lib.hid hf; clear hf
    obtain ⟨m, rfl⟩ := Int.eq_ofNat_of_zero_le (a := n) (by omega)
    rw [Int.toNat_natCast] at h5
    go_enter Try.func13, Try.ntmps13
    go_wp2_with fail
    refine HN.out.mono ?_
    rintro e w' ⟨rfl, rfl⟩
    go_wp2_with fail
    refine (turned_any v m _ hv (by omega)).mono ?_
    rintro e w' ⟨rfl, rfl⟩
    go_wp2_with fail
    go_ret2
    exact ⟨ret_two (by simp [turnV, Hf.out]) (by simp [turnE, Hf.out]), rfl⟩

set_option maxHeartbeats 400000 in
theorem rtake_arg (A : Option Addr) (c : Nat) (l : List Nat) (at_ n : Int) (w : World) (hm : l.length ≤ 1000000000)
    (h2 : at_ ≤ 9223372036854775807) (h : at_ < 0 ∨ n < 0 ∨ 32 < n) :
    Calls Try.prog 11 #[.slice A l.length c, .int .i64 at_, .int .i64 n] w fun e w' => e = .returned (.tuple #[.int .u32 (0 : Nat), .int .i64 (2 : Nat)]) ∧ w = w' := by
  by_cases ha : at_ < 0
  · go_enter Try.func11, Try.ntmps11
    go_wp2
    go_ret2
    exact ⟨rfl, rfl⟩
  · by_cases hb : n < 0
    · go_enter Try.func11, Try.ntmps11
      go_wp2
      go_ret2
      exact ⟨rfl, rfl⟩
    · have hc : 32 < n := by omega
      clear h
      go_enter Try.func11, Try.ntmps11
      go_wp2
      go_ret2
      exact ⟨rfl, rfl⟩

set_option maxHeartbeats 400000 in
theorem rtake_end (A : Option Addr) (c : Nat) (l : List Nat) (at_ n : Int) (w : World) (hm : l.length ≤ 1000000000)
    (h0 : 0 ≤ at_) (h1 : 0 ≤ n) (h2 : n ≤ 32) (h3 : 8 * (l.length : Int) - n < at_) :
    Calls Try.prog 11 #[.slice A l.length c, .int .i64 at_, .int .i64 n] w fun e w' => e = .returned (.tuple #[.int .u32 (0 : Nat), .int .i64 (10 : Nat)]) ∧ w = w' := by
  rcases Int.lt_or_le (8 * (l.length : Int)) at_ with h | h
  · go_enter Try.func11, Try.ntmps11
    go_wp2
    go_ret2
    exact ⟨rfl, rfl⟩
  · have h5 : 8 * (l.length : Int) - at_ < n := by omega
    go_enter Try.func11, Try.ntmps11
    go_wp2
    go_ret2
    exact ⟨rfl, rfl⟩

set_option maxHeartbeats 400000 in
theorem rtake_ok (A : Option Addr) (c : Nat) (l : List Nat) (a n : Nat) (w : World) (hl : Bs w A l) (hm : l.length ≤ 1000000000)
    (h1 : n ≤ 32) (h3 : a + n ≤ 8 * l.length) :
    Calls Try.prog 11 #[.slice A l.length c, .int .i64 a, .int .i64 n] w fun e w' => e = .returned (.tuple #[.int .u32 (numOf l a n : Nat), .int .i64 0]) ∧ w = w' := by
  go_enter Try.func11, Try.ntmps11
  go_wp2_with fail
  refine (number_any A c l a n w hl hm h1 h3).mono ?_
  rintro e w' ⟨rfl, rfl⟩
  go_wp2_with fail
  go_ret2
  exact ⟨rfl, rfl⟩

/-- Take and its reference tell the same. -/
theorem take_any (A : Option Addr) (c : Nat) (l : List Nat) (at_ n : Int) (w : World) (hl : Bs w A l) (hm : l.length ≤ 1000000000)
    (h1 : -9223372036854775808 ≤ at_) (h2 : at_ ≤ 9223372036854775807) :
    Calls Try.prog 10 #[.slice A l.length c, .int .i64 at_, .int .i64 n] w fun e w' => e = .returned (.tuple #[.int .u32 (takeV l at_ n : Nat), .int .i64 (takeE l at_ n : Nat)]) ∧ w = w' := by
  unfold takeV takeE
  by_cases ha : at_ < 0 ∨ n < 0 ∨ 32 < n
  · simp only [if_pos ha]
    exact take_arg A c l at_ n w hm h2 ha
  · simp only [if_neg ha]
    by_cases hb : 8 * (l.length : Int) - n < at_
    · simp only [if_pos hb]
      exact take_end A c l at_ n w hm (by omega) (by omega) (by omega) hb
    · simp only [if_neg hb]
      obtain ⟨a, rfl⟩ := Int.eq_ofNat_of_zero_le (a := at_) (by omega)
      obtain ⟨m, rfl⟩ := Int.eq_ofNat_of_zero_le (a := n) (by omega)
      exact take_ok A c l a m w hl hm (by omega) (by omega)

theorem rtake_any (A : Option Addr) (c : Nat) (l : List Nat) (at_ n : Int) (w : World) (hl : Bs w A l) (hm : l.length ≤ 1000000000)
    (h1 : -9223372036854775808 ≤ at_) (h2 : at_ ≤ 9223372036854775807) :
    Calls Try.prog 11 #[.slice A l.length c, .int .i64 at_, .int .i64 n] w fun e w' => e = .returned (.tuple #[.int .u32 (takeV l at_ n : Nat), .int .i64 (takeE l at_ n : Nat)]) ∧ w = w' := by
  unfold takeV takeE
  by_cases ha : at_ < 0 ∨ n < 0 ∨ 32 < n
  · simp only [if_pos ha]
    exact rtake_arg A c l at_ n w hm h2 ha
  · simp only [if_neg ha]
    by_cases hb : 8 * (l.length : Int) - n < at_
    · simp only [if_pos hb]
      exact rtake_end A c l at_ n w hm (by omega) (by omega) (by omega) hb
    · simp only [if_neg hb]
      obtain ⟨a, rfl⟩ := Int.eq_ofNat_of_zero_le (a := at_) (by omega)
      obtain ⟨m, rfl⟩ := Int.eq_ofNat_of_zero_le (a := n) (by omega)
      exact rtake_ok A c l a m w hl hm (by omega) (by omega)
end Go.Proofs.Ytdaoocpcncbdpaa
