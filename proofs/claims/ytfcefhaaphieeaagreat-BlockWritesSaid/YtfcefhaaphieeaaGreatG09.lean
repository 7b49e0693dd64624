/-
  Walks: bits.Take: what it answers where it takes, and where it refuses.
-/
import Derived.Test.YtfcefhaaphieeaaGreatG00
import Derived.Test.YtfcefhaaphieeaaGreatRows
namespace Go.Proofs.YtfcefhaaphieeaaGreat
open Go.RowKit

end Go.Proofs.YtfcefhaaphieeaaGreat

/-
  Walks: number, Turn, and the reference's power, Bit, Number, Take, fits, Turned, Turn.
-/
namespace Go.Proofs.YtfcefhaaphieeaaGreat
open Go.RowKit

set_option maxHeartbeats 400000 in
theorem power_any (n : Nat) (w : World) (hn : n ≤ 32) :
    Calls Tryz.prog 61 #[.int .i64 n] w fun e w' => e = .returned (.int .u64 ((2 ^ n : Nat) : Int)) ∧ w = w' := by
  go_enter Tryz.func61, Tryz.ntmps61
  go_wp2
  go_loop [3, 4] (fun p i => ∃ k : Nat, k ≤ n ∧ i = .int .i64 k ∧ p = .int .u64 ((2 ^ k : Nat) : Int)) (fun _ i => n - (intOf i).toNat)
  case atStart => exact ⟨0, by omega, rfl, rfl⟩
  case round =>
    obtain ⟨k, hk, rfl, rfl⟩ := hrel
    by_cases hlt : k < n
    · have hp : 2 ^ k ≤ 2 ^ 31 := Nat.pow_le_pow_right (by omega) (by omega)
      generalize hq : 2 ^ k = q at *
      have Hq := Lib.hid hq; clear hq
      go_wp2
      go_round
      case rel => exact ⟨k + 1, by omega, by go_num, by rw [Nat.pow_succ, Hq.out]; go_num⟩
      case measure => simp [intOf]; omega
    · go_wp2
      go_ret
      exact ⟨ret_int (by rw [show n = k by omega]), rfl⟩

set_option maxHeartbeats 400000 in
theorem bit_any (A : Option Addr) (c : Nat) (l : List Nat) (i : Nat) (w : World) (hl : Bs w A l) (hi : i < 8 * l.length) (hm : l.length ≤ 1000000000) :
    Calls Tryz.prog 30 #[.slice A l.length c, .int .i64 i] w fun e w' => e = .returned (.int .u32 (bitOf l i : Nat)) ∧ w = w' := by
  obtain ⟨b, off, rfl, hc, hb⟩ := hl.at_ (show i / 8 < l.length by omega)
  have h8 : i / 8 < l.length := by omega
  go_enter Tryz.func30, Tryz.ntmps30
  go_wp2
  go_loop [5, 6] (fun x j => ∃ k : Nat, k ≤ i % 8 ∧ j = .int .i64 k ∧ x = .int .i64 ((nth l (i / 8) / 2 ^ k : Nat) : Int)) (fun _ j => i % 8 - (intOf j).toNat)
  case atStart => exact ⟨0, by omega, rfl, by simp⟩
  case round =>
    obtain ⟨k, hk, rfl, rfl⟩ := hrel
    have hs := shr_le (nth l (i / 8)) k
    by_cases hlt : k < i % 8
    · generalize hq : nth l (i / 8) / 2 ^ k = q at *
      have Hq := Lib.hid hq; clear hq
      go_wp2
      go_round
      case rel => exact ⟨k + 1, by omega, by go_num, by rw [Nat.pow_succ, ← Nat.div_div_eq_div_mul, Hq.out]; go_num⟩
      case measure => simp [intOf]; omega
    · obtain rfl : k = i % 8 := by omega
      generalize hq : nth l (i / 8) / 2 ^ (i % 8) = q at *
      have Hq := Lib.hid hq; clear hq
      go_wp2
      go_ret
      exact ⟨ret_int (by unfold bitOf; rw [Hq.out]; omega), rfl⟩

set_option maxHeartbeats 400000 in
theorem isnum_any (v : Nat) (n : Int) (w : World) (hv : v < 4294967296) (h1 : -9223372036854775808 ≤ n) (h2 : n ≤ 9223372036854775807) :
    Calls Tryz.prog 28 #[.int .u32 v, .int .i64 n] w fun e w' => e = .returned (.bool (fitsB v n)) ∧ w = w' := by
  go_enter Tryz.func28, Tryz.ntmps28
  go_wp2
  · go_ret
    refine ⟨ret_bool ?_, rfl⟩
    obtain ⟨m, rfl⟩ := Int.eq_ofNat_of_zero_le (a := n) (by omega)
    unfold fitsB
    rw [Bool.eq_iff_iff, beq_iff_eq, decide_eq_true_iff, Int.toNat_natCast, cast_shr]
    have := Nat.div_eq_zero_iff_lt (x := v) (Nat.two_pow_pos m)
    omega
  · go_ret
    exact ⟨ret_bool (by unfold fitsB; symm; simp; omega), rfl⟩
  · go_ret
    exact ⟨ret_bool (by unfold fitsB; symm; simp; omega), rfl⟩

set_option maxHeartbeats 400000 in
theorem turn_any (v : Nat) (n : Int) (w : World) (hv : v < 4294967296) (h1 : -9223372036854775808 ≤ n) (h2 : n ≤ 9223372036854775807) :
    Calls Tryz.prog 75 #[.int .u32 v, .int .i64 n] w fun e w' => e = .returned (.tuple #[.int .u32 (turnV v n : Nat), .int .i64 (turnE v n : Nat)]) ∧ w = w' := by
  have hn := isnum_any v n w hv h1 h2
  cases hf : fitsB v n with
  | false =>
    rw [hf] at hn
    have HN := Lib.hid hn; clear hn
    have Hf := Lib.hid hf; clear hf
    go_enter Tryz.func75, Tryz.ntmps75
    go_wp2_with fail
    refine HN.out.mono ?_
    rintro e w' ⟨rfl, rfl⟩
    go_wp2_with fail
    go_ret2
    exact ⟨ret_two (by simp [turnV, Hf.out]) (by simp [turnE, Hf.out]), rfl⟩
  | true =>
    rw [hf] at hn
    have HN := Lib.hid hn; clear hn
    obtain ⟨h3, h4, h5⟩ := fitsB_true hf
    have Hf := Lib.hid hf; clear hf
    obtain ⟨m, rfl⟩ := Int.eq_ofNat_of_zero_le (a := n) (by omega)
    rw [Int.toNat_natCast] at h5
    go_enter Tryz.func75, Tryz.ntmps75
    go_wp2_with fail
    refine HN.out.mono ?_
    rintro e w' ⟨rfl, rfl⟩
    go_wp2_with fail
    go_loop [4, 12] (fun o i => ∃ k : Nat, k ≤ m ∧ i = .int .i64 k ∧ o = .int .u32 ((rev v k * 2 ^ (m - k) : Nat) : Int)) (fun _ i => m - (intOf i).toNat)
    case atStart => exact ⟨0, by omega, rfl, by simp [rev]⟩
    case round =>
      obtain ⟨k, hk, rfl, rfl⟩ := hrel
      by_cases hlt : k < m
      · have hs := Lib.hid (turn_step v m k hv (by omega) hlt)
        generalize hq : rev v k * 2 ^ (m - k) = q at *
        have Hq := Lib.hid hq; clear hq
        go_wp2_with fail
        go_round
        case rel => 
          exact ⟨k + 1, by omega, by go_num, by rw [hs.out]⟩
        case measure => simp [intOf]; omega
      · obtain rfl : m = k := by omega
        go_wp2_with fail
        go_ret2
        exact ⟨ret_two (by simp [turnV, Hf.out]) (by simp [turnE, Hf.out]), rfl⟩

set_option maxHeartbeats 400000 in
theorem turned_any (v n : Nat) (w : World) (hv : v < 4294967296) (h1 : n ≤ 32) :
    Calls Tryz.prog 77 #[.int .u32 v, .int .i64 n] w fun e w' => e = .returned (.int .u32 (rev v n : Nat)) ∧ w = w' := by
  go_enter Tryz.func77, Tryz.ntmps77
  go_wp2_with fail
  go_loop [0, 5, 6] (fun x o i => ∃ k : Nat, k ≤ n ∧ i = .int .i64 k ∧ x = .int .u32 ((v / 2 ^ k : Nat) : Int) ∧ o = .int .u32 (rev v k : Nat)) (fun _ _ i => n - (intOf i).toNat)
  case atStart => exact ⟨0, by omega, rfl, by simp, by simp [rev]⟩
  case round =>
    obtain ⟨k, hk, rfl, rfl, rfl⟩ := hrel
    by_cases hlt : k < n
    · have hs := shr_le v k
      have h2 := rev_lt v k
      have h3 : rev v (k + 1) < 2 ^ 32 := Nat.lt_of_lt_of_le (rev_lt v (k + 1)) (pow2_le _ _ (by omega))
      have h4 : rev v (k + 1) = 2 * rev v k + v / 2 ^ k % 2 := rfl
      have h5 : 2 * rev v k + v / 2 ^ k % 2 < 4294967296 := by omega
      have h6 : v / 2 ^ (k + 1) = v / 2 ^ k / 2 := by rw [Nat.pow_succ, Nat.div_div_eq_div_mul]
      have H4 := Lib.hid h4; clear h4
      have H6 := Lib.hid h6; clear h6
      generalize hq : v / 2 ^ k = q at *
      have Hq := Lib.hid hq; clear hq
      go_wp2_with fail
      go_round
      case rel => 
        refine ⟨k + 1, by omega, by go_num, ?_, ?_⟩
        · rw [H6.out]; go_num
        · rw [H4.out]; go_num
      case measure => simp [intOf]; omega
    · obtain rfl : n = k := by omega
      go_wp2_with fail
      go_ret
      exact ⟨rfl, rfl⟩

end Go.Proofs.YtfcefhaaphieeaaGreat
