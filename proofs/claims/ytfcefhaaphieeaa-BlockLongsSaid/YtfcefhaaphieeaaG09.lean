/-
  Walks: bits.Take: what it answers where it takes, and where it refuses.
-/
import Derived.Test.YtfcefhaaphieeaaG00
import Derived.Test.YtfcefhaaphieeaaRows
namespace Go.Proofs.Ytfcefhaaphieeaa
open Go.RowKit

set_option maxHeartbeats 400000 in
theorem take_arg (A : Option Addr) (c : Nat) (l : List Nat) (at_ n : Int) (w : World) (_ : l.length ≤ 1000000000)
    (h2 : at_ ≤ 9223372036854775807) (h : at_ < 0 ∨ n < 0 ∨ 32 < n) :
    Calls Try.prog 22 #[.slice A l.length c, .int .i64 at_, .int .i64 n] w fun e w' => e = .returned (.tuple #[.int .u32 (0 : Nat), .int .i64 (2 : Nat)]) ∧ w = w' := by
  by_cases ha : at_ < 0
  · go_enter Try.func22, Try.ntmps22
    go_wp2
    go_ret2
    exact ⟨rfl, rfl⟩
  · by_cases hb : n < 0
    · go_enter Try.func22, Try.ntmps22
      go_wp2
      go_ret2
      exact ⟨rfl, rfl⟩
    · have hc : 32 < n := by omega
      clear h
      go_enter Try.func22, Try.ntmps22
      go_wp2
      go_ret2
      exact ⟨rfl, rfl⟩

set_option maxHeartbeats 400000 in
theorem take_end (A : Option Addr) (c : Nat) (l : List Nat) (at_ n : Int) (w : World) (hm : l.length ≤ 1000000000)
    (h0 : 0 ≤ at_) (h1 : 0 ≤ n) (h2 : n ≤ 32) (h3 : 8 * (l.length : Int) - n < at_) :
    Calls Try.prog 22 #[.slice A l.length c, .int .i64 at_, .int .i64 n] w fun e w' => e = .returned (.tuple #[.int .u32 (0 : Nat), .int .i64 (10 : Nat)]) ∧ w = w' := by
  go_enter Try.func22, Try.ntmps22
  go_wp2
  go_ret2
  exact ⟨rfl, rfl⟩

set_option maxHeartbeats 400000 in
theorem take_ok (A : Option Addr) (c : Nat) (l : List Nat) (a n : Nat) (w : World) (hl : Bs w A l) (hm : l.length ≤ 1000000000)
    (h1 : n ≤ 32) (h3 : a + n ≤ 8 * l.length) :
    Calls Try.prog 22 #[.slice A l.length c, .int .i64 a, .int .i64 n] w fun e w' => e = .returned (.tuple #[.int .u32 (numOf l a n : Nat), .int .i64 0]) ∧ w = w' := by
  go_enter Try.func22, Try.ntmps22
  go_wp2
  go_loop [6, 27] (fun v i => ∃ k : Nat, k ≤ n ∧ i = .int .i64 k ∧ v = .int .u32 (numOf l a k : Nat)) (fun _ i => n - (intOf i).toNat)
  case atStart => exact ⟨0, by omega, rfl, rfl⟩
  case round =>
    obtain ⟨k, hk, rfl, rfl⟩ := hrel
    by_cases hlt : k < n
    · obtain ⟨b, off, rfl, hc, hb⟩ := hl.at_ (show (a + k) / 8 < l.length by omega)
      have h8 : (a + k) / 8 < l.length := by omega
      go_wp2
      go_round
      case rel => 
        refine ⟨k + 1, by omega, by go_num, ?_⟩
        rw [take_step l a k (by omega) hb]
      case measure => simp [intOf]; omega
    · go_wp2
      go_ret2
      exact ⟨ret_two (by rw [show n = k by omega]) rfl, rfl⟩
end Go.Proofs.Ytfcefhaaphieeaa

/-
  Walks: number, Turn, and the reference's power, Bit, Number, Take, fits, Turned, Turn.
-/
namespace Go.Proofs.Ytfcefhaaphieeaa
open Go.RowKit

set_option maxHeartbeats 400000 in
theorem isnum_any (v : Nat) (n : Int) (w : World) (hv : v < 4294967296) (h1 : -9223372036854775808 ≤ n) (h2 : n ≤ 9223372036854775807) :
    Calls Try.prog 47 #[.int .u32 v, .int .i64 n] w fun e w' => e = .returned (.bool (fitsB v n)) ∧ w = w' := by
  go_enter Try.func47, Try.ntmps47
  go_wp2
  · go_ret
    refine ⟨ret_bool ?_, rfl⟩
    obtain ⟨m, rfl⟩ := Int.eq_ofNat_of_zero_le (a := n) (by omega)
    unfold fitsB
    rw [Bool.eq_iff_iff, beq_iff_eq, decide_eq_true_iff, Int.toNat_natCast, cast_shr]
    have := Nat.div_eq_zero_iff_lt (x := v) (Nat.two_pow_pos m)
    omega
  · go_ret
    exact ⟨ret_bool (by unfold fitsB; symm; simp; omega), rfl⟩
  · go_ret
    exact ⟨ret_bool (by unfold fitsB; symm; simp; omega), rfl⟩

set_option maxHeartbeats 400000 in
theorem turn_any (v : Nat) (n : Int) (w : World) (hv : v < 4294967296) (h1 : -9223372036854775808 ≤ n) (h2 : n ≤ 9223372036854775807) :
    Calls Try.prog 81 #[.int .u32 v, .int .i64 n] w fun e w' => e = .returned (.tuple #[.int .u32 (turnV v n : Nat), .int .i64 (turnE v n : Nat)]) ∧ w = w' := by
  have hn := isnum_any v n w hv h1 h2
  cases hf : fitsB v n with
  | false =>
    rw [hf] at hn
    have HN := Lib.hid hn; clear hn
    have Hf := Lib.hid hf; clear hf
    go_enter Try.func81, Try.ntmps81
    go_wp2_with fail
    refine HN.out.mono ?_
    rintro e w' ⟨rfl, rfl⟩
    go_wp2_with fail
    go_ret2
    exact ⟨ret_two (by simp [turnV, Hf.out]) (by simp [turnE, Hf.out]), rfl⟩
  | true =>
    rw [hf] at hn
    have HN := Lib.hid hn; clear hn
    obtain ⟨h3, h4, h5⟩ := fitsB_true hf
    have Hf := Lib.hid hf; clear hf
    obtain ⟨m, rfl⟩ := Int.eq_ofNat_of_zero_le (a := n) (by omega)
    rw [Int.toNat_natCast] at h5
    go_enter Try.func81, Try.ntmps81
    go_wp2_with fail
    refine HN.out.mono ?_
    rintro e w' ⟨rfl, rfl⟩
    go_wp2_with fail
    go_loop [4, 12] (fun o i => ∃ k : Nat, k ≤ m ∧ i = .int .i64 k ∧ o = .int .u32 ((rev v k * 2 ^ (m - k) : Nat) : Int)) (fun _ i => m - (intOf i).toNat)
    case atStart => exact ⟨0, by omega, rfl, by simp [rev]⟩
    case round =>
      obtain ⟨k, hk, rfl, rfl⟩ := hrel
      by_cases hlt : k < m
      · have hs := Lib.hid (turn_step v m k hv (by omega) hlt)
        generalize hq : rev v k * 2 ^ (m - k) = q at *
        have Hq := Lib.hid hq; clear hq
        go_wp2_with fail
        go_round
        case rel => 
          exact ⟨k + 1, by omega, by go_num, by rw [hs.out]⟩
        case measure => simp [intOf]; omega
      · obtain rfl : m = k := by omega
        go_wp2_with fail
        go_ret2
        exact ⟨ret_two (by simp [turnV, Hf.out]) (by simp [turnE, Hf.out]), rfl⟩

set_option maxHeartbeats 400000 in
theorem turned_any (v n : Nat) (w : World) (hv : v < 4294967296) (h1 : n ≤ 32) :
    Calls Try.prog 83 #[.int .u32 v, .int .i64 n] w fun e w' => e = .returned (.int .u32 (rev v n : Nat)) ∧ w = w' := by
  go_enter Try.func83, Try.ntmps83
  go_wp2_with fail
  go_loop [0, 5, 6] (fun x o i => ∃ k : Nat, k ≤ n ∧ i = .int .i64 k ∧ x = .int .u32 ((v / 2 ^ k : Nat) : Int) ∧ o = .int .u32 (rev v k : Nat)) (fun _ _ i => n - (intOf i).toNat)
  case atStart => exact ⟨0, by omega, rfl, by simp, by simp [rev]⟩
  case round =>
    obtain ⟨k, hk, rfl, rfl, rfl⟩ := hrel
    by_cases hlt : k < n
    · have hs := shr_le v k
      have h2 := rev_lt v k
      have h3 : rev v (k + 1) < 2 ^ 32 := Nat.lt_of_lt_of_le (rev_lt v (k + 1)) (pow2_le _ _ (by omega))
      have h4 : rev v (k + 1) = 2 * rev v k + v / 2 ^ k % 2 := rfl
      have h5 : 2 * rev v k + v / 2 ^ k % 2 < 4294967296 := by omega
      have h6 : v / 2 ^ (k + 1) = v / 2 ^ k / 2 := by rw [Nat.pow_succ, Nat.div_div_eq_div_mul]
      have H4 := Lib.hid h4; clear h4
      have H6 := Lib.hid h6; clear h6
      generalize hq : v / 2 ^ k = q at *
      have Hq := Lib.hid hq; clear hq
      go_wp2_with fail
      go_round
      case rel => 
        refine ⟨k + 1, by omega, by go_num, ?_, ?_⟩
        · rw [H6.out]; go_num
        · rw [H4.out]; go_num
      case measure => simp [intOf]; omega
    · obtain rfl : n = k := by omega
      go_wp2_with fail
      go_ret
      exact ⟨rfl, rfl⟩

/-- Take and its reference tell the same. -/
theorem take_any (A : Option Addr) (c : Nat) (l : List Nat) (at_ n : Int) (w : World) (hl : Bs w A l) (hm : l.length ≤ 1000000000)
    (h1 : -9223372036854775808 ≤ at_) (h2 : at_ ≤ 9223372036854775807) :
    Calls Try.prog 22 #[.slice A l.length c, .int .i64 at_, .int .i64 n] w fun e w' => e = .returned (.tuple #[.int .u32 (takeV l at_ n : Nat), .int .i64 (takeE l at_ n : Nat)]) ∧ w = w' := by
  unfold takeV takeE
  by_cases ha : at_ < 0 ∨ n < 0 ∨ 32 < n
  · simp only [if_pos ha]
    exact take_arg A c l at_ n w hm h2 ha
  · simp only [if_neg ha]
    by_cases hb : 8 * (l.length : Int) - n < at_
    · simp only [if_pos hb]
      exact take_end A c l at_ n w hm (by omega) (by omega) (by omega) hb
    · simp only [if_neg hb]
      obtain ⟨a, rfl⟩ := Int.eq_ofNat_of_zero_le (a := at_) (by omega)
      obtain ⟨m, rfl⟩ := Int.eq_ofNat_of_zero_le (a := n) (by omega)
      exact take_ok A c l a m w hl hm (by omega) (by omega)

end Go.Proofs.Ytfcefhaaphieeaa
