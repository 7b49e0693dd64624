/-
  BitsTurned, walked.
-/
import Derived.Test.YtdaoocpcncbdpaaBitsLaws
namespace Go.Proofs.Ytdaoocpcncbdpaa
open Go.RowKit

theorem nat_bits (k : Nat) : ∀ x y : Nat, x < 2 ^ k → y < 2 ^ k → (∀ i, i < k → x / 2 ^ i % 2 = y / 2 ^ i % 2) → x = y := by
  induction k with
  | zero => intro x y hx hy _; simp at hx hy; omega
  | succ k ih =>
    intro x y hx hy h
    have h0 := h 0 (by omega)
    have h1 := ih (x / 2) (y / 2) (by rw [Nat.pow_succ] at hx; omega) (by rw [Nat.pow_succ] at hy; omega) fun i hi => by
      have := h (i + 1) (by omega)
      rwa [Nat.pow_succ, Nat.mul_comm, ← Nat.div_div_eq_div_mul, ← Nat.div_div_eq_div_mul] at this
    simp at h0
    omega

theorem rev_bit (v k : Nat) : ∀ j, j < k → rev v k / 2 ^ j % 2 = v / 2 ^ (k - 1 - j) % 2 := by
  induction k with
  | zero => intro j hj; omega
  | succ k ih =>
    intro j hj
    simp only [rev]
    have hb : v / 2 ^ k % 2 < 2 := Nat.mod_lt _ (by omega)
    cases j with
    | zero => simp
    | succ j =>
      have e : 2 ^ (j + 1) = 2 * 2 ^ j := by rw [Nat.pow_succ]; omega
      rw [e, ← Nat.div_div_eq_div_mul, show (2 * rev v k + v / 2 ^ k % 2) / 2 = rev v k by omega, ih j (by omega), show k + 1 - 1 - (j + 1) = k - 1 - j by omega]

theorem rev_rev (v k : Nat) (hv : v < 2 ^ k) : rev (rev v k) k = v :=
  nat_bits k _ _ (rev_lt _ _) hv fun i hi => by rw [rev_bit _ _ _ hi, rev_bit _ _ _ (by omega), show k - 1 - (k - 1 - i) = i by omega]

theorem turn_is (v : Nat) (n : Int) (w : World) (u : Nat) (hf : fitsB v n = true) (hu : rev v n.toNat = u) (hv : v < 4294967296) :
    Calls Try.prog 12 #[.int .u32 v, .int .i64 n] w fun e w' => e = .returned (.tuple #[.int .u32 (u : Int), .int .i64 0]) ∧ w = w' := by
  have h := fitsB_true hf
  have := turn_any v n w hv (by omega) (by omega)
  simp only [turnV, turnE, hf, if_pos, hu] at this
  exact this
theorem turn_no (v : Nat) (n : Int) (w : World) (hf : fitsB v n = false) (hv : v < 4294967296) (h1 : -9223372036854775808 ≤ n) (h2 : n ≤ 9223372036854775807) :
    Calls Try.prog 12 #[.int .u32 v, .int .i64 n] w fun e w' => e = .returned (.tuple #[.int .u32 0, .int .i64 2]) ∧ w = w' := by
  have := turn_any v n w hv h1 h2
  simp only [turnV, turnE, hf] at this
  exact this

set_option maxHeartbeats 1000000 in
theorem turned_walk (v : Nat) (n : Int) (i : Nat) (w : World) (hv : v < 4294967296) (h1 : -9223372036854775808 ≤ n) (h2 : n ≤ 9223372036854775807) (hi : i < 256) :
    Calls Try.prog 8 #[.int .u32 v, .int .i64 n, .int .u8 i] w fun e w' => e = .returned (.bool true) ∧ Below w.heap.size w w' := by
  cases hf : fitsB v n with
  | false =>
    have HT := Lib.hid fun w => turn_no v n w hf hv h1 h2
    clear hf
    go_enter Try.func8, Try.ntmps8
    go_wp2_with fail
    refine (alive_any _).mono ?_
    rintro e w1 ⟨rfl, b1⟩
    go_wp2_with fail
    refine (HT.out _).mono ?_
    rintro e w2 ⟨rfl, rfl⟩
    go_wp2_with fail
    go_ret
    exact ⟨rfl, b1⟩
  | true =>
    obtain ⟨hn0, hn32, hvn⟩ := fitsB_true hf
    obtain ⟨k, rfl⟩ := Int.eq_ofNat_of_zero_le hn0
    simp only [Int.toNat_natCast] at hvn
    have hr := rev_lt v k
    have hrr := rev_rev v k hvn
    have hbit := rev_bit v k
    have hp := pow2_le k 32 (by omega)
    have hfr : fitsB (rev v k) k = true := by unfold fitsB; rw [decide_eq_true_iff]; exact ⟨hn0, hn32, by simpa using hr⟩
    generalize hR : rev v k = R at *
    have HT := Lib.hid fun w => turn_is v k w R hf (by simpa using hR) hv
    have HU := Lib.hid fun w => turn_is R k w v hfr (by simpa using hrr) (by omega)
    have HB := Lib.hid (And.intro hbit hr)
    have hR32 : R < 4294967296 := by omega
    clear hf hvn hr hrr hbit hp hfr hR
    go_enter Try.func8, Try.ntmps8
    go_wp2_with fail
    refine (alive_any _).mono ?_
    rintro e w1 ⟨rfl, b1⟩
    go_wp2_with fail
    refine (HT.out _).mono ?_
    rintro e w2 ⟨rfl, rfl⟩
    go_wp2_with fail
    refine (HU.out _).mono ?_
    rintro e w3 ⟨rfl, rfl⟩
    by_cases hik : i < k
    · have e1 : bits BinOp.and IntKind.u32 ((v : Int) / 2 ^ i) 1 = ((v / 2 ^ i % 2 : Nat) : Int) := by
        have := shr_le v i
        rw [cast_shr, and_u32_1 _ (by omega)]
      have e2 : bits BinOp.and IntKind.u32 ((R : Int) / 2 ^ (k - 1 - i)) 1 = ((v / 2 ^ i % 2 : Nat) : Int) := by
        have := shr_le R (k - 1 - i)
        rw [cast_shr, and_u32_1 _ (by omega), HB.out.1 _ (by omega), show k - 1 - (k - 1 - i) = i by omega]
      go_wp2_with fail
      go_ret
      exact ⟨rfl, b1⟩
    · go_wp2_with fail
      go_ret
      exact ⟨rfl, b1⟩
end Go.Proofs.Ytdaoocpcncbdpaa
