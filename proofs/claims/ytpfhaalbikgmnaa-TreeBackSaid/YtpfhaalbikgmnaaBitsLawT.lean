/-
  BitsTurned, walked.
-/
import Derived.Test.YtpfhaalbikgmnaaBitsLaws
namespace Go.Proofs.Ytpfhaalbikgmnaa
open Go.RowKit

theorem nat_bits (k : Nat) : ∀ x y : Nat, x < 2 ^ k → y < 2 ^ k → (∀ i, i < k → x / 2 ^ i % 2 = y / 2 ^ i % 2) → x = y := by
  induction k with
  | zero => intro x y hx hy _; simp at hx hy; omega
  | succ k ih =>
    intro x y hx hy h
    have h0 := h 0 (by omega)
    have h1 := ih (x / 2) (y / 2) (by rw [Nat.pow_succ] at hx; omega) (by rw [Nat.pow_succ] at hy; omega) fun i hi => by
      have := h (i + 1) (by omega)
      rwa [Nat.pow_succ, Nat.mul_comm, ← Nat.div_div_eq_div_mul, ← Nat.div_div_eq_div_mul] at this
    simp at h0
    omega

theorem rev_bit (v k : Nat) : ∀ j, j < k → rev v k / 2 ^ j % 2 = v / 2 ^ (k - 1 - j) % 2 := by
  induction k with
  | zero => intro j hj; omega
  | succ k ih =>
    intro j hj
    simp only [rev]
    have hb : v / 2 ^ k % 2 < 2 := Nat.mod_lt _ (by omega)
    cases j with
    | zero => simp
    | succ j =>
      have e : 2 ^ (j + 1) = 2 * 2 ^ j := by rw [Nat.pow_succ]; omega
      rw [e, ← Nat.div_div_eq_div_mul, show (2 * rev v k + v / 2 ^ k % 2) / 2 = rev v k by omega, ih j (by omega), show k + 1 - 1 - (j + 1) = k - 1 - j by omega]

theorem rev_rev (v k : Nat) (hv : v < 2 ^ k) : rev (rev v k) k = v :=
  nat_bits k _ _ (rev_lt _ _) hv fun i hi => by rw [rev_bit _ _ _ hi, rev_bit _ _ _ (by omega), show k - 1 - (k - 1 - i) = i by omega]

theorem turn_is (v : Nat) (n : Int) (w : World) (u : Nat) (hf : fitsB v n = true) (hu : rev v n.toNat = u) (hv : v < 4294967296) :
    Calls Try.prog 23 #[.int .u32 v, .int .i64 n] w fun e w' => e = .returned (.tuple #[.int .u32 (u : Int), .int .i64 0]) ∧ w = w' := by
  have h := fitsB_true hf
  have := turn_any v n w hv (by omega) (by omega)
  simp only [turnV, turnE, hf, if_pos, hu] at this
  exact this
theorem turn_no (v : Nat) (n : Int) (w : World) (hf : fitsB v n = false) (hv : v < 4294967296) (h1 : -9223372036854775808 ≤ n) (h2 : n ≤ 9223372036854775807) :
    Calls Try.prog 23 #[.int .u32 v, .int .i64 n] w fun e w' => e = .returned (.tuple #[.int .u32 0, .int .i64 2]) ∧ w = w' := by
  have := turn_any v n w hv h1 h2
  simp only [turnV, turnE, hf] at this
  exact this

end Go.Proofs.Ytpfhaalbikgmnaa
