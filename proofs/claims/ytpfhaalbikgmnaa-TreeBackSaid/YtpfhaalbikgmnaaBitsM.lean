/-
  Plain facts on bits in bytes: no program in sight.
-/
import Derived.Test.YtpfhaalbikgmnaaKit
namespace Go.Proofs.Ytpfhaalbikgmnaa

/-- The bit at a place of some bytes. -/
def bitOf (l : List Nat) (i : Nat) : Nat := nth l (i / 8) / 2 ^ (i % 8) % 2

theorem bitOf_lt (l : List Nat) (i : Nat) : bitOf l i < 2 := Nat.mod_lt _ (by omega)

/-- The number of n bits from a place on. -/
def numOf (l : List Nat) (a : Nat) : Nat → Nat
  | 0 => 0
  | n + 1 => numOf l a n + bitOf l (a + n) * 2 ^ n

theorem numOf_lt (l : List Nat) (a n : Nat) : numOf l a n < 2 ^ n := by
  induction n with
  | zero => simp [numOf]
  | succ n ih =>
    have h := bitOf_lt l (a + n)
    have : bitOf l (a + n) * 2 ^ n ≤ 1 * 2 ^ n := Nat.mul_le_mul_right _ (by omega)
    simp only [numOf, Nat.pow_succ]; omega

theorem numOf_lt32 (l : List Nat) (a n : Nat) (h : n ≤ 32) : numOf l a n < 4294967296 :=
  Nat.lt_of_lt_of_le (numOf_lt l a n) (Nat.pow_le_pow_right (n := 2) (i := n) (j := 32) (by omega) h)

/-- What a number of bits at a place is: the number and the error. -/
def takeE (l : List Nat) (a n : Int) : Nat :=
  if a < 0 ∨ n < 0 ∨ 32 < n then 2 else if 8 * (l.length : Int) - n < a then 10 else 0
def takeV (l : List Nat) (a n : Int) : Nat := if takeE l a n = 0 then numOf l a.toNat n.toNat else 0

theorem or_disjoint (a b n : Nat) (ha : a < 2 ^ n) : a ||| b * 2 ^ n = a + b * 2 ^ n := by
  rw [Nat.or_comm, Nat.mul_comm b, Nat.add_comm, Nat.two_pow_add_eq_or_of_lt ha]

/-- One round of Take, in the walk's own spelling. -/
theorem take_step (l : List Nat) (a k : Nat) (hk : k < 32) (hx : nth l ((a + k) / 8) < 256) :
    bits BinOp.or IntKind.u32 (numOf l a k : Int) (bits BinOp.and IntKind.u8 ((nth l ((a + k) / 8) : Int) / 2 ^ ((a + k) % 8)) 1 % 4294967296 * 2 ^ k % 4294967296) = (numOf l a (k + 1) : Int) := by
  have h1 := shr_le (nth l ((a + k) / 8)) ((a + k) % 8)
  have h2 := bitOf_lt l (a + k)
  have h3 := numOf_lt l a k
  have h4 := numOf_lt32 l a (k + 1) (by omega)
  have h5 : bitOf l (a + k) * 2 ^ k ≤ numOf l a (k + 1) := by simp only [numOf]; omega
  rw [cast_shr, and_u8_1 _ (by omega)]
  change bits BinOp.or IntKind.u32 (numOf l a k : Int) (((bitOf l (a + k) : Nat) : Int) % 4294967296 * 2 ^ k % 4294967296) = _
  rw [mod_u32 (bitOf l (a + k)) (by omega), cast_shl, mod_u32 _ (by omega), or_u32 _ _ (by have := numOf_lt32 l a k (by omega); omega) (by omega),
    or_disjoint _ _ _ h3]
  rfl

/-- Has a number at most n bits? -/
def fitsB (v : Nat) (n : Int) : Bool := decide (0 ≤ n ∧ n ≤ 32 ∧ v < 2 ^ n.toNat)

theorem fitsB_true {v : Nat} {n : Int} (h : fitsB v n = true) : 0 ≤ n ∧ n ≤ 32 ∧ v < 2 ^ n.toNat := of_decide_eq_true h
theorem fitsB_false {v : Nat} {n : Int} (h : fitsB v n = false) : ¬ (0 ≤ n ∧ n ≤ 32 ∧ v < 2 ^ n.toNat) := of_decide_eq_false h

/-- The lowest k bits of a number, the other way round. -/
def rev (v : Nat) : Nat → Nat
  | 0 => 0
  | k + 1 => 2 * rev v k + v / 2 ^ k % 2

theorem rev_lt (v k : Nat) : rev v k < 2 ^ k := by
  induction k with
  | zero => simp [rev]
  | succ k ih => simp only [rev, Nat.pow_succ]; omega

def turnV (v : Nat) (n : Int) : Nat := if fitsB v n then rev v n.toNat else 0
def turnE (v : Nat) (n : Int) : Nat := if fitsB v n then 0 else 2

theorem turn_step (v n k : Nat) (hv : v < 4294967296) (hn : n ≤ 32) (hk : k < n) :
    bits BinOp.or IntKind.u32 ((rev v k * 2 ^ (n - k) : Nat) : Int) (bits BinOp.and IntKind.u32 ((v : Int) / 2 ^ k) 1 * 2 ^ (n - 1 - k) % 4294967296) = ((rev v (k + 1) * 2 ^ (n - (k + 1)) : Nat) : Int) := by
  have h1 := shr_le v k
  have h2 := rev_lt v k
  have h3 := rev_lt v (k + 1)
  have e1 : 2 ^ (n - k) = 2 * 2 ^ (n - 1 - k) := by rw [show n - k = (n - 1 - k) + 1 by omega, Nat.pow_succ]; omega
  have e2 : n - (k + 1) = n - 1 - k := by omega
  have e3 : rev v (k + 1) * 2 ^ (n - (k + 1)) = v / 2 ^ k % 2 * 2 ^ (n - 1 - k) + rev v k * 2 ^ (n - k) := by
    rw [e2, e1]; simp only [rev, Nat.add_mul]; rw [← Nat.mul_assoc, Nat.mul_comm (rev v k) 2]; omega
  have e4 : rev v (k + 1) * 2 ^ (n - (k + 1)) < 2 ^ 32 := by
    have : (2 : Nat) ^ (k + 1) * 2 ^ (n - (k + 1)) ≤ 2 ^ 32 := by rw [← Nat.pow_add]; exact pow2_le _ _ (by omega)
    exact Nat.lt_of_lt_of_le (Nat.mul_lt_mul_of_pos_right h3 (Nat.two_pow_pos _)) this
  have e5 : v / 2 ^ k % 2 * 2 ^ (n - 1 - k) < 2 ^ (n - k) := by
    rw [e1]; exact Nat.mul_lt_mul_of_pos_right (Nat.mod_lt _ (by omega)) (Nat.two_pow_pos _)
  rw [cast_shr, and_u32_1 _ (by omega), cast_shl, mod_u32 _ (by omega), or_u32 _ _ (by omega) (by omega), Nat.or_comm, or_disjoint _ _ _ e5, e3]

/-- Take of the reference: the sum. -/
theorem number_step (l : List Nat) (a k : Nat) : (numOf l a k : Int) + (bitOf l (a + k) : Int) * ((2 ^ k : Nat) : Int) = (numOf l a (k + 1) : Int) := by
  simp [numOf]
end Go.Proofs.Ytpfhaalbikgmnaa
