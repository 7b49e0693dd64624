/-
  Words and small lemmas that all my walks share: a slice that reads as a list; endings. No program in sight.
-/
import Derived.Lib.Hide
import Derived.WalkKit
import Derived.WalkLawsBesides
import Derived.WalkSpells
namespace Go.Proofs.YtahboomghjdjhaaGreat
open Go.RowKit

theorem ret_int {k : IntKind} {a b : Int} (h : a = b) : Ending.returned (.int k a) = .returned (.int k b) := by rw [h]
theorem ret_two {k k' : IntKind} {a b a' b' : Int} (h : a = b) (h' : a' = b') : Ending.returned (.tuple #[.int k a, .int k' a']) = .returned (.tuple #[.int k b, .int k' b']) := by rw [h, h']
theorem ret_bool {a b : Bool} (h : a = b) : Ending.returned (.bool a) = .returned (.bool b) := by rw [h]

/-- The number at a place of a list, or 0. -/
def nth (l : List Nat) (i : Nat) : Nat := l[i]?.getD 0

theorem nth_lt {l : List Nat} {B : Nat} (h : ∀ x ∈ l, x < B) (hB : 0 < B) (i : Nat) : nth l i < B := by
  unfold nth
  rcases Nat.lt_or_ge i l.length with hi | hi
  · rw [List.getElem?_eq_getElem hi]; exact h _ (List.getElem_mem hi)
  · rw [List.getElem?_eq_none hi]; exact hB

/-- A slice's cells, up to its length: it may be nil or empty. -/
def Sl (w : World) (A : Option Addr) (xs : List Value) : Prop :=
  0 < xs.length → ∃ b off, A = some ⟨b, off, none⟩ ∧ ∀ i u, xs[i]? = some u → w.cell? ⟨b, off + i, none⟩ = some u

/-- A slice of bytes. -/
def Bs (w : World) (A : Option Addr) (l : List Nat) : Prop := Sl w A (l.map fun (x : Nat) => Value.int .u8 (x : Int)) ∧ ∀ x ∈ l, x < 256

theorem Bs.at_ {w : World} {A : Option Addr} {l : List Nat} (h : Bs w A l) {i : Nat} (hi : i < l.length) :
    ∃ b off, A = some ⟨b, off, none⟩ ∧ w.cell? ⟨b, off + i, none⟩ = some (.int .u8 ((nth l i : Nat) : Int)) ∧ nth l i < 256 := by
  obtain ⟨b, off, hA, hc⟩ := h.1 (by simp; omega)
  refine ⟨b, off, hA, hc i _ ?_, nth_lt h.2 (by omega) i⟩
  simp [nth, List.getElem?_eq_getElem hi]

/-! Bit operations on casts of naturals. -/
theorem and_u8 (a b : Nat) (ha : a < 256) (hb : b < 256) : bits .and .u8 (a : Int) (b : Int) = ((a &&& b : Nat) : Int) :=
  (bits_nat .u8 8 (by decide) (fun n h0 h1 => by rw [IntKind.wrap_u8]; omega) a b (by omega) (by omega)).1
theorem and_u32 (a b : Nat) (ha : a < 4294967296) (hb : b < 4294967296) : bits .and .u32 (a : Int) (b : Int) = ((a &&& b : Nat) : Int) :=
  (bits_nat .u32 32 (by decide) (fun n h0 h1 => by rw [IntKind.wrap_u32]; omega) a b (by omega) (by omega)).1
theorem or_u32 (a b : Nat) (ha : a < 4294967296) (hb : b < 4294967296) : bits .or .u32 (a : Int) (b : Int) = ((a ||| b : Nat) : Int) :=
  (bits_nat .u32 32 (by decide) (fun n h0 h1 => by rw [IntKind.wrap_u32]; omega) a b (by omega) (by omega)).2
theorem and_u8_1 (a : Nat) (ha : a < 256) : bits .and .u8 (a : Int) 1 = ((a % 2 : Nat) : Int) := by
  rw [show (1 : Int) = ((1 : Nat) : Int) from rfl, and_u8 a 1 ha (by omega), Nat.and_one_is_mod]
theorem cast_shr (x j : Nat) : (x : Int) / 2 ^ j = ((x / 2 ^ j : Nat) : Int) := by simp
theorem cast_shl (x j : Nat) : (x : Int) * 2 ^ j = ((x * 2 ^ j : Nat) : Int) := by simp
theorem mod_u32 (x : Nat) (h : x < 4294967296) : (x : Int) % 4294967296 = (x : Int) := by omega
theorem shr_le (x j : Nat) : x / 2 ^ j ≤ x := Nat.div_le_self _ _
theorem pow2_le (a b : Nat) (h : a ≤ b) : 2 ^ a ≤ 2 ^ b := Nat.pow_le_pow_right (by omega) h
end Go.Proofs.YtahboomghjdjhaaGreat

/-
  Plain facts on bits in bytes: no program in sight.
-/
namespace Go.Proofs.YtahboomghjdjhaaGreat

/-- The bit at a place of some bytes. -/
def bitOf (l : List Nat) (i : Nat) : Nat := nth l (i / 8) / 2 ^ (i % 8) % 2

theorem bitOf_lt (l : List Nat) (i : Nat) : bitOf l i < 2 := Nat.mod_lt _ (by omega)

/-- The number of n bits from a place on. -/
def numOf (l : List Nat) (a : Nat) : Nat → Nat
  | 0 => 0
  | n + 1 => numOf l a n + bitOf l (a + n) * 2 ^ n

theorem numOf_lt (l : List Nat) (a n : Nat) : numOf l a n < 2 ^ n := by
  induction n with
  | zero => simp [numOf]
  | succ n ih =>
    have h := bitOf_lt l (a + n)
    have : bitOf l (a + n) * 2 ^ n ≤ 1 * 2 ^ n := Nat.mul_le_mul_right _ (by omega)
    simp only [numOf, Nat.pow_succ]; omega

theorem numOf_lt32 (l : List Nat) (a n : Nat) (h : n ≤ 32) : numOf l a n < 4294967296 :=
  Nat.lt_of_lt_of_le (numOf_lt l a n) (Nat.pow_le_pow_right (n := 2) (i := n) (j := 32) (by omega) h)

/-- What a number of bits at a place is: the number and the error. -/
def takeE (l : List Nat) (a n : Int) : Nat :=
  if a < 0 ∨ n < 0 ∨ 32 < n then 2 else if 8 * (l.length : Int) - n < a then 10 else 0
def takeV (l : List Nat) (a n : Int) : Nat := if takeE l a n = 0 then numOf l a.toNat n.toNat else 0

theorem or_disjoint (a b n : Nat) (ha : a < 2 ^ n) : a ||| b * 2 ^ n = a + b * 2 ^ n := by
  rw [Nat.or_comm, Nat.mul_comm b, Nat.add_comm, Nat.two_pow_add_eq_or_of_lt ha]

/-- One round of Take, in the walk's own spelling. -/
theorem take_step (l : List Nat) (a k : Nat) (hk : k < 32) (hx : nth l ((a + k) / 8) < 256) :
    bits BinOp.or IntKind.u32 (numOf l a k : Int) (bits BinOp.and IntKind.u8 ((nth l ((a + k) / 8) : Int) / 2 ^ ((a + k) % 8)) 1 % 4294967296 * 2 ^ k % 4294967296) = (numOf l a (k + 1) : Int) := by
  have h1 := shr_le (nth l ((a + k) / 8)) ((a + k) % 8)
  have h2 := bitOf_lt l (a + k)
  have h3 := numOf_lt l a k
  have h4 := numOf_lt32 l a (k + 1) (by omega)
  have h5 : bitOf l (a + k) * 2 ^ k ≤ numOf l a (k + 1) := by simp only [numOf]; omega
  rw [cast_shr, and_u8_1 _ (by omega)]
  change bits BinOp.or IntKind.u32 (numOf l a k : Int) (((bitOf l (a + k) : Nat) : Int) % 4294967296 * 2 ^ k % 4294967296) = _
  rw [mod_u32 (bitOf l (a + k)) (by omega), cast_shl, mod_u32 _ (by omega), or_u32 _ _ (by have := numOf_lt32 l a k (by omega); omega) (by omega),
    or_disjoint _ _ _ h3]
  rfl

/-- Has a number at most n bits? -/
def fitsB (v : Nat) (n : Int) : Bool := decide (0 ≤ n ∧ n ≤ 32 ∧ v < 2 ^ n.toNat)

/-- The lowest k bits of a number, the other way round. -/
def rev (v : Nat) : Nat → Nat
  | 0 => 0
  | k + 1 => 2 * rev v k + v / 2 ^ k % 2

def turnV (v : Nat) (n : Int) : Nat := if fitsB v n then rev v n.toNat else 0
def turnE (v : Nat) (n : Int) : Nat := if fitsB v n then 0 else 2

/-- Take of the reference: the sum. -/
theorem number_step (l : List Nat) (a k : Nat) : (numOf l a k : Int) + (bitOf l (a + k) : Int) * ((2 ^ k : Nat) : Int) = (numOf l a (k + 1) : Int) := by
  simp [numOf]
end Go.Proofs.YtahboomghjdjhaaGreat

/-
  Plain facts on pens: bits in bytes, put one behind the other. No program in sight.
-/
namespace Go.Proofs.YtahboomghjdjhaaGreat

/-- May bytes and a count of bits be a pen? -/
def mayB (l : List Nat) (n : Int) : Bool := decide (0 ≤ n ∧ n ≤ 8388608 ∧ (l.length : Int) = (n + 7) / 8 ∧ ∀ i, i < 8 * l.length → n.toNat ≤ i → bitOf l i = 0)

/-- One bit behind a pen's. -/
def setBit (l : List Nat) (n b : Nat) : List Nat := if n % 8 = 0 then l ++ [b] else l.set (n / 8) (nth l (n / 8) + b * 2 ^ (n % 8))
/-- The k lowest bits of a number behind a pen's. -/
def putL (l : List Nat) (n v : Nat) : Nat → List Nat
  | 0 => l
  | k + 1 => setBit (putL l n v k) (n + k) (v / 2 ^ k % 2)

theorem nth_append_left (l m : List Nat) (i : Nat) (h : i < l.length) : nth (l ++ m) i = nth l i := by simp [nth, List.getElem?_append_left h]
/-- A good pen: bytes, as many as the bits want, noughts behind them. -/
structure Pen (l : List Nat) (n : Nat) : Prop where
  byte : ∀ x ∈ l, x < 256
  len : l.length = (n + 7) / 8
  nought : ∀ i, n ≤ i → bitOf l i = 0

/-- Putting and aligning: the errors. -/
def pputE (l : List Nat) (n : Int) (v : Nat) (k : Int) : Nat := if mayB l n then if fitsB v k then if 8388608 < n + k then 9 else 0 else 2 else 8
end Go.Proofs.YtahboomghjdjhaaGreat

/-
  Plain: a block's numbers, and their bits put behind a pen's. No program in sight.
-/
namespace Go.Proofs.YtahboomghjdjhaaGreat

/-- A number's bits; those of numbers. -/
def flatN (x : Nat × Nat) : List Nat := (List.range x.2).map fun i => x.1 / 2 ^ i % 2
def flat (L : List (Nat × Nat)) : List Nat := L.flatMap flatN
/-- How many bits numbers have. -/
def lenN (L : List (Nat × Nat)) : Nat := (L.map (·.2)).sum
/-- Numbers put behind a pen's bits. -/
def putAll : List Nat → Nat → List (Nat × Nat) → List Nat
  | l, _, [] => l
  | l, n, x :: L => putAll (putL l n x.1 x.2) (n + x.2) L
/-! ### A pen in two parts: whole bytes, and the rest -/
/-- Have numbers their bits? -/
def NOk (L : List (Nat × Nat)) : Prop := ∀ x ∈ L, x.2 ≤ 32 ∧ x.1 < 2 ^ x.2
/-! ### Noughts, one by one or at once -/
end Go.Proofs.YtahboomghjdjhaaGreat
