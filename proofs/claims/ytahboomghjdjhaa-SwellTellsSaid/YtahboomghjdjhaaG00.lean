/-
  Words and small lemmas that all my walks share: a slice that reads as a list; endings. No program in sight.
-/
import Derived.Lib.Hide
import Derived.WalkKit
import Derived.WalkLawsBesides
import Derived.WalkSpells
namespace Go.Proofs.Ytahboomghjdjhaa
open Go.RowKit

theorem ret_int {k : IntKind} {a b : Int} (h : a = b) : Ending.returned (.int k a) = .returned (.int k b) := by rw [h]
theorem ret_two {k k' : IntKind} {a b a' b' : Int} (h : a = b) (h' : a' = b') : Ending.returned (.tuple #[.int k a, .int k' a']) = .returned (.tuple #[.int k b, .int k' b']) := by rw [h, h']
theorem ret_bool {a b : Bool} (h : a = b) : Ending.returned (.bool a) = .returned (.bool b) := by rw [h]

/-- The number at a place of a list, or 0. -/
def nth (l : List Nat) (i : Nat) : Nat := l[i]?.getD 0

theorem nth_lt {l : List Nat} {B : Nat} (h : ∀ x ∈ l, x < B) (hB : 0 < B) (i : Nat) : nth l i < B := by
  unfold nth
  rcases Nat.lt_or_ge i l.length with hi | hi
  · rw [List.getElem?_eq_getElem hi]; exact h _ (List.getElem_mem hi)
  · rw [List.getElem?_eq_none hi]; exact hB

/-- A slice's cells, up to its length: it may be nil or empty. -/
def Sl (w : World) (A : Option Addr) (xs : List Value) : Prop :=
  0 < xs.length → ∃ b off, A = some ⟨b, off, none⟩ ∧ ∀ i u, xs[i]? = some u → w.cell? ⟨b, off + i, none⟩ = some u

/-- A slice of bytes. -/
def Bs (w : World) (A : Option Addr) (l : List Nat) : Prop := Sl w A (l.map fun (x : Nat) => Value.int .u8 (x : Int)) ∧ ∀ x ∈ l, x < 256

theorem Bs.at_ {w : World} {A : Option Addr} {l : List Nat} (h : Bs w A l) {i : Nat} (hi : i < l.length) :
    ∃ b off, A = some ⟨b, off, none⟩ ∧ w.cell? ⟨b, off + i, none⟩ = some (.int .u8 ((nth l i : Nat) : Int)) ∧ nth l i < 256 := by
  obtain ⟨b, off, hA, hc⟩ := h.1 (by simp; omega)
  refine ⟨b, off, hA, hc i _ ?_, nth_lt h.2 (by omega) i⟩
  simp [nth, List.getElem?_eq_getElem hi]

theorem Bs.lt {w : World} {A : Option Addr} {l : List Nat} (h : Bs w A l) (i : Nat) : nth l i < 256 := nth_lt h.2 (by omega) i

/-! Bit operations on casts of naturals. -/
theorem and_u8 (a b : Nat) (ha : a < 256) (hb : b < 256) : bits .and .u8 (a : Int) (b : Int) = ((a &&& b : Nat) : Int) :=
  (bits_nat .u8 8 (by decide) (fun n h0 h1 => by rw [IntKind.wrap_u8]; omega) a b (by omega) (by omega)).1
theorem or_u8 (a b : Nat) (ha : a < 256) (hb : b < 256) : bits .or .u8 (a : Int) (b : Int) = ((a ||| b : Nat) : Int) :=
  (bits_nat .u8 8 (by decide) (fun n h0 h1 => by rw [IntKind.wrap_u8]; omega) a b (by omega) (by omega)).2
theorem and_u32 (a b : Nat) (ha : a < 4294967296) (hb : b < 4294967296) : bits .and .u32 (a : Int) (b : Int) = ((a &&& b : Nat) : Int) :=
  (bits_nat .u32 32 (by decide) (fun n h0 h1 => by rw [IntKind.wrap_u32]; omega) a b (by omega) (by omega)).1
theorem or_u32 (a b : Nat) (ha : a < 4294967296) (hb : b < 4294967296) : bits .or .u32 (a : Int) (b : Int) = ((a ||| b : Nat) : Int) :=
  (bits_nat .u32 32 (by decide) (fun n h0 h1 => by rw [IntKind.wrap_u32]; omega) a b (by omega) (by omega)).2
theorem and_u8_1 (a : Nat) (ha : a < 256) : bits .and .u8 (a : Int) 1 = ((a % 2 : Nat) : Int) := by
  rw [show (1 : Int) = ((1 : Nat) : Int) from rfl, and_u8 a 1 ha (by omega), Nat.and_one_is_mod]
theorem and_u32_1 (a : Nat) (ha : a < 4294967296) : bits .and .u32 (a : Int) 1 = ((a % 2 : Nat) : Int) := by
  rw [show (1 : Int) = ((1 : Nat) : Int) from rfl, and_u32 a 1 ha (by omega), Nat.and_one_is_mod]
theorem cast_shr (x j : Nat) : (x : Int) / 2 ^ j = ((x / 2 ^ j : Nat) : Int) := by simp
theorem cast_shl (x j : Nat) : (x : Int) * 2 ^ j = ((x * 2 ^ j : Nat) : Int) := by simp
theorem mod_u32 (x : Nat) (h : x < 4294967296) : (x : Int) % 4294967296 = (x : Int) := by omega
theorem mod_u8 (x : Nat) (h : x < 256) : (x : Int) % 256 = (x : Int) := by omega
theorem shr_le (x j : Nat) : x / 2 ^ j ≤ x := Nat.div_le_self _ _
theorem pow2_le (a b : Nat) (h : a ≤ b) : 2 ^ a ≤ 2 ^ b := Nat.pow_le_pow_right (by omega) h
end Go.Proofs.Ytahboomghjdjhaa

/-
  Plain facts on bits in bytes: no program in sight.
-/
namespace Go.Proofs.Ytahboomghjdjhaa

/-- The bit at a place of some bytes. -/
def bitOf (l : List Nat) (i : Nat) : Nat := nth l (i / 8) / 2 ^ (i % 8) % 2

theorem bitOf_lt (l : List Nat) (i : Nat) : bitOf l i < 2 := Nat.mod_lt _ (by omega)

/-- The number of n bits from a place on. -/
def numOf (l : List Nat) (a : Nat) : Nat → Nat
  | 0 => 0
  | n + 1 => numOf l a n + bitOf l (a + n) * 2 ^ n

theorem numOf_lt (l : List Nat) (a n : Nat) : numOf l a n < 2 ^ n := by
  induction n with
  | zero => simp [numOf]
  | succ n ih =>
    have h := bitOf_lt l (a + n)
    have : bitOf l (a + n) * 2 ^ n ≤ 1 * 2 ^ n := Nat.mul_le_mul_right _ (by omega)
    simp only [numOf, Nat.pow_succ]; omega

theorem numOf_lt32 (l : List Nat) (a n : Nat) (h : n ≤ 32) : numOf l a n < 4294967296 :=
  Nat.lt_of_lt_of_le (numOf_lt l a n) (Nat.pow_le_pow_right (n := 2) (i := n) (j := 32) (by omega) h)

/-- What a number of bits at a place is: the number and the error. -/
def takeE (l : List Nat) (a n : Int) : Nat :=
  if a < 0 ∨ n < 0 ∨ 32 < n then 2 else if 8 * (l.length : Int) - n < a then 10 else 0
def takeV (l : List Nat) (a n : Int) : Nat := if takeE l a n = 0 then numOf l a.toNat n.toNat else 0

theorem or_disjoint (a b n : Nat) (ha : a < 2 ^ n) : a ||| b * 2 ^ n = a + b * 2 ^ n := by
  rw [Nat.or_comm, Nat.mul_comm b, Nat.add_comm, Nat.two_pow_add_eq_or_of_lt ha]

/-- One round of Take, in the walk's own spelling. -/
theorem take_step (l : List Nat) (a k : Nat) (hk : k < 32) (hx : nth l ((a + k) / 8) < 256) :
    bits BinOp.or IntKind.u32 (numOf l a k : Int) (bits BinOp.and IntKind.u8 ((nth l ((a + k) / 8) : Int) / 2 ^ ((a + k) % 8)) 1 % 4294967296 * 2 ^ k % 4294967296) = (numOf l a (k + 1) : Int) := by
  have h1 := shr_le (nth l ((a + k) / 8)) ((a + k) % 8)
  have h2 := bitOf_lt l (a + k)
  have h3 := numOf_lt l a k
  have h4 := numOf_lt32 l a (k + 1) (by omega)
  have h5 : bitOf l (a + k) * 2 ^ k ≤ numOf l a (k + 1) := by simp only [numOf]; omega
  rw [cast_shr, and_u8_1 _ (by omega)]
  change bits BinOp.or IntKind.u32 (numOf l a k : Int) (((bitOf l (a + k) : Nat) : Int) % 4294967296 * 2 ^ k % 4294967296) = _
  rw [mod_u32 (bitOf l (a + k)) (by omega), cast_shl, mod_u32 _ (by omega), or_u32 _ _ (by have := numOf_lt32 l a k (by omega); omega) (by omega),
    or_disjoint _ _ _ h3]
  rfl

/-- Has a number at most n bits? -/
def fitsB (v : Nat) (n : Int) : Bool := decide (0 ≤ n ∧ n ≤ 32 ∧ v < 2 ^ n.toNat)

theorem fitsB_true {v : Nat} {n : Int} (h : fitsB v n = true) : 0 ≤ n ∧ n ≤ 32 ∧ v < 2 ^ n.toNat := of_decide_eq_true h
theorem fitsB_false {v : Nat} {n : Int} (h : fitsB v n = false) : ¬ (0 ≤ n ∧ n ≤ 32 ∧ v < 2 ^ n.toNat) := of_decide_eq_false h

/-- The lowest k bits of a number, the other way round. -/
def rev (v : Nat) : Nat → Nat
  | 0 => 0
  | k + 1 => 2 * rev v k + v / 2 ^ k % 2

theorem rev_lt (v k : Nat) : rev v k < 2 ^ k := by
  induction k with
  | zero => simp [rev]
  | succ k ih => simp only [rev, Nat.pow_succ]; omega

def turnV (v : Nat) (n : Int) : Nat := if fitsB v n then rev v n.toNat else 0
def turnE (v : Nat) (n : Int) : Nat := if fitsB v n then 0 else 2

theorem turn_step (v n k : Nat) (hv : v < 4294967296) (hn : n ≤ 32) (hk : k < n) :
    bits BinOp.or IntKind.u32 ((rev v k * 2 ^ (n - k) : Nat) : Int) (bits BinOp.and IntKind.u32 ((v : Int) / 2 ^ k) 1 * 2 ^ (n - 1 - k) % 4294967296) = ((rev v (k + 1) * 2 ^ (n - (k + 1)) : Nat) : Int) := by
  have h1 := shr_le v k
  have h2 := rev_lt v k
  have h3 := rev_lt v (k + 1)
  have e1 : 2 ^ (n - k) = 2 * 2 ^ (n - 1 - k) := by rw [show n - k = (n - 1 - k) + 1 by omega, Nat.pow_succ]; omega
  have e2 : n - (k + 1) = n - 1 - k := by omega
  have e3 : rev v (k + 1) * 2 ^ (n - (k + 1)) = v / 2 ^ k % 2 * 2 ^ (n - 1 - k) + rev v k * 2 ^ (n - k) := by
    rw [e2, e1]; simp only [rev, Nat.add_mul]; rw [← Nat.mul_assoc, Nat.mul_comm (rev v k) 2]; omega
  have e4 : rev v (k + 1) * 2 ^ (n - (k + 1)) < 2 ^ 32 := by
    have : (2 : Nat) ^ (k + 1) * 2 ^ (n - (k + 1)) ≤ 2 ^ 32 := by rw [← Nat.pow_add]; exact pow2_le _ _ (by omega)
    exact Nat.lt_of_lt_of_le (Nat.mul_lt_mul_of_pos_right h3 (Nat.two_pow_pos _)) this
  have e5 : v / 2 ^ k % 2 * 2 ^ (n - 1 - k) < 2 ^ (n - k) := by
    rw [e1]; exact Nat.mul_lt_mul_of_pos_right (Nat.mod_lt _ (by omega)) (Nat.two_pow_pos _)
  rw [cast_shr, and_u32_1 _ (by omega), cast_shl, mod_u32 _ (by omega), or_u32 _ _ (by omega) (by omega), Nat.or_comm, or_disjoint _ _ _ e5, e3]

/-- Take of the reference: the sum. -/
theorem number_step (l : List Nat) (a k : Nat) : (numOf l a k : Int) + (bitOf l (a + k) : Int) * ((2 ^ k : Nat) : Int) = (numOf l a (k + 1) : Int) := by
  simp [numOf]
end Go.Proofs.Ytahboomghjdjhaa

/-
  Plain facts on pens: bits in bytes, put one behind the other. No program in sight.
-/
namespace Go.Proofs.Ytahboomghjdjhaa

theorem high_bits : ∀ x, x < 256 → ∀ k, k < 8 → ((∀ j, j < 8 → k ≤ j → x / 2 ^ j % 2 = 0) ↔ x / 2 ^ k = 0) := by decide +kernel

/-- May bytes and a count of bits be a pen? -/
def mayB (l : List Nat) (n : Int) : Bool := decide (0 ≤ n ∧ n ≤ 8388608 ∧ (l.length : Int) = (n + 7) / 8 ∧ ∀ i, i < 8 * l.length → n.toNat ≤ i → bitOf l i = 0)

theorem bitOf_at (l : List Nat) (q j : Nat) (hj : j < 8) : bitOf l (8 * q + j) = nth l q / 2 ^ j % 2 := by
  unfold bitOf
  rw [show (8 * q + j) / 8 = q by omega, show (8 * q + j) % 8 = j by omega]

theorem tail_bits (l : List Nat) (hl : ∀ x ∈ l, x < 256) (n : Nat) (hn : l.length = (n + 7) / 8) (h8 : n % 8 ≠ 0) :
    (∀ i, i < 8 * l.length → n ≤ i → bitOf l i = 0) ↔ nth l (l.length - 1) / 2 ^ (n % 8) = 0 := by
  have hq : l.length - 1 = n / 8 := by omega
  rw [hq]
  have hx : nth l (n / 8) < 256 := nth_lt hl (by omega) _
  rw [← high_bits _ hx _ (by omega)]
  constructor
  · intro h j hj hk
    have := h (8 * (n / 8) + j) (by omega) (by omega)
    rwa [bitOf_at _ _ _ hj] at this
  · intro h i hi hn'
    have e : i = 8 * (n / 8) + i % 8 := by omega
    rw [e, bitOf_at _ _ _ (by omega)]
    exact h _ (by omega) (by omega)

theorem mayB_full (l : List Nat) (n : Nat) (h1 : n ≤ 8388608) (hn : l.length = (n + 7) / 8) (h8 : n % 8 = 0) : mayB l n = true := by
  unfold mayB
  rw [decide_eq_true_iff]
  exact ⟨by omega, by omega, by omega, fun i hi hk => by omega⟩
theorem mayB_over (l : List Nat) (hl : ∀ x ∈ l, x < 256) (n : Nat) (h1 : n ≤ 8388608) (hn : l.length = (n + 7) / 8) (h8 : n % 8 ≠ 0) :
    mayB l n = decide (nth l (l.length - 1) / 2 ^ (n % 8) = 0) := by
  unfold mayB
  rw [Bool.eq_iff_iff, decide_eq_true_iff, decide_eq_true_iff, ← tail_bits l hl n hn h8]
  exact ⟨fun h i hi hk => h.2.2.2 i hi (by simpa using hk), fun h => ⟨by omega, by omega, by omega, fun i hi hk => h i hi (by simpa using hk)⟩⟩

/-- What a pen that may be is like. -/
theorem mayB_true {l : List Nat} {n : Int} (h : mayB l n = true) : ∃ m : Nat, n = m ∧ m ≤ 8388608 ∧ l.length = (m + 7) / 8 ∧ ∀ i, i < 8 * l.length → m ≤ i → bitOf l i = 0 := by
  obtain ⟨h0, h1, h2, h3⟩ := of_decide_eq_true h
  obtain ⟨m, rfl⟩ := Int.eq_ofNat_of_zero_le h0
  exact ⟨m, rfl, by omega, by omega, by simpa using h3⟩

/-- One bit behind a pen's. -/
def setBit (l : List Nat) (n b : Nat) : List Nat := if n % 8 = 0 then l ++ [b] else l.set (n / 8) (nth l (n / 8) + b * 2 ^ (n % 8))
/-- The k lowest bits of a number behind a pen's. -/
def putL (l : List Nat) (n v : Nat) : Nat → List Nat
  | 0 => l
  | k + 1 => setBit (putL l n v k) (n + k) (v / 2 ^ k % 2)

theorem nth_append_left (l m : List Nat) (i : Nat) (h : i < l.length) : nth (l ++ m) i = nth l i := by simp [nth, List.getElem?_append_left h]
theorem nth_append_one (l : List Nat) (b : Nat) : nth (l ++ [b]) l.length = b := by simp [nth]
theorem nth_beyond (l : List Nat) (i : Nat) (h : l.length ≤ i) : nth l i = 0 := by simp [nth, List.getElem?_eq_none h]
theorem pnth_set (l : List Nat) (j x i : Nat) (hj : j < l.length) : nth (l.set j x) i = if j = i then x else nth l i := by
  unfold nth
  rw [List.getElem?_set]
  by_cases h : j = i
  · subst h; simp [hj]
  · simp [h]

theorem bitOf_beyond (l : List Nat) (i : Nat) (h : 8 * l.length ≤ i) : bitOf l i = 0 := by
  unfold bitOf; rw [nth_beyond _ _ (by omega)]; simp

theorem low_bits : ∀ x, x < 256 → ∀ k, k < 8 → x / 2 ^ k = 0 → ∀ b, b < 2 → x + b * 2 ^ k < 256 ∧ ∀ j, j < 8 → (x + b * 2 ^ k) / 2 ^ j % 2 = if j = k then b else x / 2 ^ j % 2 := by decide +kernel
theorem one_bit : ∀ b, b < 2 → ∀ j, j < 8 → b / 2 ^ j % 2 = if j = 0 then b else 0 := by decide

/-- A good pen: bytes, as many as the bits want, noughts behind them. -/
structure Pen (l : List Nat) (n : Nat) : Prop where
  byte : ∀ x ∈ l, x < 256
  len : l.length = (n + 7) / 8
  nought : ∀ i, n ≤ i → bitOf l i = 0

theorem Pen.last {l : List Nat} {n : Nat} (h : Pen l n) (h8 : n % 8 ≠ 0) : nth l (n / 8) / 2 ^ (n % 8) = 0 := by
  have := (tail_bits l h.byte n h.len h8).1 fun i _ hk => h.nought i hk
  rwa [show l.length - 1 = n / 8 by have := h.len; omega] at this

theorem Pen.bit {l : List Nat} {n b : Nat} (h : Pen l n) (hb : b < 2) : Pen (setBit l n b) (n + 1) ∧ ∀ i, bitOf (setBit l n b) i = if i = n then b else bitOf l i := by
  have hlen := h.len
  by_cases h8 : n % 8 = 0
  · have e : setBit l n b = l ++ [b] := by simp [setBit, h8]
    have hl : l.length = n / 8 := by omega
    have hbits : ∀ i, bitOf (l ++ [b]) i = if i = n then b else bitOf l i := by
      intro i
      rcases Nat.lt_or_ge i (8 * l.length) with hi | hi
      · rw [if_neg (by omega)]; unfold bitOf; rw [nth_append_left _ _ _ (by omega)]
      · rcases Nat.lt_or_ge i (8 * l.length + 8) with hi2 | hi2
        · have e2 : i = 8 * l.length + (i - 8 * l.length) := by omega
          rw [e2, bitOf_at _ _ _ (by omega), nth_append_one, one_bit b hb _ (by omega)]
          by_cases hz : i - 8 * l.length = 0
          · rw [if_pos hz, if_pos (by omega)]
          · rw [if_neg hz, if_neg (by omega), bitOf_beyond _ _ (by omega)]
        · rw [if_neg (by omega), bitOf_beyond _ _ (by simp; omega), bitOf_beyond _ _ (by omega)]
    rw [e]
    refine ⟨⟨fun x hx => ?_, by simp; omega, fun i hi => ?_⟩, hbits⟩
    · rcases List.mem_append.1 hx with hx | hx
      · exact h.byte x hx
      · simp at hx; omega
    · rw [hbits, if_neg (by omega), h.nought i (by omega)]
  · have e : setBit l n b = l.set (n / 8) (nth l (n / 8) + b * 2 ^ (n % 8)) := by simp [setBit, h8]
    have hq : n / 8 < l.length := by omega
    obtain ⟨hlt, hj⟩ := low_bits _ (nth_lt h.byte (by omega) (n / 8)) (n % 8) (by omega) (h.last h8) b hb
    have hbits : ∀ i, bitOf (l.set (n / 8) (nth l (n / 8) + b * 2 ^ (n % 8))) i = if i = n then b else bitOf l i := by
      intro i
      unfold bitOf
      rw [pnth_set _ _ _ _ hq]
      by_cases hi : n / 8 = i / 8
      · rw [if_pos hi, hj _ (by omega)]
        by_cases hz : i % 8 = n % 8
        · rw [if_pos hz, if_pos (by omega)]
        · rw [if_neg hz, if_neg (by omega), hi]
      · rw [if_neg hi, if_neg (by omega)]
    rw [e]
    refine ⟨⟨fun x hx => ?_, by simp; omega, fun i hi => ?_⟩, hbits⟩
    · rcases List.mem_or_eq_of_mem_set hx with hx | hx
      · exact h.byte x hx
      · omega
    · rw [hbits, if_neg (by omega), h.nought i (by omega)]

theorem Pen.put {l : List Nat} {n : Nat} (h : Pen l n) (v k : Nat) : Pen (putL l n v k) (n + k) ∧ ∀ i, bitOf (putL l n v k) i = if i < n then bitOf l i else if i < n + k then v / 2 ^ (i - n) % 2 else 0 := by
  induction k with
  | zero =>
    refine ⟨h, fun i => ?_⟩
    by_cases hi : i < n
    · rw [if_pos hi]; rfl
    · rw [if_neg hi, if_neg (by omega)]; exact h.nought i (by omega)
  | succ k ih =>
    obtain ⟨h1, h2⟩ := ih
    obtain ⟨h3, h4⟩ := h1.bit (b := v / 2 ^ k % 2) (Nat.mod_lt _ (by omega))
    refine ⟨h3, fun i => ?_⟩
    simp only [putL]
    rw [h4, h2]
    by_cases hi : i = n + k
    · subst hi; rw [if_pos rfl, if_neg (by omega), if_pos (by omega), show n + k - n = k by omega]
    · rw [if_neg hi]
      by_cases h5 : i < n
      · rw [if_pos h5, if_pos h5]
      · rw [if_neg h5, if_neg h5]
        by_cases h6 : i < n + k
        · rw [if_pos h6, if_pos (by omega)]
        · rw [if_neg h6, if_neg (by omega)]

theorem Pen.of_may {l : List Nat} {m : Nat} (hl : ∀ x ∈ l, x < 256) (h : mayB l m = true) : Pen l m ∧ m ≤ 8388608 := by
  obtain ⟨m', e, h1, h2, h3⟩ := mayB_true h
  obtain rfl : m = m' := by omega
  refine ⟨⟨hl, h2, fun i hi => ?_⟩, h1⟩
  rcases Nat.lt_or_ge i (8 * l.length) with h | h
  · exact h3 i h hi
  · exact bitOf_beyond _ _ h
theorem Pen.may {l : List Nat} {n : Nat} (h : Pen l n) (hn : n ≤ 8388608) : mayB l n = true := by
  unfold mayB
  rw [decide_eq_true_iff]
  have := h.len
  exact ⟨by omega, by omega, by omega, fun i _ hk => h.nought i (by simpa using hk)⟩

/-- Bytes are told by their bits. -/
theorem byte_ext : ∀ x, x < 256 → ∀ y, y < 256 → (∀ j, j < 8 → x / 2 ^ j % 2 = y / 2 ^ j % 2) → x = y := by
  intro x hx y hy h
  have h0 := h 0 (by omega); have h1 := h 1 (by omega); have h2 := h 2 (by omega); have h3 := h 3 (by omega)
  have h4 := h 4 (by omega); have h5 := h 5 (by omega); have h6 := h 6 (by omega); have h7 := h 7 (by omega)
  simp at h0 h1 h2 h3 h4 h5 h6 h7
  omega
theorem bytes_ext {l m : List Nat} (hl : ∀ x ∈ l, x < 256) (hm : ∀ x ∈ m, x < 256) (h : l.length = m.length) (hb : ∀ i, i < 8 * l.length → bitOf l i = bitOf m i) : l = m := by
  apply List.ext_getElem h
  intro q h1 h2
  have e := byte_ext (nth l q) (nth_lt hl (by omega) q) (nth m q) (nth_lt hm (by omega) q) fun j hj => by
    have := hb (8 * q + j) (by omega)
    rwa [bitOf_at _ _ _ hj, bitOf_at _ _ _ hj] at this
  simpa [nth, List.getElem?_eq_getElem h1, List.getElem?_eq_getElem h2] using e

theorem numOf_congr {l m : List Nat} {a b k : Nat} (h : ∀ i, i < k → bitOf l (a + i) = bitOf m (b + i)) : numOf l a k = numOf m b k := by
  induction k with
  | zero => rfl
  | succ k ih => simp only [numOf]; rw [ih (fun i hi => h i (by omega)), h k (by omega)]
theorem numOf_bits (l : List Nat) (a v k : Nat) (h : ∀ i, i < k → bitOf l (a + i) = v / 2 ^ i % 2) : numOf l a k = v % 2 ^ k := by
  induction k with
  | zero => simp [numOf, Nat.mod_one]
  | succ k ih =>
    simp only [numOf]
    rw [ih (fun i hi => h i (by omega)), h k (by omega), Nat.pow_succ, Nat.mod_mul, Nat.mul_comm (v / 2 ^ k % 2)]
/-- What was put is taken. -/
theorem Pen.back {l : List Nat} {n : Nat} (h : Pen l n) (v k : Nat) (hv : v < 2 ^ k) : numOf (putL l n v k) n k = v := by
  rw [numOf_bits _ _ v _ fun i hi => ?_, Nat.mod_eq_of_lt hv]
  rw [(h.put v k).2, if_neg (by omega), if_pos (by omega), show n + i - n = i by omega]

/-- Putting and aligning: the errors. -/
def pputE (l : List Nat) (n : Int) (v : Nat) (k : Int) : Nat := if mayB l n then if fitsB v k then if 8388608 < n + k then 9 else 0 else 2 else 8
end Go.Proofs.Ytahboomghjdjhaa

/-
  Plain: a block's numbers, and their bits put behind a pen's. No program in sight.
-/
namespace Go.Proofs.Ytahboomghjdjhaa

/-- A number's bits; those of numbers. -/
def flatN (x : Nat × Nat) : List Nat := (List.range x.2).map fun i => x.1 / 2 ^ i % 2
def flat (L : List (Nat × Nat)) : List Nat := L.flatMap flatN
theorem flatN_length (x : Nat × Nat) : (flatN x).length = x.2 := by simp [flatN]
theorem flatN_at (x : Nat × Nat) (i : Nat) (h : i < x.2) : nth (flatN x) i = x.1 / 2 ^ i % 2 := by simp [flatN, nth, h]
theorem flat_append (L M : List (Nat × Nat)) : flat (L ++ M) = flat L ++ flat M := by simp [flat]
theorem flat_cons (x : Nat × Nat) (L : List (Nat × Nat)) : flat (x :: L) = flatN x ++ flat L := by simp [flat]
/-- How many bits numbers have. -/
def lenN (L : List (Nat × Nat)) : Nat := (L.map (·.2)).sum
theorem lenN_append (L M : List (Nat × Nat)) : lenN (L ++ M) = lenN L + lenN M := by simp [lenN]
theorem lenN_cons (x : Nat × Nat) (L : List (Nat × Nat)) : lenN (x :: L) = x.2 + lenN L := by simp [lenN]
theorem flat_length (L : List (Nat × Nat)) : (flat L).length = lenN L := by
  induction L with
  | nil => rfl
  | cons x L ih => rw [flat_cons, List.length_append, flatN_length, ih, lenN_cons]
theorem lenN_le {B : Nat} {L : List (Nat × Nat)} (h : ∀ x ∈ L, x.2 ≤ B) : lenN L ≤ L.length * B := by
  induction L with
  | nil => simp [lenN]
  | cons x L ih =>
    have h1 := h x List.mem_cons_self
    have h2 := ih fun y hy => h y (List.mem_cons_of_mem _ hy)
    rw [lenN_cons, List.length_cons, Nat.add_mul]; omega
theorem lenN_take_le (L : List (Nat × Nat)) (k : Nat) : lenN (L.take k) ≤ lenN L := by
  have e : lenN (L.take k) + lenN (L.drop k) = lenN L := by rw [← lenN_append, List.take_append_drop]
  omega
theorem lenN_take_succ (L : List (Nat × Nat)) (k : Nat) (h : k < L.length) : lenN (L.take (k + 1)) = lenN (L.take k) + L[k].2 := by
  rw [List.take_succ_eq_append_getElem h, lenN_append]; simp [lenN]

/-- Numbers put behind a pen's bits. -/
def putAll : List Nat → Nat → List (Nat × Nat) → List Nat
  | l, _, [] => l
  | l, n, x :: L => putAll (putL l n x.1 x.2) (n + x.2) L
theorem putAll_append : ∀ (L M : List (Nat × Nat)) (l : List Nat) (n : Nat), putAll l n (L ++ M) = putAll (putAll l n L) (n + lenN L) M
  | [], M, l, n => by simp [putAll, lenN]
  | x :: L, M, l, n => by
    rw [List.cons_append, putAll, putAll, putAll_append L M, lenN_cons, Nat.add_assoc]
theorem putAll_succ (L : List (Nat × Nat)) (k : Nat) (h : k < L.length) (l : List Nat) (n : Nat) : putAll l n (L.take (k + 1)) = putL (putAll l n (L.take k)) (n + lenN (L.take k)) L[k].1 L[k].2 := by
  rw [List.take_succ_eq_append_getElem h, putAll_append]; rfl
theorem bnth_append (a b : List Nat) (i : Nat) : nth (a ++ b) i = if i < a.length then nth a i else nth b (i - a.length) := by
  unfold nth
  rw [List.getElem?_append]
  split <;> rfl
theorem Pen.all : ∀ (L : List (Nat × Nat)) {l : List Nat} {n : Nat}, Pen l n → Pen (putAll l n L) (n + lenN L) ∧ ∀ i, bitOf (putAll l n L) i = if i < n then bitOf l i else nth (flat L) (i - n)
  | [], l, n, h => by
    refine ⟨by simpa [putAll, lenN] using h, fun i => ?_⟩
    by_cases hi : i < n
    · rw [if_pos hi]; rfl
    · rw [if_neg hi]
      show bitOf l i = nth [] (i - n)
      rw [h.nought i (by omega)]; rfl
  | x :: L, l, n, h => by
    obtain ⟨h1, h2⟩ := h.put x.1 x.2
    obtain ⟨h3, h4⟩ := Pen.all L h1
    rw [lenN_cons, ← Nat.add_assoc]
    refine ⟨h3, fun i => ?_⟩
    rw [putAll, h4, flat_cons, bnth_append, flatN_length, h2]
    by_cases hi : i < n
    · rw [if_pos (by omega), if_pos hi, if_pos hi]
    · rw [if_neg hi, if_neg hi]
      by_cases hj : i < n + x.2
      · rw [if_pos hj, if_pos hj, if_pos (by omega), flatN_at _ _ (by omega)]
      · rw [if_neg hj, if_neg (by omega), show i - (n + x.2) = i - n - x.2 by omega]
/-- Only the bits count. -/
theorem putAll_flat {L M : List (Nat × Nat)} {l : List Nat} {n : Nat} (h : Pen l n) (e : flat L = flat M) : putAll l n L = putAll l n M := by
  obtain ⟨h1, h2⟩ := h.all L
  obtain ⟨h3, h4⟩ := h.all M
  have hl : lenN L = lenN M := by rw [← flat_length, ← flat_length, e]
  refine bytes_ext h1.byte h3.byte ?_ fun i _ => ?_
  · rw [h1.len, h3.len, hl]
  · rw [h2, h4, e]

/-! ### A pen in two parts: whole bytes, and the rest -/
theorem nth_pre (o e : List Nat) (i : Nat) : nth (o ++ e) (o.length + i) = nth e i := by
  rw [bnth_append, if_neg (by omega), show o.length + i - o.length = i by omega]
theorem setBit_app (o e : List Nat) (n b : Nat) (_ : n % 8 ≠ 0 → n / 8 < e.length) : setBit (o ++ e) (8 * o.length + n) b = o ++ setBit e n b := by
  unfold setBit
  rw [show (8 * o.length + n) % 8 = n % 8 by omega, show (8 * o.length + n) / 8 = o.length + n / 8 by omega, nth_pre]
  by_cases h8 : n % 8 = 0
  · rw [if_pos h8, if_pos h8, List.append_assoc]
  · rw [if_neg h8, if_neg h8, List.set_append_right _ _ (by omega), show o.length + n / 8 - o.length = n / 8 by omega]
theorem putL_app {o e : List Nat} {n : Nat} (h : Pen e n) (v : Nat) : ∀ k, putL (o ++ e) (8 * o.length + n) v k = o ++ putL e n v k
  | 0 => rfl
  | k + 1 => by
    rw [putL, putL, putL_app h v k, Nat.add_assoc, setBit_app]
    intro h8
    have := (h.put v k).1.len
    omega
theorem bitOf_drop (l : List Nat) (q i : Nat) : bitOf (l.drop q) i = bitOf l (8 * q + i) := by
  unfold bitOf
  rw [show (8 * q + i) / 8 = q + i / 8 by omega, show (8 * q + i) % 8 = i % 8 by omega]
  simp [nth]
theorem Pen.drop {l : List Nat} {n : Nat} (h : Pen l n) : Pen (l.drop (n / 8)) (n % 8) := by
  have := h.len
  refine ⟨fun x hx => h.byte x (List.mem_of_mem_drop hx), by rw [List.length_drop]; omega, fun i hi => ?_⟩
  rw [bitOf_drop]
  exact h.nought _ (by omega)
/-- One round of Write: its bytes so far, and the rest. -/
theorem write_step {o e l : List Nat} {n b k : Nat} {L : List (Nat × Nat)} (hk : k < L.length) (hP : Pen e b) (h : o ++ e = putAll l n (L.take k)) (hb : 8 * o.length + b = n + lenN (L.take k)) :
    Pen ((putL e b L[k].1 L[k].2).drop ((b + L[k].2) / 8)) ((b + L[k].2) % 8) ∧ (b + L[k].2) / 8 ≤ (putL e b L[k].1 L[k].2).length ∧
    (o ++ (putL e b L[k].1 L[k].2).take ((b + L[k].2) / 8)) ++ (putL e b L[k].1 L[k].2).drop ((b + L[k].2) / 8) = putAll l n (L.take (k + 1)) ∧
    8 * (o.length + (b + L[k].2) / 8) + (b + L[k].2) % 8 = n + lenN (L.take (k + 1)) := by
  have h1 := (hP.put L[k].1 L[k].2).1
  have h2 := h1.len
  refine ⟨h1.drop, by omega, ?_, ?_⟩
  · rw [List.append_assoc, List.take_append_drop, putAll_succ L k hk, ← h, ← hb, putL_app hP]
  · rw [lenN_take_succ L k hk]; omega

/-- Have numbers their bits? -/
def NOk (L : List (Nat × Nat)) : Prop := ∀ x ∈ L, x.2 ≤ 32 ∧ x.1 < 2 ^ x.2
theorem NOk.append {L M : List (Nat × Nat)} (h : NOk L) (k : NOk M) : NOk (L ++ M) := fun x hx => by
  rcases List.mem_append.1 hx with hx | hx
  · exact h x hx
  · exact k x hx
theorem NOk.fits {L : List (Nat × Nat)} (h : NOk L) {k : Nat} (hk : k < L.length) : fitsB L[k].1 (L[k].2 : Nat) = true := by
  have := h L[k] (List.getElem_mem hk)
  unfold fitsB
  rw [decide_eq_true_iff]
  exact ⟨by omega, by omega, by simpa using this.2⟩
theorem NOk.lt {L : List (Nat × Nat)} (h : NOk L) : ∀ x ∈ L, x.1 < 4294967296 ∧ x.2 ≤ 32 := fun x hx => by
  obtain ⟨h1, h2⟩ := h x hx
  have := Nat.pow_le_pow_right (n := 2) (by omega) h1
  exact ⟨by omega, h1⟩

/-! ### Noughts, one by one or at once -/
theorem flat_noughts (n : Nat) : flat (List.replicate n (0, 1)) = List.replicate n 0 := by
  induction n with
  | zero => rfl
  | succ n ih => rw [List.replicate_succ, flat_cons, ih]; rfl
theorem flatN_zero (n : Nat) : flatN (0, n) = List.replicate n 0 := by
  unfold flatN
  rw [List.eq_replicate_iff]
  refine ⟨by simp, fun x hx => ?_⟩
  obtain ⟨i, _, rfl⟩ := List.mem_map.1 hx
  simp
end Go.Proofs.Ytahboomghjdjhaa
