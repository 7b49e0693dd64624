/-
  Plain facts on pens: bits in bytes, put one behind the other. No program in sight.
-/
import Derived.Test.YtpfhaalbikgmnaaBitsM
namespace Go.Proofs.Ytpfhaalbikgmnaa

theorem high_bits : ∀ x, x < 256 → ∀ k, k < 8 → ((∀ j, j < 8 → k ≤ j → x / 2 ^ j % 2 = 0) ↔ x / 2 ^ k = 0) := by decide +kernel

/-- May bytes and a count of bits be a pen? -/
def mayB (l : List Nat) (n : Int) : Bool := decide (0 ≤ n ∧ n ≤ 8388608 ∧ (l.length : Int) = (n + 7) / 8 ∧ ∀ i, i < 8 * l.length → n.toNat ≤ i → bitOf l i = 0)

theorem bitOf_at (l : List Nat) (q j : Nat) (hj : j < 8) : bitOf l (8 * q + j) = nth l q / 2 ^ j % 2 := by
  unfold bitOf
  rw [show (8 * q + j) / 8 = q by omega, show (8 * q + j) % 8 = j by omega]

theorem tail_bits (l : List Nat) (hl : ∀ x ∈ l, x < 256) (n : Nat) (hn : l.length = (n + 7) / 8) (h8 : n % 8 ≠ 0) :
    (∀ i, i < 8 * l.length → n ≤ i → bitOf l i = 0) ↔ nth l (l.length - 1) / 2 ^ (n % 8) = 0 := by
  have hq : l.length - 1 = n / 8 := by omega
  rw [hq]
  have hx : nth l (n / 8) < 256 := nth_lt hl (by omega) _
  rw [← high_bits _ hx _ (by omega)]
  constructor
  · intro h j hj hk
    have := h (8 * (n / 8) + j) (by omega) (by omega)
    rwa [bitOf_at _ _ _ hj] at this
  · intro h i hi hn'
    have e : i = 8 * (n / 8) + i % 8 := by omega
    rw [e, bitOf_at _ _ _ (by omega)]
    exact h _ (by omega) (by omega)

theorem mayB_full (l : List Nat) (n : Nat) (h1 : n ≤ 8388608) (hn : l.length = (n + 7) / 8) (h8 : n % 8 = 0) : mayB l n = true := by
  unfold mayB
  rw [decide_eq_true_iff]
  exact ⟨by omega, by omega, by omega, fun i hi hk => by omega⟩
theorem mayB_over (l : List Nat) (hl : ∀ x ∈ l, x < 256) (n : Nat) (h1 : n ≤ 8388608) (hn : l.length = (n + 7) / 8) (h8 : n % 8 ≠ 0) :
    mayB l n = decide (nth l (l.length - 1) / 2 ^ (n % 8) = 0) := by
  unfold mayB
  rw [Bool.eq_iff_iff, decide_eq_true_iff, decide_eq_true_iff, ← tail_bits l hl n hn h8]
  exact ⟨fun h i hi hk => h.2.2.2 i hi (by simpa using hk), fun h => ⟨by omega, by omega, by omega, fun i hi hk => h i hi (by simpa using hk)⟩⟩

/-- What a pen that may be is like. -/
theorem mayB_true {l : List Nat} {n : Int} (h : mayB l n = true) : ∃ m : Nat, n = m ∧ m ≤ 8388608 ∧ l.length = (m + 7) / 8 ∧ ∀ i, i < 8 * l.length → m ≤ i → bitOf l i = 0 := by
  obtain ⟨h0, h1, h2, h3⟩ := of_decide_eq_true h
  obtain ⟨m, rfl⟩ := Int.eq_ofNat_of_zero_le h0
  exact ⟨m, rfl, by omega, by omega, by simpa using h3⟩

/-- One bit behind a pen's. -/
def setBit (l : List Nat) (n b : Nat) : List Nat := if n % 8 = 0 then l ++ [b] else l.set (n / 8) (nth l (n / 8) + b * 2 ^ (n % 8))
/-- The k lowest bits of a number behind a pen's. -/
def putL (l : List Nat) (n v : Nat) : Nat → List Nat
  | 0 => l
  | k + 1 => setBit (putL l n v k) (n + k) (v / 2 ^ k % 2)

theorem nth_append_left (l m : List Nat) (i : Nat) (h : i < l.length) : nth (l ++ m) i = nth l i := by simp [nth, List.getElem?_append_left h]
theorem nth_append_one (l : List Nat) (b : Nat) : nth (l ++ [b]) l.length = b := by simp [nth]
theorem nth_beyond (l : List Nat) (i : Nat) (h : l.length ≤ i) : nth l i = 0 := by simp [nth, List.getElem?_eq_none h]
theorem pnth_set (l : List Nat) (j x i : Nat) (hj : j < l.length) : nth (l.set j x) i = if j = i then x else nth l i := by
  unfold nth
  rw [List.getElem?_set]
  by_cases h : j = i
  · subst h; simp [hj]
  · simp [h]

theorem bitOf_beyond (l : List Nat) (i : Nat) (h : 8 * l.length ≤ i) : bitOf l i = 0 := by
  unfold bitOf; rw [nth_beyond _ _ (by omega)]; simp

theorem low_bits : ∀ x, x < 256 → ∀ k, k < 8 → x / 2 ^ k = 0 → ∀ b, b < 2 → x + b * 2 ^ k < 256 ∧ ∀ j, j < 8 → (x + b * 2 ^ k) / 2 ^ j % 2 = if j = k then b else x / 2 ^ j % 2 := by decide +kernel
theorem one_bit : ∀ b, b < 2 → ∀ j, j < 8 → b / 2 ^ j % 2 = if j = 0 then b else 0 := by decide

/-- A good pen: bytes, as many as the bits want, noughts behind them. -/
structure Pen (l : List Nat) (n : Nat) : Prop where
  byte : ∀ x ∈ l, x < 256
  len : l.length = (n + 7) / 8
  nought : ∀ i, n ≤ i → bitOf l i = 0

theorem Pen.last {l : List Nat} {n : Nat} (h : Pen l n) (h8 : n % 8 ≠ 0) : nth l (n / 8) / 2 ^ (n % 8) = 0 := by
  have := (tail_bits l h.byte n h.len h8).1 fun i _ hk => h.nought i hk
  rwa [show l.length - 1 = n / 8 by have := h.len; omega] at this

theorem Pen.bit {l : List Nat} {n b : Nat} (h : Pen l n) (hb : b < 2) : Pen (setBit l n b) (n + 1) ∧ ∀ i, bitOf (setBit l n b) i = if i = n then b else bitOf l i := by
  have hlen := h.len
  by_cases h8 : n % 8 = 0
  · have e : setBit l n b = l ++ [b] := by simp [setBit, h8]
    have hl : l.length = n / 8 := by omega
    have hbits : ∀ i, bitOf (l ++ [b]) i = if i = n then b else bitOf l i := by
      intro i
      rcases Nat.lt_or_ge i (8 * l.length) with hi | hi
      · rw [if_neg (by omega)]; unfold bitOf; rw [nth_append_left _ _ _ (by omega)]
      · rcases Nat.lt_or_ge i (8 * l.length + 8) with hi2 | hi2
        · have e2 : i = 8 * l.length + (i - 8 * l.length) := by omega
          rw [e2, bitOf_at _ _ _ (by omega), nth_append_one, one_bit b hb _ (by omega)]
          by_cases hz : i - 8 * l.length = 0
          · rw [if_pos hz, if_pos (by omega)]
          · rw [if_neg hz, if_neg (by omega), bitOf_beyond _ _ (by omega)]
        · rw [if_neg (by omega), bitOf_beyond _ _ (by simp; omega), bitOf_beyond _ _ (by omega)]
    rw [e]
    refine ⟨⟨fun x hx => ?_, by simp; omega, fun i hi => ?_⟩, hbits⟩
    · rcases List.mem_append.1 hx with hx | hx
      · exact h.byte x hx
      · simp at hx; omega
    · rw [hbits, if_neg (by omega), h.nought i (by omega)]
  · have e : setBit l n b = l.set (n / 8) (nth l (n / 8) + b * 2 ^ (n % 8)) := by simp [setBit, h8]
    have hq : n / 8 < l.length := by omega
    obtain ⟨hlt, hj⟩ := low_bits _ (nth_lt h.byte (by omega) (n / 8)) (n % 8) (by omega) (h.last h8) b hb
    have hbits : ∀ i, bitOf (l.set (n / 8) (nth l (n / 8) + b * 2 ^ (n % 8))) i = if i = n then b else bitOf l i := by
      intro i
      unfold bitOf
      rw [pnth_set _ _ _ _ hq]
      by_cases hi : n / 8 = i / 8
      · rw [if_pos hi, hj _ (by omega)]
        by_cases hz : i % 8 = n % 8
        · rw [if_pos hz, if_pos (by omega)]
        · rw [if_neg hz, if_neg (by omega), hi]
      · rw [if_neg hi, if_neg (by omega)]
    rw [e]
    refine ⟨⟨fun x hx => ?_, by simp; omega, fun i hi => ?_⟩, hbits⟩
    · rcases List.mem_or_eq_of_mem_set hx with hx | hx
      · exact h.byte x hx
      · omega
    · rw [hbits, if_neg (by omega), h.nought i (by omega)]

theorem Pen.put {l : List Nat} {n : Nat} (h : Pen l n) (v k : Nat) : Pen (putL l n v k) (n + k) ∧ ∀ i, bitOf (putL l n v k) i = if i < n then bitOf l i else if i < n + k then v / 2 ^ (i - n) % 2 else 0 := by
  induction k with
  | zero =>
    refine ⟨h, fun i => ?_⟩
    by_cases hi : i < n
    · rw [if_pos hi]; rfl
    · rw [if_neg hi, if_neg (by omega)]; exact h.nought i (by omega)
  | succ k ih =>
    obtain ⟨h1, h2⟩ := ih
    obtain ⟨h3, h4⟩ := h1.bit (b := v / 2 ^ k % 2) (Nat.mod_lt _ (by omega))
    refine ⟨h3, fun i => ?_⟩
    simp only [putL]
    rw [h4, h2]
    by_cases hi : i = n + k
    · subst hi; rw [if_pos rfl, if_neg (by omega), if_pos (by omega), show n + k - n = k by omega]
    · rw [if_neg hi]
      by_cases h5 : i < n
      · rw [if_pos h5, if_pos h5]
      · rw [if_neg h5, if_neg h5]
        by_cases h6 : i < n + k
        · rw [if_pos h6, if_pos (by omega)]
        · rw [if_neg h6, if_neg (by omega)]

theorem Pen.of_may {l : List Nat} {m : Nat} (hl : ∀ x ∈ l, x < 256) (h : mayB l m = true) : Pen l m ∧ m ≤ 8388608 := by
  obtain ⟨m', e, h1, h2, h3⟩ := mayB_true h
  obtain rfl : m = m' := by omega
  refine ⟨⟨hl, h2, fun i hi => ?_⟩, h1⟩
  rcases Nat.lt_or_ge i (8 * l.length) with h | h
  · exact h3 i h hi
  · exact bitOf_beyond _ _ h
theorem Pen.may {l : List Nat} {n : Nat} (h : Pen l n) (hn : n ≤ 8388608) : mayB l n = true := by
  unfold mayB
  rw [decide_eq_true_iff]
  have := h.len
  exact ⟨by omega, by omega, by omega, fun i _ hk => h.nought i (by simpa using hk)⟩

/-- Bytes are told by their bits. -/
theorem byte_ext : ∀ x, x < 256 → ∀ y, y < 256 → (∀ j, j < 8 → x / 2 ^ j % 2 = y / 2 ^ j % 2) → x = y := by
  intro x hx y hy h
  have h0 := h 0 (by omega); have h1 := h 1 (by omega); have h2 := h 2 (by omega); have h3 := h 3 (by omega)
  have h4 := h 4 (by omega); have h5 := h 5 (by omega); have h6 := h 6 (by omega); have h7 := h 7 (by omega)
  simp at h0 h1 h2 h3 h4 h5 h6 h7
  omega
theorem bytes_ext {l m : List Nat} (hl : ∀ x ∈ l, x < 256) (hm : ∀ x ∈ m, x < 256) (h : l.length = m.length) (hb : ∀ i, i < 8 * l.length → bitOf l i = bitOf m i) : l = m := by
  apply List.ext_getElem h
  intro q h1 h2
  have e := byte_ext (nth l q) (nth_lt hl (by omega) q) (nth m q) (nth_lt hm (by omega) q) fun j hj => by
    have := hb (8 * q + j) (by omega)
    rwa [bitOf_at _ _ _ hj, bitOf_at _ _ _ hj] at this
  simpa [nth, List.getElem?_eq_getElem h1, List.getElem?_eq_getElem h2] using e

theorem numOf_congr {l m : List Nat} {a b k : Nat} (h : ∀ i, i < k → bitOf l (a + i) = bitOf m (b + i)) : numOf l a k = numOf m b k := by
  induction k with
  | zero => rfl
  | succ k ih => simp only [numOf]; rw [ih (fun i hi => h i (by omega)), h k (by omega)]
theorem numOf_bits (l : List Nat) (a v k : Nat) (h : ∀ i, i < k → bitOf l (a + i) = v / 2 ^ i % 2) : numOf l a k = v % 2 ^ k := by
  induction k with
  | zero => simp [numOf, Nat.mod_one]
  | succ k ih =>
    simp only [numOf]
    rw [ih (fun i hi => h i (by omega)), h k (by omega), Nat.pow_succ, Nat.mod_mul, Nat.mul_comm (v / 2 ^ k % 2)]
/-- What was put is taken. -/
theorem Pen.back {l : List Nat} {n : Nat} (h : Pen l n) (v k : Nat) (hv : v < 2 ^ k) : numOf (putL l n v k) n k = v := by
  rw [numOf_bits _ _ v _ fun i hi => ?_, Nat.mod_eq_of_lt hv]
  rw [(h.put v k).2, if_neg (by omega), if_pos (by omega), show n + i - n = i by omega]

/-- Putting and aligning: the errors. -/
def pputE (l : List Nat) (n : Int) (v : Nat) (k : Int) : Nat := if mayB l n then if fitsB v k then if 8388608 < n + k then 9 else 0 else 2 else 8
end Go.Proofs.Ytpfhaalbikgmnaa
