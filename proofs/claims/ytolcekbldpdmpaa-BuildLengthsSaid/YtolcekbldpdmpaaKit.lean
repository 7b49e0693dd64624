/-
  Words and small lemmas that all my walks share: a slice that reads as a list; endings. No program in sight.
-/
import Derived.WalkKit
import Derived.WalkSpells
import Derived.WalkLawsBesides
import Derived.Lib.Hide
namespace Go.Proofs.Ytolcekbldpdmpaa
open Go.RowKit

theorem ret_int {k : IntKind} {a b : Int} (h : a = b) : Ending.returned (.int k a) = .returned (.int k b) := by rw [h]
theorem ret_two {k k' : IntKind} {a b a' b' : Int} (h : a = b) (h' : a' = b') : Ending.returned (.tuple #[.int k a, .int k' a']) = .returned (.tuple #[.int k b, .int k' b']) := by rw [h, h']
theorem ret_bool {a b : Bool} (h : a = b) : Ending.returned (.bool a) = .returned (.bool b) := by rw [h]

/-- The number at a place of a list, or 0. -/
def nth (l : List Nat) (i : Nat) : Nat := l[i]?.getD 0

theorem nth_lt {l : List Nat} {B : Nat} (h : ∀ x ∈ l, x < B) (hB : 0 < B) (i : Nat) : nth l i < B := by
  unfold nth
  rcases Nat.lt_or_ge i l.length with hi | hi
  · rw [List.getElem?_eq_getElem hi]; exact h _ (List.getElem_mem hi)
  · rw [List.getElem?_eq_none hi]; exact hB

/-- A slice's cells, up to its length: it may be nil or empty. -/
def Sl (w : World) (A : Option Addr) (xs : List Value) : Prop :=
  0 < xs.length → ∃ b off, A = some ⟨b, off, none⟩ ∧ ∀ i u, xs[i]? = some u → w.cell? ⟨b, off + i, none⟩ = some u

/-- A slice of bytes. -/
def Bs (w : World) (A : Option Addr) (l : List Nat) : Prop := Sl w A (l.map fun (x : Nat) => Value.int .u8 (x : Int)) ∧ ∀ x ∈ l, x < 256

theorem Bs.at_ {w : World} {A : Option Addr} {l : List Nat} (h : Bs w A l) {i : Nat} (hi : i < l.length) :
    ∃ b off, A = some ⟨b, off, none⟩ ∧ w.cell? ⟨b, off + i, none⟩ = some (.int .u8 ((nth l i : Nat) : Int)) ∧ nth l i < 256 := by
  obtain ⟨b, off, hA, hc⟩ := h.1 (by simp; omega)
  refine ⟨b, off, hA, hc i _ ?_, nth_lt h.2 (by omega) i⟩
  simp [nth, List.getElem?_eq_getElem hi]

theorem Bs.lt {w : World} {A : Option Addr} {l : List Nat} (h : Bs w A l) (i : Nat) : nth l i < 256 := nth_lt h.2 (by omega) i

/-! Bit operations on casts of naturals. -/
theorem and_u8 (a b : Nat) (ha : a < 256) (hb : b < 256) : bits .and .u8 (a : Int) (b : Int) = ((a &&& b : Nat) : Int) :=
  (bits_nat .u8 8 (by decide) (fun n h0 h1 => by rw [IntKind.wrap_u8]; omega) a b (by omega) (by omega)).1
theorem or_u8 (a b : Nat) (ha : a < 256) (hb : b < 256) : bits .or .u8 (a : Int) (b : Int) = ((a ||| b : Nat) : Int) :=
  (bits_nat .u8 8 (by decide) (fun n h0 h1 => by rw [IntKind.wrap_u8]; omega) a b (by omega) (by omega)).2
theorem and_u32 (a b : Nat) (ha : a < 4294967296) (hb : b < 4294967296) : bits .and .u32 (a : Int) (b : Int) = ((a &&& b : Nat) : Int) :=
  (bits_nat .u32 32 (by decide) (fun n h0 h1 => by rw [IntKind.wrap_u32]; omega) a b (by omega) (by omega)).1
theorem or_u32 (a b : Nat) (ha : a < 4294967296) (hb : b < 4294967296) : bits .or .u32 (a : Int) (b : Int) = ((a ||| b : Nat) : Int) :=
  (bits_nat .u32 32 (by decide) (fun n h0 h1 => by rw [IntKind.wrap_u32]; omega) a b (by omega) (by omega)).2
theorem and_u8_1 (a : Nat) (ha : a < 256) : bits .and .u8 (a : Int) 1 = ((a % 2 : Nat) : Int) := by
  rw [show (1 : Int) = ((1 : Nat) : Int) from rfl, and_u8 a 1 ha (by omega), Nat.and_one_is_mod]
theorem and_u32_1 (a : Nat) (ha : a < 4294967296) : bits .and .u32 (a : Int) 1 = ((a % 2 : Nat) : Int) := by
  rw [show (1 : Int) = ((1 : Nat) : Int) from rfl, and_u32 a 1 ha (by omega), Nat.and_one_is_mod]
theorem cast_shr (x j : Nat) : (x : Int) / 2 ^ j = ((x / 2 ^ j : Nat) : Int) := by simp
theorem cast_shl (x j : Nat) : (x : Int) * 2 ^ j = ((x * 2 ^ j : Nat) : Int) := by simp
theorem mod_u32 (x : Nat) (h : x < 4294967296) : (x : Int) % 4294967296 = (x : Int) := by omega
theorem mod_u8 (x : Nat) (h : x < 256) : (x : Int) % 256 = (x : Int) := by omega
theorem shr_le (x j : Nat) : x / 2 ^ j ≤ x := Nat.div_le_self _ _
theorem pow2_le (a b : Nat) (h : a ≤ b) : 2 ^ a ≤ 2 ^ b := Nat.pow_le_pow_right (by omega) h
end Go.Proofs.Ytolcekbldpdmpaa
