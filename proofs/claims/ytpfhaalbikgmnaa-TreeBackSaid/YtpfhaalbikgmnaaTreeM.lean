/-
  Plain facts on trees: the symbols by their lengths. No program in sight.
-/
import Derived.Test.YtpfhaalbikgmnaaCanonM
namespace Go.Proofs.Ytpfhaalbikgmnaa

/-- The symbols below j that have the length k. -/
def rowP (l : List Nat) (k : Nat) : Nat → List (Nat × Nat)
  | 0 => []
  | j + 1 => rowP l k j ++ if nth l j = k then [(k, j)] else []
/-- Those of the lengths above 0 and below k. -/
def allP (l : List Nat) : Nat → List (Nat × Nat)
  | 0 => []
  | k + 1 => allP l k ++ if k = 0 then [] else rowP l k l.length
def part (l : List Nat) (k j : Nat) : List (Nat × Nat) := allP l k ++ if k = 0 then [] else rowP l k j

theorem part_zero (l : List Nat) (k : Nat) : part l k 0 = allP l k := by unfold part; split <;> simp [rowP]
theorem part_full (l : List Nat) (k : Nat) : part l k l.length = allP l (k + 1) := rfl
theorem part_hit {l : List Nat} {k j : Nat} (h : nth l j = k) (hk : k ≠ 0) : part l k (j + 1) = part l k j ++ [(k, j)] := by
  unfold part; rw [if_neg hk, if_neg hk, rowP, if_pos h, List.append_assoc]
theorem part_miss {l : List Nat} {k j : Nat} (h : ¬ (nth l j = k ∧ k ≠ 0)) : part l k (j + 1) = part l k j := by
  unfold part
  by_cases hk : k = 0
  · rw [if_pos hk, if_pos hk]
  · rw [if_neg hk, if_neg hk, rowP, if_neg (fun e => h ⟨e, hk⟩), List.append_nil]
theorem rowP_len (l : List Nat) (k j : Nat) : (rowP l k j).length ≤ j := by
  induction j with
  | zero => simp [rowP]
  | succ j ih =>
    rw [rowP, List.length_append]
    have : (if nth l j = k then [(k, j)] else []).length ≤ 1 := by split <;> simp
    omega
theorem allP_len (l : List Nat) (k : Nat) : (allP l k).length ≤ k * l.length := by
  induction k with
  | zero => simp [allP]
  | succ k ih =>
    rw [allP, List.length_append, Nat.succ_mul]
    have : (if k = 0 then [] else rowP l k l.length).length ≤ l.length := by
      split
      · simp
      · exact rowP_len l k _
    omega
theorem part_len {l : List Nat} {k j : Nat} (hk : k < 16) (hj : j < l.length) : (part l k j).length < 16 * l.length := by
  have h1 := allP_len l k
  have h2 : (if k = 0 then [] else rowP l k j).length ≤ j := by
    split
    · simp
    · exact rowP_len l k _
  unfold part
  rw [List.length_append]
  have h3 : k * l.length ≤ 15 * l.length := Nat.mul_le_mul_right _ (by omega)
  omega
end Go.Proofs.Ytpfhaalbikgmnaa
