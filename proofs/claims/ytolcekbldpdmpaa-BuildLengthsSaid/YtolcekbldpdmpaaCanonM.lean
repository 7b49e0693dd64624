/-
  Plain: lengths, what they count together, and their codes. No program in sight.
-/
import Derived.Test.YtolcekbldpdmpaaArr
namespace Go.Proofs.Ytolcekbldpdmpaa

/-- What a length counts, of 2^15. -/
def pw (n : Nat) : Nat := 2 ^ (15 - n)
theorem pw_pos (n : Nat) : 1 ≤ pw n := Nat.one_le_two_pow
theorem pw_le (n : Nat) : pw n ≤ 32768 := by
  have := Nat.pow_le_pow_right (n := 2) (by omega) (show 15 - n ≤ 15 by omega)
  exact this
theorem pw_succ {n : Nat} (h : n < 15) : pw n = 2 * pw (n + 1) := by
  unfold pw
  rw [show 15 - n = (15 - (n + 1)) + 1 by omega, Nat.pow_succ, Nat.mul_comm]

/-- How many there are of a length. -/
def cnt (l : List Nat) (n : Nat) : Nat := if n = 0 then 0 else l.count n
theorem cnt_nil (n : Nat) : cnt [] n = 0 := by unfold cnt; split <;> simp
theorem cnt_snoc (l : List Nat) (x n : Nat) : cnt (l ++ [x]) n = if n ≠ 0 ∧ n = x then cnt l n + 1 else cnt l n := by
  unfold cnt
  by_cases h0 : n = 0
  · rw [if_pos h0, if_pos h0]; exact (if_neg (fun h : n ≠ 0 ∧ n = x => h.1 h0)).symm
  · rw [if_neg h0, if_neg h0, List.count_append, List.count_singleton]
    by_cases h1 : n = x
    · subst h1
      rw [beq_self_eq_true]
      rw [if_pos rfl]
      exact (if_pos ⟨h0, rfl⟩).symm
    · have e : (x == n) = false := beq_eq_false_iff_ne.2 (fun h => h1 h.symm)
      rw [e]
      exact (if_neg (fun h : n ≠ 0 ∧ n = x => h1 h.2)).symm
theorem cnt_le (l : List Nat) (n : Nat) : cnt l n ≤ l.length := by
  unfold cnt
  split
  · omega
  · exact List.count_le_length
theorem take_snoc (l : List Nat) (i : Nat) (h : i < l.length) : l.take (i + 1) = l.take i ++ [nth l i] := by
  rw [List.take_succ_eq_append_getElem h]
  simp [nth, List.getElem?_eq_getElem h]
theorem cnt_take_le (l : List Nat) (n i : Nat) : cnt (l.take i) n ≤ cnt l n := by
  unfold cnt
  split
  · omega
  · exact (List.take_sublist i l).count_le n

/-- The first code of each length: of counts. -/
def frF (c : Nat → Nat) : Nat → Nat
  | 0 => 0
  | n + 1 => (frF c n + c n) * 2
/-- What all shorter ones count. -/
def atF (c : Nat → Nat) : Nat → Nat
  | 0 => 0
  | n + 1 => atF c n + c n * pw n
theorem atF_mono (c : Nat → Nat) {a b : Nat} (h : a ≤ b) : atF c a ≤ atF c b := by
  induction h with
  | refl => exact Nat.le_refl _
  | step _ ih => exact Nat.le_trans ih (Nat.le_add_right _ _)
theorem fr_at (c : Nat → Nat) (h0 : c 0 = 0) : ∀ n, n ≤ 15 → frF c n * pw n = atF c n
  | 0, _ => by simp [frF, atF]
  | n + 1, h => by
    have ih := fr_at c h0 n (by omega)
    have hp := pw_succ (n := n) (by omega)
    show (frF c n + c n) * 2 * pw (n + 1) = atF c n + c n * pw n
    rw [← ih, Nat.mul_assoc, ← hp, Nat.add_mul]
/-- What lengths count together; how many there are. -/
def kraft (l : List Nat) : Nat := (l.map fun x => if x = 0 then 0 else pw x).sum
def used (l : List Nat) : Nat := (l.filter fun x => decide (0 < x)).length
theorem kraft_snoc (l : List Nat) (x : Nat) : kraft (l ++ [x]) = kraft l + if x = 0 then 0 else pw x := by simp [kraft]
theorem used_snoc (l : List Nat) (x : Nat) : used (l ++ [x]) = used l + if x = 0 then 0 else 1 := by
  unfold used
  rw [List.filter_append, List.length_append]
  by_cases h : x = 0
  · subst h; simp
  · rw [if_neg h, List.filter_cons, if_pos (by simp; omega)]; rfl
theorem used_le (l : List Nat) : used l ≤ l.length := List.length_filter_le _ _
theorem kraft_le (l : List Nat) : kraft l ≤ l.length * 32768 := by
  induction l with
  | nil => simp [kraft]
  | cons x l ih =>
    have e : kraft (x :: l) = (if x = 0 then 0 else pw x) + kraft l := by simp [kraft]
    have := pw_le x
    rw [e, List.length_cons]
    split <;> omega
theorem kraft_take_le (l : List Nat) (i : Nat) : kraft (l.take i) ≤ i * 32768 :=
  Nat.le_trans (kraft_le (l.take i)) (Nat.mul_le_mul_right _ (List.length_take_le _ _))
theorem atF_snoc (l : List Nat) (x n : Nat) : atF (cnt (l ++ [x])) n = atF (cnt l) n + if x ≠ 0 ∧ x < n then pw x else 0 := by
  induction n with
  | zero => simp [atF]
  | succ n ih =>
    show atF (cnt (l ++ [x])) n + cnt (l ++ [x]) n * pw n = atF (cnt l) n + cnt l n * pw n + _
    rw [ih, cnt_snoc]
    by_cases h1 : n ≠ 0 ∧ n = x
    · have e1 : n = x := h1.2
      rw [if_pos h1, if_neg (by omega), if_pos ⟨by omega, by omega⟩, ← e1, Nat.add_mul]; omega
    · rw [if_neg h1]
      by_cases h2 : x ≠ 0 ∧ x < n
      · rw [if_pos h2, if_pos ⟨h2.1, by omega⟩]; omega
      · rw [if_neg h2, if_neg (by omega)]
        omega
theorem kraft_at (l : List Nat) (h : ∀ x ∈ l, x ≤ 15) : kraft l = atF (cnt l) 16 := by
  have key : ∀ i, i ≤ l.length → kraft (l.take i) = atF (cnt (l.take i)) 16 := by
    intro i
    induction i with
    | zero =>
      intro _
      simp only [List.take_zero]
      have : ∀ n, atF (cnt []) n = 0 := by
        intro n
        induction n with
        | zero => rfl
        | succ n ih => show atF (cnt []) n + cnt [] n * pw n = 0; rw [ih, cnt_nil]; simp
      rw [this]; rfl
    | succ i ih =>
      intro hi
      have hx : nth l i ≤ 15 := by
        have e : nth l i = l[i] := by simp [nth, List.getElem?_eq_getElem (show i < l.length by omega)]
        rw [e]; exact h _ (List.getElem_mem _)
      rw [take_snoc l i (by omega), kraft_snoc, atF_snoc, ih (by omega)]
      by_cases h0 : nth l i = 0
      · rw [if_pos h0, if_neg (fun h => h.1 h0)]
      · rw [if_neg h0, if_pos ⟨h0, by omega⟩]
  have := key l.length (Nat.le_refl _)
  rwa [List.take_length] at this

/-- What is wrong with lengths. -/
def canE (l : List Nat) (m : Int) : Nat :=
  if m < 1 ∨ 15 < m then 2 else if 320 < l.length then 4 else if l.all (fun x => decide ((x : Int) ≤ m)) then
    if 32768 < kraft l then 30 else if kraft l = 32768 ∨ used l = 0 ∨ used l = 1 ∧ kraft l = 16384 then 0 else 31
  else 2
theorem canE_le (l : List Nat) (m : Int) : canE l m ≤ 31 := by
  unfold canE
  generalize kraft l = K
  generalize used l = U
  by_cases h1 : m < 1 ∨ 15 < m
  · rw [if_pos h1]; omega
  · rw [if_neg h1]
    by_cases h2 : 320 < l.length
    · rw [if_pos h2]; omega
    · rw [if_neg h2]
      by_cases h3 : l.all (fun x => decide ((x : Int) ≤ m)) = true
      · rw [if_pos h3]
        split
        · omega
        · split <;> omega
      · rw [if_neg h3]; omega
theorem canE_ok {l : List Nat} {m : Int} (h : canE l m = 0) : 1 ≤ m ∧ m ≤ 15 ∧ l.length ≤ 320 ∧ (∀ x ∈ l, (x : Int) ≤ m) ∧ kraft l ≤ 32768 ∧ (kraft l = 32768 ∨ used l = 0 ∨ used l = 1 ∧ kraft l = 16384) := by
  unfold canE at h
  by_cases h1 : m < 1 ∨ 15 < m
  · rw [if_pos h1] at h; omega
  · rw [if_neg h1] at h
    by_cases h2 : 320 < l.length
    · rw [if_pos h2] at h; omega
    · rw [if_neg h2] at h
      by_cases h3 : l.all (fun x => decide ((x : Int) ≤ m)) = true
      · rw [if_pos h3] at h
        by_cases h4 : 32768 < kraft l
        · rw [if_pos h4] at h; omega
        · rw [if_neg h4] at h
          by_cases h5 : kraft l = 32768 ∨ used l = 0 ∨ used l = 1 ∧ kraft l = 16384
          · exact ⟨by omega, by omega, by omega, fun x hx => of_decide_eq_true (List.all_eq_true.1 h3 x hx), by omega, h5⟩
          · rw [if_neg h5] at h; omega
      · rw [if_neg h3] at h; omega

/-- The code of a place: its bits and their number. -/
def codeAt (l : List Nat) (i : Nat) : Nat × Nat := if nth l i = 0 then (0, 0) else (frF (cnt l) (nth l i) + cnt (l.take i) (nth l i), nth l i)
/-- The codes of lengths. -/
def codesL (l : List Nat) : List (Nat × Nat) := (List.range l.length).map (codeAt l)
theorem codesL_length (l : List Nat) : (codesL l).length = l.length := by simp [codesL]

theorem fr_le {l : List Nat} (h15 : ∀ x ∈ l, x ≤ 15) (hk : kraft l ≤ 32768) {n : Nat} (hn : n ≤ 15) : (frF (cnt l) n + cnt l n) * pw n ≤ 32768 := by
  have h0 : cnt l 0 = 0 := by simp [cnt]
  have h1 := fr_at (cnt l) h0 n hn
  have h2 : atF (cnt l) (n + 1) ≤ atF (cnt l) 16 := atF_mono _ (by omega)
  rw [Nat.add_mul, h1]
  have h3 : atF (cnt l) (n + 1) = atF (cnt l) n + cnt l n * pw n := rfl
  rw [← kraft_at l h15] at h2
  omega
theorem fr_le' {l : List Nat} (h15 : ∀ x ∈ l, x ≤ 15) (hk : kraft l ≤ 32768) {n : Nat} (hn : n ≤ 15) : frF (cnt l) n + cnt l n ≤ 32768 := by
  have h1 := fr_le h15 hk hn
  have h2 := Nat.mul_le_mul_left (frF (cnt l) n + cnt l n) (pw_pos n)
  omega
theorem cnt_0 (l : List Nat) : cnt l 0 = 0 := by simp [cnt]
theorem cnt_16 {l : List Nat} (h15 : ∀ x ∈ l, x ≤ 15) {n : Nat} (hn : 15 < n) : cnt l n = 0 := by
  unfold cnt
  split
  · rfl
  · exact List.count_eq_zero.2 (fun h => by have := h15 n h; omega)
theorem fr_16 {l : List Nat} (h15 : ∀ x ∈ l, x ≤ 15) (hk : kraft l ≤ 32768) {n : Nat} (hn : n ≤ 16) : (frF (cnt l) n + cnt l n) * 2 ≤ 200000 := by
  rcases Nat.lt_or_ge n 16 with h | h
  · have := fr_le' h15 hk (n := n) (by omega); omega
  · obtain rfl : n = 16 := by omega
    rw [cnt_16 h15 (n := 16) (by omega)]
    have := fr_le' h15 hk (n := 15) (by omega)
    show ((frF (cnt l) 15 + cnt l 15) * 2 + 0) * 2 ≤ 200000
    omega
end Go.Proofs.Ytolcekbldpdmpaa
