/-
  Plain: codes as pieces of 2^15 that do not meet. No program in sight.
-/
import Derived.Test.YtpfhaalbikgmnaaCanonM
namespace Go.Proofs.Ytpfhaalbikgmnaa

/-- Where a place's piece begins. -/
def S0 (l : List Nat) (i : Nat) : Nat := (codeAt l i).1 * pw (codeAt l i).2

section
variable {l : List Nat} (h15 : ∀ x ∈ l, x ≤ 15) (hk : kraft l ≤ 32768)
theorem nth_15 (h15 : ∀ x ∈ l, x ≤ 15) (i : Nat) : nth l i ≤ 15 := by
  unfold nth
  rcases Nat.lt_or_ge i l.length with hi | hi
  · rw [List.getElem?_eq_getElem hi]; exact h15 _ (List.getElem_mem hi)
  · rw [List.getElem?_eq_none hi]; exact Nat.zero_le _
theorem code_two (i : Nat) : (codeAt l i).2 = nth l i := by
  unfold codeAt
  split
  · rename_i h; exact h.symm
  · rfl
include h15 in
theorem S0_eq {i : Nat} (h0 : nth l i ≠ 0) : S0 l i = atF (cnt l) (nth l i) + cnt (l.take i) (nth l i) * pw (nth l i) := by
  unfold S0
  rw [code_two]
  unfold codeAt
  rw [if_neg h0]
  show (frF (cnt l) (nth l i) + cnt (l.take i) (nth l i)) * pw (nth l i) = _
  rw [Nat.add_mul, fr_at (cnt l) (cnt_0 l) _ (nth_15 h15 i)]
theorem cnt_up {i k n : Nat} (hik : i < k) (hkl : k ≤ l.length) (hi : nth l i = n) (hn : n ≠ 0) : cnt (l.take i) n + 1 ≤ cnt (l.take k) n := by
  have h1 : cnt (l.take (i + 1)) n = cnt (l.take i) n + 1 := by
    rw [take_snoc l i (by omega), cnt_snoc, if_pos ⟨hn, hi.symm⟩]
  have h2 : cnt (l.take (i + 1)) n ≤ cnt (l.take k) n := by
    have := cnt_take_le (l.take k) n (i + 1)
    rwa [List.take_take, Nat.min_eq_left (by omega)] at this
  omega
include h15 in
/-- Pieces stand one behind the other: by length, then by place. -/
theorem S0_lt {i k : Nat} (hi : i < l.length) (hkl : k < l.length) (hi0 : nth l i ≠ 0) (hk0 : nth l k ≠ 0) (h : nth l i < nth l k ∨ nth l i = nth l k ∧ i < k) : S0 l i + pw (nth l i) ≤ S0 l k := by
  rw [S0_eq h15 hi0, S0_eq h15 hk0]
  rcases h with h | ⟨h1, h2⟩
  · have h3 := cnt_up (l := l) (i := i) (k := l.length) hi (Nat.le_refl _) rfl hi0
    rw [List.take_length] at h3
    have h4 : atF (cnt l) (nth l i + 1) ≤ atF (cnt l) (nth l k) := atF_mono _ (by omega)
    have h5 : atF (cnt l) (nth l i + 1) = atF (cnt l) (nth l i) + cnt l (nth l i) * pw (nth l i) := rfl
    have h6 := Nat.mul_le_mul_right (pw (nth l i)) h3
    rw [Nat.add_mul] at h6
    omega
  · have h3 := cnt_up (l := l) h2 (by omega) rfl hi0
    rw [← h1]
    have h6 := Nat.mul_le_mul_right (pw (nth l i)) h3
    rw [Nat.add_mul] at h6
    omega
include h15 hk in
theorem S0_top {i : Nat} (hi : i < l.length) (hi0 : nth l i ≠ 0) : S0 l i + pw (nth l i) ≤ 32768 := by
  rw [S0_eq h15 hi0]
  have h3 := cnt_up (l := l) (i := i) (k := l.length) hi (Nat.le_refl _) rfl hi0
  rw [List.take_length] at h3
  have h5 : atF (cnt l) (nth l i + 1) = atF (cnt l) (nth l i) + cnt l (nth l i) * pw (nth l i) := rfl
  have h4 : atF (cnt l) (nth l i + 1) ≤ atF (cnt l) 16 := atF_mono _ (by have := nth_15 h15 i; omega)
  have h6 := Nat.mul_le_mul_right (pw (nth l i)) h3
  rw [Nat.add_mul] at h6
  rw [← kraft_at l h15] at h4
  omega
theorem pw_split {n : Nat} (h : n ≤ 15) : 2 ^ n * pw n = 32768 := by
  unfold pw
  rw [← Nat.pow_add, show n + (15 - n) = 15 by omega]
theorem pw_split2 {a b : Nat} (h : a ≤ b) (hb : b ≤ 15) : 2 ^ (b - a) * pw b = pw a := by
  unfold pw
  rw [← Nat.pow_add, show b - a + (15 - b) = 15 - a by omega]
include h15 hk in
/-- A code fits its length. -/
theorem code_fits {i : Nat} (hi : i < l.length) : (codeAt l i).1 < 2 ^ nth l i := by
  by_cases h0 : nth l i = 0
  · have : codeAt l i = (0, 0) := by unfold codeAt; rw [if_pos h0]
    rw [this, h0]; decide
  · have h1 := S0_top h15 hk hi h0
    unfold S0 at h1
    rw [code_two] at h1
    have h2 := pw_split (nth_15 h15 i)
    have h3 := pw_pos (nth l i)
    have h4 : ((codeAt l i).1 + 1) * pw (nth l i) ≤ 2 ^ nth l i * pw (nth l i) := by rw [Nat.add_mul]; omega
    have := Nat.le_of_mul_le_mul_right h4 (by omega)
    omega
include h15 hk in
theorem code_le {i : Nat} (hi : i < l.length) : (codeAt l i).1 ≤ 32768 := by
  have h1 := code_fits h15 hk hi
  have h2 : 2 ^ nth l i ≤ 2 ^ 15 := Nat.pow_le_pow_right (by omega) (nth_15 h15 i)
  have : (2 : Nat) ^ 15 = 32768 := by decide
  omega

/-- Does a code begin another one? -/
def begB (a b : Nat × Nat) : Bool := decide (0 < a.2 ∧ a.2 ≤ b.2 ∧ b.1 / 2 ^ (b.2 - a.2) = a.1)
/-- A code begins another one: then the other's piece lies in its own. -/
theorem beg_in {i : Nat} {b : Nat × Nat} (hb : b.2 ≤ 15) (h : begB (codeAt l i) b = true) : S0 l i ≤ b.1 * pw b.2 ∧ b.1 * pw b.2 < S0 l i + pw (nth l i) := by
  obtain ⟨h1, h2, h3⟩ := of_decide_eq_true h
  have hp := pw_split2 h2 hb
  have hpos : 0 < 2 ^ (b.2 - (codeAt l i).2) := Nat.two_pow_pos _
  have hpp := pw_pos b.2
  have d1 := Nat.div_add_mod b.1 (2 ^ (b.2 - (codeAt l i).2))
  have d2 := Nat.mod_lt b.1 hpos
  unfold S0
  rw [← code_two]
  rw [h3] at d1
  generalize 2 ^ (b.2 - (codeAt l i).2) = P at *
  generalize pw b.2 = q at *
  generalize (codeAt l i).1 = x at *
  generalize b.1 % P = r at *
  rw [← hp, ← d1]
  have e1 : x * (P * q) = P * x * q := by rw [Nat.mul_comm P x, Nat.mul_assoc]
  have e2 := Nat.add_mul (P * x) r q
  have e3 : r * q + q ≤ P * q := by
    have := Nat.mul_le_mul_right q (show r + 1 ≤ P by omega)
    rw [Nat.add_mul] at this; omega
  omega
theorem in_beg {i : Nat} {b : Nat × Nat} (hb : b.2 ≤ 15) (h0 : nth l i ≠ 0) (hn : nth l i ≤ b.2) (h1 : S0 l i ≤ b.1 * pw b.2) (h2 : b.1 * pw b.2 < S0 l i + pw (nth l i)) : begB (codeAt l i) b = true := by
  unfold begB
  rw [code_two]
  refine decide_eq_true ⟨by omega, hn, ?_⟩
  have hp := pw_split2 hn hb
  have hpos : 0 < 2 ^ (b.2 - nth l i) := Nat.two_pow_pos _
  have hpp := pw_pos b.2
  unfold S0 at h1 h2
  rw [code_two] at h1 h2
  generalize 2 ^ (b.2 - nth l i) = P at *
  rw [← hp] at h1 h2
  generalize pw b.2 = q at *
  generalize (codeAt l i).1 = x at *
  have e1 : x * (P * q) = x * P * q := by rw [Nat.mul_assoc]
  rw [e1] at h1 h2
  have e2 : x * P * q + P * q = (x * P + P) * q := by rw [Nat.add_mul]
  rw [e2] at h2
  have g1 := Nat.le_of_mul_le_mul_right h1 (by omega)
  have g2 := Nat.lt_of_mul_lt_mul_right h2
  rw [Nat.div_eq_of_lt_le]
  · exact g1
  · rw [Nat.add_mul, Nat.one_mul]; exact g2
include h15 in
/-- No code begins another one. -/
theorem apart {i k : Nat} (hi : i < l.length) (hkl : k < l.length) (hne : i ≠ k) : begB (codeAt l i) (codeAt l k) = false := by
  rw [Bool.eq_false_iff]
  intro h
  have hb : (codeAt l k).2 ≤ 15 := by rw [code_two]; exact nth_15 h15 k
  obtain ⟨h1, h2⟩ := beg_in hb h
  obtain ⟨g1, g2, _⟩ := of_decide_eq_true h
  rw [code_two] at g1
  rw [code_two, code_two] at g2
  change S0 l i ≤ S0 l k at h1
  change S0 l k < _ at h2
  have hp := pw_pos (nth l k)
  rcases Nat.lt_trichotomy (nth l i) (nth l k) with h | h | h
  · have := S0_lt h15 hi hkl (by omega) (by omega) (.inl h); omega
  · rcases Nat.lt_or_ge i k with h' | h'
    · have := S0_lt h15 hi hkl (by omega) (by omega) (.inr ⟨h, h'⟩); omega
    · have := S0_lt h15 hkl hi (by omega) (by omega) (.inr ⟨h.symm, by omega⟩); omega
  · omega
include h15 in
/-- Pieces of two places, by their beginnings. -/
theorem order {i k : Nat} (hi : i < l.length) (hkl : k < l.length) (hi0 : nth l i ≠ 0) (hk0 : nth l k ≠ 0) : S0 l i < S0 l k ↔ nth l i < nth l k ∨ nth l i = nth l k ∧ i < k := by
  constructor
  · intro h
    by_cases hc : nth l i < nth l k ∨ nth l i = nth l k ∧ i < k
    · exact hc
    · exfalso
      by_cases e : i = k
      · subst e; omega
      · have := S0_lt h15 hkl hi hk0 hi0 (by omega)
        have := pw_pos (nth l k)
        omega
  · intro h
    have := S0_lt h15 hi hkl hi0 hk0 h
    have := pw_pos (nth l i)
    omega

/-- Somewhere a length stands with so many of it ahead. -/
theorem find_cnt (n : Nat) (hn : n ≠ 0) : ∀ (m q : Nat), m ≤ l.length → q < cnt (l.take m) n → ∃ i, i < m ∧ nth l i = n ∧ cnt (l.take i) n = q
  | 0, q, _, h => by rw [List.take_zero, cnt_nil] at h; omega
  | m + 1, q, hm, h => by
    rw [take_snoc l m (by omega), cnt_snoc] at h
    by_cases hx : n ≠ 0 ∧ n = nth l m
    · rw [if_pos hx] at h
      rcases Nat.lt_or_ge q (cnt (l.take m) n) with h' | h'
      · obtain ⟨i, h1, h2, h3⟩ := find_cnt n hn m q (by omega) h'
        exact ⟨i, by omega, h2, h3⟩
      · exact ⟨m, by omega, hx.2.symm, by omega⟩
    · rw [if_neg hx] at h
      obtain ⟨i, h1, h2, h3⟩ := find_cnt n hn m q (by omega) h
      exact ⟨i, by omega, h2, h3⟩
theorem find_at (c : Nat → Nat) (row : Nat) : ∀ m, row < atF c m → ∃ n, n < m ∧ atF c n ≤ row ∧ row < atF c (n + 1)
  | 0, h => by simp [atF] at h
  | m + 1, h => by
    rcases Nat.lt_or_ge row (atF c m) with h' | h'
    · obtain ⟨n, h1, h2, h3⟩ := find_at c row m h'
      exact ⟨n, by omega, h2, h3⟩
    · exact ⟨m, by omega, h', h⟩
include h15 in
/-- Each row that is less than what all count lies in a piece. -/
theorem cover {row : Nat} (h : row < kraft l) : ∃ i, i < l.length ∧ begB (codeAt l i) (row, 15) = true := by
  rw [kraft_at l h15] at h
  obtain ⟨n, hn, h1, h2⟩ := find_at _ row _ h
  have h3 : atF (cnt l) (n + 1) = atF (cnt l) n + cnt l n * pw n := rfl
  have hn0 : n ≠ 0 := by
    rintro rfl
    rw [cnt_0] at h3; omega
  have hp := pw_pos n
  have hq : (row - atF (cnt l) n) / pw n < cnt l n := by
    rw [Nat.div_lt_iff_lt_mul (by omega)]; omega
  rw [← List.take_length (l := l)] at hq
  obtain ⟨i, hi, g1, g2⟩ := find_cnt (l := l) n hn0 l.length _ (Nat.le_refl _) hq
  refine ⟨i, hi, in_beg (b := (row, 15)) (Nat.le_refl _) (by omega) (by rw [g1]; show n ≤ 15; omega) ?_ ?_⟩
  all_goals
    rw [S0_eq h15 (by omega), g1, g2]
    rw [List.take_length]
    have e : pw 15 = 1 := rfl
    show _
    simp only [e, Nat.mul_one]
    have d1 := Nat.div_add_mod (row - atF (cnt l) n) (pw n)
    have d2 := Nat.mod_lt (row - atF (cnt l) n) (show 0 < pw n by omega)
    rw [Nat.mul_comm] at d1
    omega
end

/-- How many codes begin a row, among the first m. -/
def hits (l : List Nat) (row m : Nat) : Nat := ((List.range m).filter fun i => begB (codeAt l i) (row, 15)).length
theorem hits_succ (l : List Nat) (row m : Nat) : hits l row (m + 1) = hits l row m + if begB (codeAt l m) (row, 15) = true then 1 else 0 := by
  unfold hits
  rw [List.range_succ, List.filter_append, List.length_append]
  by_cases h : begB (codeAt l m) (row, 15) = true
  · rw [if_pos h]; simp [h]
  · rw [if_neg h]; simp [h]
theorem hits_le (l : List Nat) (row m : Nat) : hits l row m ≤ m := by
  induction m with
  | zero => simp [hits]
  | succ m ih => rw [hits_succ]; split <;> omega
theorem hits_one {l : List Nat} (h15 : ∀ x ∈ l, x ≤ 15) (row : Nat) : hits l row l.length ≤ 1 := by
  have key : ∀ m, m ≤ l.length → hits l row m ≤ 1 ∧ (∀ i, i < m → begB (codeAt l i) (row, 15) = true → hits l row i = 0 ∧ hits l row m = 1) := by
    intro m
    induction m with
    | zero => intro _; exact ⟨by simp [hits], fun i h => by omega⟩
    | succ m ih =>
      intro hm
      obtain ⟨h1, h2⟩ := ih (by omega)
      have hs := hits_succ l row m
      by_cases h : begB (codeAt l m) (row, 15) = true
      · rw [if_pos h] at hs
        have h0 : hits l row m = 0 := by
          rcases Nat.eq_zero_or_pos (hits l row m) with h0 | h0
          · exact h0
          · exfalso
            have : 0 < ((List.range m).filter fun i => begB (codeAt l i) (row, 15)).length := h0
            obtain ⟨i, hi⟩ := List.exists_mem_of_length_pos this
            obtain ⟨h3, h4⟩ := List.mem_filter.1 hi
            have h5 := List.mem_range.1 h3
            obtain ⟨a1, a2⟩ := beg_in (b := (row, 15)) (Nat.le_refl _) h
            obtain ⟨b1, b2⟩ := beg_in (b := (row, 15)) (Nat.le_refl _) h4
            have c1 : nth l m ≠ 0 := by have := (of_decide_eq_true h).1; rw [code_two] at this; omega
            have c2 : nth l i ≠ 0 := by have := (of_decide_eq_true h4).1; rw [code_two] at this; omega
            rcases Nat.lt_trichotomy (nth l i) (nth l m) with g | g | g
            · have := S0_lt h15 (by omega) (by omega) c2 c1 (.inl g); omega
            · have := S0_lt h15 (by omega) (by omega) c2 c1 (.inr ⟨g, h5⟩); omega
            · have := S0_lt h15 (by omega) (by omega) c1 c2 (.inl g); omega
        refine ⟨by omega, fun i hi hb => ?_⟩
        rcases Nat.lt_or_ge i m with g | g
        · have := (h2 i g hb).2; omega
        · obtain rfl : i = m := by omega
          exact ⟨h0, by omega⟩
      · rw [if_neg h] at hs
        refine ⟨by omega, fun i hi hb => ?_⟩
        rcases Nat.lt_or_ge i m with g | g
        · obtain ⟨a, b⟩ := h2 i g hb; exact ⟨a, by omega⟩
        · obtain rfl : i = m := by omega
          exact absurd hb h
  exact (key l.length (Nat.le_refl _)).1
theorem hits_full {l : List Nat} (h15 : ∀ x ∈ l, x ≤ 15) {row : Nat} (h : row < kraft l) : hits l row l.length = 1 := by
  obtain ⟨i, hi, hb⟩ := cover h15 h
  have h1 := hits_one h15 row
  have h2 : 0 < hits l row l.length := by
    unfold hits
    apply List.length_pos_of_mem (a := i)
    exact List.mem_filter.2 ⟨List.mem_range.2 hi, hb⟩
  omega
end Go.Proofs.Ytpfhaalbikgmnaa
