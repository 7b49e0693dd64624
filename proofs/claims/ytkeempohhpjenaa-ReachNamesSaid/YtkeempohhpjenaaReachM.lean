/-
  Plain facts on the tables: no program in sight.
-/
import Derived.Test.YtkeempohhpjenaaReachR
namespace Go.Proofs.Ytkeempohhpjenaa

def lst (t : List (Nat × Nat × Nat)) (i : Nat) : Nat := (rowT t i).2.1
def mny (t : List (Nat × Nat × Nat)) (i : Nat) : Nat := (rowT t i).2.2

theorem lastLe_spec (t : List (Nat × Nat × Nat)) (n : Int) (m : Nat) (h0 : (lst t 0 : Int) ≤ n) :
    (lst t (lastLe t n m) : Int) ≤ n ∧ ∀ j, lastLe t n m < j → j < m → n < lst t j := by
  induction m with
  | zero => exact ⟨h0, fun j _ h => by omega⟩
  | succ m ih =>
    simp only [lastLe]
    by_cases h : ((rowT t m).2.1 : Int) ≤ n
    · rw [if_pos h]; exact ⟨h, fun j h1 h2 => by omega⟩
    · rw [if_neg h]
      refine ⟨ih.1, fun j h1 h2 => ?_⟩
      by_cases hj : j = m
      · subst hj; simp only [lst]; omega
      · exact ih.2 j h1 (by omega)

/-- A table's rows follow one another. -/
structure Rising (t : List (Nat × Nat × Nat)) : Prop where
  pos : 0 < t.length
  next : ∀ i, i < t.length → i + 1 < t.length → lst t (i + 1) = lst t i + mny t i
  mono : ∀ i, i < t.length → ∀ j, j < i → lst t j + mny t j ≤ lst t i
  some_ : ∀ i, i < t.length → 0 < mny t i
  fits : ∀ i, i < t.length → mny t i ≤ 2 ^ (rowT t i).1

theorem rising_long : Rising longT := ⟨by decide, by decide, by decide, by decide, by decide⟩
theorem rising_far : Rising farT := ⟨by decide, by decide, by decide, by decide, by decide⟩

def endT (t : List (Nat × Nat × Nat)) : Nat := lst t (t.length - 1) + mny t (t.length - 1)

theorem tell_skip (f : Nat) (t : List (Nat × Nat × Nat)) (n : Int) (i : Nat) (hi : i ≤ t.length) (h : ∀ j, j < i → ¬ ((lst t j : Int) ≤ n ∧ n < lst t j + mny t j)) :
    tellT f t n = tellT (f + i) (t.drop i) n := by
  induction i with
  | zero => rfl
  | succ i ih =>
    have hh := h i (by omega)
    unfold lst mny at hh
    rw [ih (by omega) (fun j hj => h j (by omega)), tell_drop f t i (by omega) n, if_neg hh]

theorem tell_hit (f : Nat) (t : List (Nat × Nat × Nat)) (n : Int) (i : Nat) (hi : i < t.length) (h : ∀ j, j < i → ¬ ((lst t j : Int) ≤ n ∧ n < lst t j + mny t j)) (hin : (lst t i : Int) ≤ n ∧ n < lst t i + mny t i) :
    tellT f t n = (f + i, (rowT t i).1, n - lst t i, 0) := by
  unfold lst mny at hin
  rw [tell_skip f t n i (by omega) h, tell_drop f t i hi n, if_pos hin]
  rfl

theorem tell_at {t : List (Nat × Nat × Nat)} (R : Rising t) (f : Nat) (n : Int) (i : Nat) (hi : i < t.length) (hin : (lst t i : Int) ≤ n ∧ n < lst t i + mny t i) :
    tellT f t n = (f + i, (rowT t i).1, n - lst t i, 0) :=
  tell_hit f t n i hi (fun j hj => by have := R.mono i hi j hj; omega) hin

theorem tell_in {t : List (Nat × Nat × Nat)} (R : Rising t) (f : Nat) (n : Int) (h0 : (lst t 0 : Int) ≤ n) (h1 : n < endT t) :
    ∃ i, i < t.length ∧ (lst t i : Int) ≤ n ∧ n < lst t i + mny t i ∧ i = lastLe t n t.length ∧ tellT f t n = (f + i, (rowT t i).1, n - lst t i, 0) := by
  have hp := R.pos
  have hl := lastLe_lt t n t.length t.length (Nat.le_refl _) hp
  obtain ⟨h2, h3⟩ := lastLe_spec t n t.length h0
  have hin : (lst t (lastLe t n t.length) : Int) ≤ n ∧ n < lst t (lastLe t n t.length) + mny t (lastLe t n t.length) := by
    refine ⟨h2, ?_⟩
    by_cases he : lastLe t n t.length + 1 < t.length
    · have := R.next _ hl he
      have := h3 (lastLe t n t.length + 1) (by omega) he
      omega
    · have : lastLe t n t.length = t.length - 1 := by omega
      rw [this]
      unfold endT at h1
      omega
  exact ⟨_, hl, hin.1, hin.2, rfl, tell_at R f n _ hl hin⟩

theorem tell_out {t : List (Nat × Nat × Nat)} (R : Rising t) (f : Nat) (n : Int) (h : n < lst t 0 ∨ (endT t : Int) ≤ n) : tellT f t n = (0, 0, 0, 2) := by
  rw [tell_skip f t n t.length (Nat.le_refl _)]
  · rw [List.drop_length]; rfl
  · intro j hj ⟨h1, h2⟩
    have hp := R.pos
    rcases h with h | h
    · by_cases h0 : j = 0
      · subst h0; omega
      · have := R.mono j hj 0 (by omega); have := R.some_ 0 hp; omega
    · unfold endT at h
      by_cases h0 : j = t.length - 1
      · subst h0; omega
      · have := R.mono (t.length - 1) (by omega) j (by omega); have := R.some_ (t.length - 1) (by omega); omega

/-- What tells a number is that number's, and the other way round. -/
theorem tell_back {t : List (Nat × Nat × Nat)} (R : Rising t) (f : Nat) (n : Int) (h : (tellT f t n).2.2.2 = 0) :
    ∃ i, i < t.length ∧ tellT f t n = (f + i, (rowT t i).1, n - lst t i, 0) ∧ numE f t (f + i) (n - lst t i) = 0 ∧ numV f t (f + i) (n - lst t i) = n ∧ 0 ≤ n - lst t i ∧ n - lst t i < ((2 ^ (rowT t i).1 : Nat) : Int) := by
  by_cases ho : n < lst t 0 ∨ (endT t : Int) ≤ n
  · rw [tell_out R f n ho] at h; cases h
  · obtain ⟨i, hi, h1, h2, _, h4⟩ := tell_in R f n (by omega) (by omega)
    have hf := R.fits i hi
    have ei : ((f : Int) + i - f).toNat = i := by omega
    have hE : numE f t (f + i) (n - lst t i) = 0 := by
      unfold numE
      rw [if_neg (by omega), ei, if_neg (by omega), if_neg (by unfold mny at h2; omega)]
    refine ⟨i, hi, h4, hE, ?_, by omega, by omega⟩
    unfold numV
    rw [if_pos hE, ei]
    unfold lst
    omega

theorem num_back {t : List (Nat × Nat × Nat)} (R : Rising t) (f : Nat) (sym extra : Int) (h : numE f t sym extra = 0) :
    ∃ i : Nat, i < t.length ∧ sym = f + i ∧ tellT f t (numV f t sym extra) = (f + i, (rowT t i).1, extra, 0) ∧ numV f t sym extra = lst t i + extra ∧ 0 ≤ extra ∧ extra < mny t i := by
  have hE := h
  unfold numE at h
  split at h
  · cases h
  · rename_i h1
    split at h
    · cases h
    · rename_i h2
      split at h
      · cases h
      · rename_i h3
        have hi : (sym - f).toNat < t.length := by omega
        have hs : sym = f + ((sym - f).toNat : Nat) := by omega
        have hv : numV f t sym extra = lst t (sym - f).toNat + extra := by unfold numV; rw [if_pos hE]; rfl
        refine ⟨_, hi, hs, ?_, hv, by omega, by unfold mny; omega⟩
        rw [hv, tell_at R f _ _ hi ⟨by omega, by unfold mny; omega⟩]
        simp; omega

/-- Of two numbers the greater one has no lesser symbol. -/
theorem tell_rises {t : List (Nat × Nat × Nat)} (R : Rising t) (f : Nat) (n m : Int) (hn : (tellT f t n).2.2.2 = 0) (hm : (tellT f t m).2.2.2 = 0) (h : n < m) :
    ∃ i j, i ≤ j ∧ j < t.length ∧ tellT f t n = (f + i, (rowT t i).1, n - lst t i, 0) ∧ tellT f t m = (f + j, (rowT t j).1, m - lst t j, 0) ∧ m < lst t j + mny t j := by
  by_cases ho : n < lst t 0 ∨ (endT t : Int) ≤ n
  · rw [tell_out R f n ho] at hn; cases hn
  by_cases hp : m < lst t 0 ∨ (endT t : Int) ≤ m
  · rw [tell_out R f m hp] at hm; cases hm
  obtain ⟨i, hi, h1, h2, _, h4⟩ := tell_in R f n (by omega) (by omega)
  obtain ⟨j, hj, g1, g2, _, g4⟩ := tell_in R f m (by omega) (by omega)
  refine ⟨i, j, ?_, hj, h4, g4, g2⟩
  rcases Nat.lt_or_ge j i with hlt | hge
  · have := R.mono i hi j hlt; omega
  · exact hge
end Go.Proofs.Ytkeempohhpjenaa
