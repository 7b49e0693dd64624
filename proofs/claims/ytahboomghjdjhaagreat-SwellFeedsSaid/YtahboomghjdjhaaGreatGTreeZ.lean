/-
  Plain: reading with others behind; with enough bits; what a code's bits are read as.
-/
import Derived.Test.YtahboomghjdjhaaGreatG11
import Derived.Test.YtahboomghjdjhaaGreatG14
namespace Go.Proofs.YtahboomghjdjhaaGreat

/-! ### Others behind -/
theorem bit_app (b m : List Nat) (a : Nat) (h : a < 8 * b.length) : bitOf (b ++ m) a = bitOf b a := by
  unfold bitOf
  rw [nth_append_left b m (a / 8) (by omega)]
theorem rd_app (l b m : List Nat) : ∀ k n v a, (rdT l b k n v a).2.2 ≠ 10 → rdT l (b ++ m) k n v a = rdT l b k n v a
  | 0, _, _, _, _ => rfl
  | k + 1, n, v, a, h => by
    cases hh : hitF l n v with
    | some i => rw [rd_hit hh, rd_hit hh]
    | none =>
      cases hm : moreN l n v l.length with
      | false => rw [rd_code hh hm, rd_code hh hm]
      | true =>
        by_cases ha : a < 8 * b.length
        · rw [rd_go hh hm ha] at h ⊢
          rw [rd_go hh hm (by rw [List.length_append]; omega), bit_app b m a ha]
          exact rd_app l b m k _ _ _ h
        · rw [rd_end hh hm (by omega)] at h; exact absurd rfl h
theorem rd_err (l b : List Nat) : ∀ k n v a, (rdT l b k n v a).2.2 = 0 ∨ (rdT l b k n v a).2.2 = 10 ∨ (rdT l b k n v a).2.2 = 50
  | 0, _, _, _ => by simp [rdT]
  | k + 1, n, v, a => by
    cases hh : hitF l n v with
    | some i => rw [rd_hit hh]; simp
    | none =>
      cases hm : moreN l n v l.length with
      | false => rw [rd_code hh hm]; simp
      | true =>
        by_cases ha : a < 8 * b.length
        · rw [rd_go hh hm ha]; exact rd_err l b k _ _ _
        · rw [rd_end hh hm (by omega)]; simp
/-! ### Enough bits -/
theorem used_cons (x : Nat) (l : List Nat) : used (x :: l) = (if x = 0 then 0 else 1) + used l := by
  unfold used
  rw [List.filter_cons]
  by_cases h : x = 0
  · subst h; simp
  · rw [if_neg h, if_pos (by simp; omega), List.length_cons]; omega
theorem used_tot (l : List Nat) (h15 : ∀ x ∈ l, x ≤ 15) : ∀ j, j ≤ l.length → totP l j 16 = used (l.take j)
  | 0, _ => by
    have : ∀ n, totP l 0 n = 0 := by
      intro n
      induction n with
      | zero => rfl
      | succ n ih => rw [totP, ih]; simp [rowP]
    rw [this]; simp [used]
  | j + 1, h => by
    rw [totP_succ, used_tot l h15 j (by omega), take_snoc l j (by omega), used_append, used_cons]
    have := nth_le_t h15 j
    by_cases h0 : nth l j = 0
    · rw [if_neg (by omega), if_pos h0]; simp [used]
    · rw [if_pos ⟨h0, by omega⟩, if_neg h0]; simp [used]
theorem all_used {l : List Nat} (h15 : ∀ x ∈ l, x ≤ 15) : (allP l 16).length = used l := by
  rw [allP_length, used_tot l h15 l.length (Nat.le_refl _), List.take_length]

/-! ### A code's own bits -/
end Go.Proofs.YtahboomghjdjhaaGreat
