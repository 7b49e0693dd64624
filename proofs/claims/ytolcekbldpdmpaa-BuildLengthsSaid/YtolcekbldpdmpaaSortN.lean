/-
  Plain: merging in place: a turn of a stretch, and where it parts. No program in sight.
-/
import Derived.Test.YtolcekbldpdmpaaSortM
namespace Go.Proofs.Ytolcekbldpdmpaa

/-- The first i of two stretches have been exchanged. -/
structure SwR (us vs : List Int) (a b n : Nat) : Prop where
  one : ∀ k, a ≤ k → k < a + n → nthI vs k = nthI us (k + (b - a))
  two : ∀ k, b ≤ k → k < b + n → nthI vs k = nthI us (k - (b - a))
  out : ∀ k, (k < a ∨ a + n ≤ k) → (k < b ∨ b + n ≤ k) → nthI vs k = nthI us k
theorem SwR.zero (us : List Int) (a b : Nat) : SwR us us a b 0 := ⟨fun k h1 h2 => by omega, fun k h1 h2 => by omega, fun _ _ _ => rfl⟩
theorem SwR.step {us vs : List Int} {a b n : Nat} (h : SwR us vs a b n) (hd : a + n < b) (hl : b + n < vs.length) : SwR us (swapI vs (a + n) (b + n)) a b (n + 1) := by
  have g : ∀ k, nthI (swapI vs (a + n) (b + n)) k = if k = b + n then nthI vs (a + n) else if k = a + n then nthI vs (b + n) else nthI vs k := fun k => swapI_get vs (a + n) (b + n) k (by omega) hl
  refine ⟨fun k h1 h2 => ?_, fun k h1 h2 => ?_, fun k h1 h2 => ?_⟩
  · rw [g, if_neg (by omega)]
    by_cases e : k = a + n
    · rw [if_pos e, e, show a + n + (b - a) = b + n by omega]
      exact h.out (b + n) (by omega) (by omega)
    · rw [if_neg e]; exact h.one k h1 (by omega)
  · rw [g]
    by_cases e : k = b + n
    · rw [if_pos e, e, show b + n - (b - a) = a + n by omega]
      exact h.out (a + n) (by omega) (by omega)
    · rw [if_neg e, if_neg (by omega)]; exact h.two k h1 (by omega)
  · rw [g, if_neg (by omega), if_neg (by omega)]
    exact h.out k (by omega) (by omega)

/-- What a turn of [a, b) about m makes. -/
structure Rot (us zs : List Int) (a m b : Nat) : Prop where
  one : ∀ k, a ≤ k → k < a + (b - m) → nthI zs k = nthI us (k + (m - a))
  two : ∀ k, a + (b - m) ≤ k → k < b → nthI zs k = nthI us (k - (b - m))
  out : ∀ k, k < a ∨ b ≤ k → nthI zs k = nthI us k
theorem Rot.left {us vs zs : List Int} {m i j : Nat} (h : Rot us zs (m - i) m (m + j)) (hi : i ≤ m) (hij : j < i) (hs : SwR us vs (m - i) m j) : Rot vs zs (m - (i - j)) m (m + j) := by
  refine ⟨fun k h1 h2 => ?_, fun k h1 h2 => ?_, fun k hk => ?_⟩
  · rw [h.two k (by omega) (by omega), hs.two (k + (m - (m - (i - j)))) (by omega) (by omega)]
    congr 1; omega
  · rw [h.two k (by omega) (by omega), hs.out (k - (m + j - m)) (by omega) (by omega)]
  · by_cases e : k < m - i ∨ m + j ≤ k
    · rw [h.out k e, hs.out k (by omega) (by omega)]
    · rw [h.one k (by omega) (by omega), hs.one k (by omega) (by omega)]
theorem Rot.right {us vs zs : List Int} {m i j : Nat} (h : Rot us zs (m - i) m (m + j)) (hi : i ≤ m) (hij : i < j) (hs : SwR us vs (m - i) (m + j - i) i) : Rot vs zs (m - i) m (m + (j - i)) := by
  refine ⟨fun k h1 h2 => ?_, fun k h1 h2 => ?_, fun k hk => ?_⟩
  · rw [h.one k (by omega) (by omega), hs.out (k + (m - (m - i))) (by omega) (by omega)]
  · rw [h.one k (by omega) (by omega), hs.one (k - (m + (j - i) - m)) (by omega) (by omega)]
    congr 1; omega
  · by_cases e : k < m - i ∨ m + j ≤ k
    · rw [h.out k e, hs.out k (by omega) (by omega)]
    · rw [h.two k (by omega) (by omega), hs.two k (by omega) (by omega)]
      congr 1; omega
theorem Rot.last {us vs zs : List Int} {m i : Nat} (h : Rot us zs (m - i) m (m + i)) (hi : i ≤ m) (hs : SwR us vs (m - i) m i) : ∀ k, nthI vs k = nthI zs k := by
  intro k
  by_cases e : k < m - i ∨ m + i ≤ k
  · rw [h.out k e, hs.out k (by omega) (by omega)]
  · by_cases e2 : k < m
    · rw [h.one k (by omega) (by omega), hs.one k (by omega) (by omega)]
    · rw [h.two k (by omega) (by omega), hs.two k (by omega) (by omega)]
      congr 1; omega

/-- e goes up from place a to place i - 1. -/
structure InsR (f : Int → Int) (zs : List Int) (a k i b : Nat) (e : Int) : Prop where
  at_ : nthI zs k = e
  ord : ∀ p q, a ≤ p → p < q → q < b → p ≠ k → q ≠ k → LX f (nthI zs p) (nthI zs q)
  lo : ∀ p, a ≤ p → p < i → p ≠ k → LX f (nthI zs p) e
  up : ∀ q, i ≤ q → q < b → LX f e (nthI zs q)
theorem InsR.step {f : Int → Int} {zs : List Int} {a k i b : Nat} {e : Int} (h : InsR f zs a k i b e) (ha : a ≤ k) (hki : k + 1 < i) (hib : i ≤ b) (hl : b ≤ zs.length) : InsR f (swapI zs k (k + 1)) a (k + 1) i b e := by
  have g : ∀ q, nthI (swapI zs k (k + 1)) q = if q = k + 1 then nthI zs k else if q = k then nthI zs (k + 1) else nthI zs q := fun q => swapI_get zs k (k + 1) q (by omega) (by omega)
  refine ⟨by rw [g, if_pos rfl]; exact h.at_, fun p q h1 h2 h3 h4 h5 => ?_, fun p h1 h2 h3 => ?_, fun q h1 h2 => ?_⟩
  · rw [g, g, if_neg h4, if_neg h5]
    by_cases e1 : p = k
    · rw [if_pos e1, if_neg (by omega)]
      exact h.ord (k + 1) q (by omega) (by omega) h3 (by omega) (by omega)
    · rw [if_neg e1]
      by_cases e2 : q = k
      · rw [if_pos e2]
        exact h.ord p (k + 1) h1 (by omega) (by omega) e1 (by omega)
      · rw [if_neg e2]
        exact h.ord p q h1 h2 h3 e1 e2
  · rw [g, if_neg h3]
    by_cases e1 : p = k
    · rw [if_pos e1]; exact h.lo (k + 1) (by omega) hki (by omega)
    · rw [if_neg e1]; exact h.lo p h1 h2 e1
  · rw [g, if_neg (by omega), if_neg (by omega)]
    exact h.up q h1 h2
theorem InsR.done {f : Int → Int} {zs : List Int} {a k i b : Nat} {e : Int} (h : InsR f zs a k i b e) (hk : k + 1 = i) : SG f zs a b := by
  intro p q h1 h2 h3
  by_cases e1 : p = k
  · subst e1; rw [h.at_]; exact h.up q (by omega) h3
  · by_cases e2 : q = k
    · subst e2; rw [h.at_]; exact h.lo p h1 (by omega) e1
    · exact h.ord p q h1 h2 h3 e1 e2

/-! ### Where two stretches part -/
section
variable {f : Int → Int} {ys zs : List Int} {a m b : Nat}
/-- Keys do not fall in a stretch in order. -/
theorem SG.le {lo hi i j : Nat} (h : SG f ys lo hi) (h1 : lo ≤ i) (h2 : i ≤ j) (h3 : j < hi) : f (nthI ys i) ≤ f (nthI ys j) := by
  rcases Nat.lt_or_ge i j with e | e
  · have := h i j h1 e h3; unfold LX at this; omega
  · obtain rfl : i = j := by omega
    exact Int.le_refl _
theorem SG.sub {lo hi lo' hi' : Nat} (h : SG f ys lo hi) (h1 : lo ≤ lo') (h2 : hi' ≤ hi) : SG f ys lo' hi' := fun i j i1 i2 i3 => h i j (by omega) i2 (by omega)
/-- What the search finds: s, of n = mid + m. -/
structure Found (f : Int → Int) (ys : List Int) (a m b mid s : Nat) : Prop where
  lo : (if m > mid then mid + m - b else a) ≤ s
  hi : s ≤ (if m > mid then mid else m)
  no : ∀ c, (if m > mid then mid + m - b else a) ≤ c → c < s → ¬ f (nthI ys (mid + m - 1 - c)) < f (nthI ys c)
  yes : ∀ c, s ≤ c → c < (if m > mid then mid else m) → f (nthI ys (mid + m - 1 - c)) < f (nthI ys c)
variable (h1 : SG f ys a m) (h2 : SG f ys m b) (h3 : SP ys a m b) {mid s : Nat} (hmid : mid = (a + b) / 2) (hF : Found f ys a m b mid s) (hR : Rot ys zs s m (mid + m - s))
include hmid hF in
theorem found_in : a ≤ s ∧ s ≤ m ∧ s ≤ mid ∧ mid ≤ mid + m - s ∧ m ≤ mid + m - s ∧ mid + m - s ≤ b := by
  have l1 := hF.lo
  have l2 := hF.hi
  by_cases hm : m > mid
  · rw [if_pos hm] at l1 l2; omega
  · rw [if_neg hm] at l1 l2; omega
include h1 h2 h3 hmid hF hR in
theorem sym_split : SG f zs a s ∧ SG f zs s mid ∧ SP zs a s mid ∧ SG f zs mid (mid + m - s) ∧ SG f zs (mid + m - s) b ∧ SP zs mid (mid + m - s) b ∧ ∀ i j, a ≤ i → i < mid → mid ≤ j → j < b → LX f (nthI zs i) (nthI zs j) := by
  obtain ⟨i1, i2, i3, i4, i5, i6⟩ := found_in hmid hF
  have zA : ∀ k, k < s → nthI zs k = nthI ys k := fun k hk => hR.out k (by omega)
  have zB : ∀ k, s ≤ k → k < mid → nthI zs k = nthI ys (k + (m - s)) := fun k k1 k2 => hR.one k k1 (by omega)
  have zC : ∀ k, mid ≤ k → k < mid + m - s → nthI zs k = nthI ys (k - (mid - s)) := fun k k1 k2 => by
    rw [hR.two k (by omega) k2]; congr 1; omega
  have zD : ∀ k, mid + m - s ≤ k → nthI zs k = nthI ys k := fun k hk => hR.out k (by omega)
  -- the first of the left part's rest is heavier than the right part's first ones
  have up : ∀ i j, m ≤ i → i < mid + m - s → s ≤ j → j < m → LX f (nthI ys i) (nthI ys j) := by
    intro i j p1 p2 p3 p4
    have hsr : s < (if m > mid then mid else m) := by
      have l2 := hF.hi
      by_cases hm : m > mid
      · rw [if_pos hm] at l2 ⊢; omega
      · rw [if_neg hm] at l2 ⊢; omega
    have hy := hF.yes s (Nat.le_refl _) hsr
    have e1 := h2.le (i := i) (j := mid + m - 1 - s) p1 (by omega) (by omega)
    have e2 := h1.le (i := s) (j := j) i1 p3 p4
    exact .inl (by omega)
  have lo : ∀ i j, a ≤ i → i < s → mid + m - s ≤ j → j < b → LX f (nthI ys i) (nthI ys j) := by
    intro i j p1 p2 p3 p4
    have hsr : (if m > mid then mid + m - b else a) < s := by
      have l1 := hF.lo
      by_cases hm : m > mid
      · rw [if_pos hm] at l1 ⊢; omega
      · rw [if_neg hm] at l1 ⊢; omega
    have hn := hF.no (s - 1) (by omega) (by omega)
    have e1 := h1.le (i := i) (j := s - 1) p1 (by omega) (by omega)
    have e2 := h2.le (i := mid + m - 1 - (s - 1)) (j := j) (by omega) (by omega) p4
    have e3 := h3 i j p1 (by omega) (by omega) p4
    unfold LX; omega
  refine ⟨fun i j p1 p2 p3 => ?_, fun i j p1 p2 p3 => ?_, fun i j p1 p2 p3 p4 => ?_, fun i j p1 p2 p3 => ?_, fun i j p1 p2 p3 => ?_, fun i j p1 p2 p3 p4 => ?_, fun i j p1 p2 p3 p4 => ?_⟩
  · rw [zA i (by omega), zA j p3]; exact h1 i j p1 p2 (by omega)
  · rw [zB i p1 (by omega), zB j (by omega) p3]; exact h2 _ _ (by omega) (by omega) (by omega)
  · rw [zA i p2, zB j p3 p4]; exact h3 _ _ p1 (by omega) (by omega) (by omega)
  · rw [zC i p1 (by omega), zC j (by omega) p3]; exact h1 _ _ (by omega) (by omega) (by omega)
  · rw [zD i p1, zD j (by omega)]; exact h2 _ _ (by omega) p2 p3
  · rw [zC i p1 p2, zD j p3]; exact h3 _ _ (by omega) (by omega) (by omega) p4
  · by_cases c1 : i < s
    · rw [zA i c1]
      by_cases c2 : j < mid + m - s
      · rw [zC j p3 c2]; exact h1 _ _ p1 (by omega) (by omega)
      · rw [zD j (by omega)]; exact lo i j p1 c1 (by omega) p4
    · rw [zB i (by omega) p2]
      by_cases c2 : j < mid + m - s
      · rw [zC j p3 c2]; exact up _ _ (by omega) (by omega) (by omega) (by omega)
      · rw [zD j (by omega)]; exact h2 _ _ (by omega) (by omega) p4
/-- Both halves in order, all of the first ahead of the second: the whole is in order. -/
theorem sym_join {us : List Int} (hL : SG f us a mid) (hRr : SG f us mid b) (r1 : ∀ i, a ≤ i → i < mid → ∃ j, a ≤ j ∧ j < mid ∧ nthI us i = nthI zs j) (r2 : ∀ i, mid ≤ i → i < b → ∃ j, mid ≤ j ∧ j < b ∧ nthI us i = nthI zs j)
    (hx : ∀ i j, a ≤ i → i < mid → mid ≤ j → j < b → LX f (nthI zs i) (nthI zs j)) : SG f us a b := by
  intro i j p1 p2 p3
  by_cases c1 : j < mid
  · exact hL i j p1 p2 c1
  · by_cases c2 : mid ≤ i
    · exact hRr i j c2 p2 p3
    · obtain ⟨i', q1, q2, e1⟩ := r1 i p1 (by omega)
      obtain ⟨j', q3, q4, e2⟩ := r2 j (by omega) p3
      rw [e1, e2]; exact hx i' j' q1 q2 q3 q4
end
end Go.Proofs.Ytolcekbldpdmpaa
