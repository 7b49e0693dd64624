/-
  Plain: the runs of lengths make these lengths; runs make as many as they tell. No program in sight.
-/
import Derived.Test.YtcifmbcchgdplaaRunsM
namespace Go.Proofs.Ytcifmbcchgdplaa

theorem take_more (l : List Nat) (a : Nat) (x : Nat) : ∀ k, a + k ≤ l.length → (∀ j, j < k → nth l (a + j) = x) → l.take (a + k) = l.take a ++ List.replicate k x
  | 0, _, _ => by simp
  | k + 1, h, hx => by
    have e : nth l (a + k) = l[a + k] := by simp [nth, List.getElem?_eq_getElem (show a + k < l.length by omega)]
    rw [← Nat.add_assoc, List.take_succ_eq_append_getElem (by omega), take_more l a x k (by omega) (fun j hj => hx j (by omega)), List.replicate_succ', List.append_assoc, ← e, hx k (by omega)]

theorem sq_ok {l : List Nat} (h : sqE l = 0) : l.length ≤ 320 ∧ ∀ i, nth l i ≤ 15 := by
  unfold sqE at h
  by_cases h1 : 320 < l.length
  · rw [if_pos h1] at h; omega
  · rw [if_neg h1] at h
    by_cases h2 : l.all (fun x => decide (x ≤ 15)) = true
    · refine ⟨by omega, fun i => ?_⟩
      unfold nth
      rcases Nat.lt_or_ge i l.length with hi | hi
      · rw [List.getElem?_eq_getElem hi]
        exact of_decide_eq_true (List.all_eq_true.1 h2 _ (List.getElem_mem hi))
      · rw [List.getElem?_eq_none hi]; exact Nat.zero_le _
    · rw [if_neg h2] at h; omega

theorem step_put {l : List Nat} {a : Nat} (ha : a < l.length) (h15 : ∀ i, nth l i ≤ 15) : runOk (stepOf l a).1 = true ∧ ¬ ((stepOf l a).1.1 = 16 ∧ l.take a = []) ∧ timesOf (stepOf l a).1 = (stepOf l a).2 ∧ whatOf (stepOf l a).1 (l.take a) = nth l a ∧ (stepOf l a).2 ≤ sameN l a := by
  have hx := h15 a
  have hlen : (l.take a).length = a := by rw [List.length_take]; omega
  unfold stepOf
  have hsp := sameN_pos ha
  by_cases h1 : nth l a = 0 ∧ 11 ≤ sameN l a
  · rw [if_pos h1]
    refine ⟨?_, ?_, ?_, ?_, by dsimp only; omega⟩
    · unfold runOk symBits; simp; omega
    · simp
    · unfold timesOf; simp; omega
    · unfold whatOf; simp [h1.1]
  · rw [if_neg h1]
    by_cases h2 : nth l a = 0 ∧ 3 ≤ sameN l a
    · rw [if_pos h2]
      have : sameN l a < 11 := by
        rcases Nat.lt_or_ge (sameN l a) 11 with h | h
        · exact h
        · exact absurd ⟨h2.1, h⟩ h1
      refine ⟨?_, ?_, ?_, ?_, by dsimp only; omega⟩
      · unfold runOk symBits; simp; omega
      · simp
      · unfold timesOf; simp; omega
      · unfold whatOf; simp [h2.1]
    · rw [if_neg h2]
      by_cases h3 : nth l a ≠ 0 ∧ 0 < a ∧ nth l (a - 1) = nth l a ∧ 3 ≤ sameN l a
      · rw [if_pos h3]
        refine ⟨?_, ?_, ?_, ?_, by dsimp only; omega⟩
        · unfold runOk symBits; simp; omega
        · intro h
          have := congrArg List.length h.2
          rw [hlen] at this
          have := h3.2.1
          simp at *
          omega
        · unfold timesOf; simp; omega
        · unfold whatOf
          simp only [if_true]
          rw [hlen]
          have : nth (l.take a) (a - 1) = nth l (a - 1) := by
            unfold nth
            rw [List.getElem?_take, if_pos (by have := h3.2.1; omega)]
          rw [this, h3.2.2.1]
      · rw [if_neg h3]
        refine ⟨?_, ?_, ?_, ?_, hsp⟩
        · unfold runOk symBits; simp only [decide_eq_true_eq]
          refine ⟨by omega, by omega, by omega, ?_⟩
          rw [if_neg (by omega), if_neg (by omega), if_neg (by omega)]; decide
        · intro h; have := h.1; dsimp only at this; omega
        · unfold timesOf; rw [if_neg (by dsimp only; omega), if_neg (by dsimp only; omega)]
        · unfold whatOf; rw [if_neg (by dsimp only; omega), if_neg (by dsimp only; omega)]; simp

theorem strF_back (l : List Nat) (h15 : ∀ i, nth l i ≤ 15) : ∀ (k a : Nat), l.length - a ≤ k → a ≤ l.length → strF l.length (runsFrom l a) (l.take a) = (l, 0)
  | 0, a, h, ha => by
    obtain rfl : a = l.length := by omega
    rw [runsFrom_end (Nat.le_refl _)]
    unfold strF
    rw [List.take_length, if_pos rfl]
  | k + 1, a, h, ha => by
    rcases Nat.lt_or_ge a l.length with hlt | hge
    · rw [runsFrom_step hlt]
      obtain ⟨h1, h2, h3, h4, h5⟩ := step_put hlt h15
      have hpos := stepOf_pos l a
      have hle := stepOf_le l a hlt
      have hlen : (l.take a).length = a := by rw [List.length_take]; omega
      have hp : putE l.length (stepOf l a).1 (l.take a) = 0 := by
        unfold putE
        rw [if_pos h1, if_neg]
        intro h
        rcases h with h | h
        · exact h2 h
        · rw [h3, hlen] at h; omega
      unfold strF
      rw [if_pos hp]
      have hr : putR (stepOf l a).1 (l.take a) = l.take (a + (stepOf l a).2) := by
        unfold putR
        rw [h3, h4]
        exact (take_more l a (nth l a) _ hle (fun j hj => (sameN_in (by omega)).2)).symm
      rw [hr]
      exact strF_back l h15 k _ (by omega) hle
    · obtain rfl : a = l.length := by omega
      rw [runsFrom_end (Nat.le_refl _)]
      unfold strF
      rw [List.take_length, if_pos rfl]

/-- The runs of lengths make these lengths. -/
theorem sq_back {l : List Nat} (h : sqE l = 0) : strL (sq l) (l.length : Int) = (l, 0) := by
  obtain ⟨h1, h2⟩ := sq_ok h
  unfold strL
  rw [if_neg (by omega)]
  unfold sq
  rw [if_pos h, Int.toNat_natCast]
  have := strF_back l h2 l.length 0 (by omega) (by omega)
  simpa using this

/-- How many lengths runs tell together. -/
def sumT (l : List (Int × Int)) : Nat := (l.map timesOf).sum
theorem sumT_snoc (l : List (Int × Int)) (r : Int × Int) : sumT (l ++ [r]) = sumT l + timesOf r := by simp [sumT]

theorem strF_sum (n : Nat) : ∀ (l : List (Int × Int)) (out x : List Nat), (∀ y ∈ out, y ≤ 15) → strF n l out = (x, 0) → x.length = n ∧ n = out.length + sumT l ∧ (∀ r ∈ l, runOk r = true) ∧ ∀ y ∈ x, y ≤ 15
  | [], out, x, h15, h => by
    unfold strF at h
    split at h
    · rename_i hn
      injection h with h1 h2
      subst h1
      exact ⟨hn, by simp [sumT, hn], by simp, h15⟩
    · injection h with h1 h2; omega
  | r :: l, out, x, h15, h => by
    unfold strF at h
    split at h
    · rename_i h0
      obtain ⟨h3, h4, h5⟩ := putE_zero h0
      have hb := runOk_bounds h3
      have h15' : ∀ y ∈ putR r out, y ≤ 15 := by
        intro y hy
        rcases List.mem_append.1 hy with hy | hy
        · exact h15 y hy
        · rw [List.eq_of_mem_replicate hy]
          unfold whatOf
          split
          · unfold nth
            rcases Nat.lt_or_ge (out.length - 1) out.length with hi | hi
            · rw [List.getElem?_eq_getElem hi]; exact h15 _ (List.getElem_mem hi)
            · rw [List.getElem?_eq_none hi]; exact Nat.zero_le _
          · split
            · exact Nat.zero_le _
            · omega
      obtain ⟨a1, a2, a3, a4⟩ := strF_sum n l _ x h15' h
      rw [putR_length] at a2
      refine ⟨a1, ?_, ?_, a4⟩
      · simp only [sumT, List.map_cons, List.sum_cons] at *; omega
      · intro q hq
        rcases List.mem_cons.1 hq with rfl | hq
        · exact h3
        · exact a3 q hq
    · rename_i h0
      injection h with h1 h2
      exact absurd h2 h0

theorem strL_sum {l : List (Int × Int)} {n : Int} {x : List Nat} (h : strL l n = (x, 0)) : 0 ≤ n ∧ n ≤ 320 ∧ (x.length : Int) = n ∧ n = (sumT l : Int) ∧ (∀ r ∈ l, runOk r = true) ∧ ∀ y ∈ x, y ≤ 15 := by
  unfold strL at h
  by_cases hn : n < 0 ∨ 320 < n
  · rw [if_pos hn] at h; injection h with h1 h2; omega
  · rw [if_neg hn] at h
    obtain ⟨a1, a2, a3, a4⟩ := strF_sum n.toNat l [] x (by simp) h
    simp only [List.length_nil, Nat.zero_add] at a2
    exact ⟨by omega, by omega, by omega, by omega, a3, a4⟩
theorem strF_no (m : Nat) : ∀ (l : List (Int × Int)) (out : List Nat), (strF m l out).2 ≠ 0 → (strF m l out).1 = [] := by
  intro l
  induction l with
  | nil => intro out h; unfold strF at h ⊢; split at h <;> simp_all
  | cons r l ih => intro out h; unfold strF at h ⊢; split at h <;> simp_all
theorem strL_no {l : List (Int × Int)} {n : Int} (h : (strL l n).2 ≠ 0) : (strL l n).1 = [] := by
  unfold strL at h ⊢
  by_cases hn : n < 0 ∨ 320 < n
  · rw [if_pos hn]
  · rw [if_neg hn] at h ⊢
    exact strF_no _ l [] h
/-- With another number they are refused. -/
theorem strL_other {l : List (Int × Int)} {n m : Int} {x : List Nat} (h : strL l n = (x, 0)) (hne : m ≠ n) : (strL l m).2 ≠ 0 := by
  intro h0
  obtain ⟨_, _, _, h1, _⟩ := strL_sum h
  obtain ⟨_, _, _, h2, _⟩ := strL_sum (show strL l m = ((strL l m).1, 0) by rw [← h0])
  omega
end Go.Proofs.Ytcifmbcchgdplaa
