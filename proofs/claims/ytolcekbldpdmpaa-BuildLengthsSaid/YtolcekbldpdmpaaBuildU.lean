/-
  Plain: the rows taken from the last one down; counts per item. No program in sight.
-/
import Derived.Test.YtolcekbldpdmpaaBuildS
import Derived.Test.YtolcekbldpdmpaaBuildT
namespace Go.Proofs.Ytolcekbldpdmpaa

section
variable (f : Nat → Nat) (n L : Nat)
/-- How many of the row that comes after j rows are taken. -/
def mJ : Nat → Nat
  | 0 => 2 * n - 2
  | j + 1 => 2 * prT f n (L - 1 - j) (mJ j)
/-- How many items that row gives. -/
def aJ (j : Nat) : Nat := mJ f n L j - prT f n (L - 1 - j) (mJ f n L j)
/-- How often item k was given by j rows. -/
def dJ : Nat → Nat → Nat
  | 0, _ => 0
  | j + 1, k => dJ j k + if k < aJ f n L j then 1 else 0
end
section
variable {f : Nat → Nat} {n L : Nat} (hL : 1 ≤ L) (hn : n ≤ 2 ^ L)
include hL hn in
theorem mJ_ok : ∀ j, j < L → mJ f n L j ≤ (rowT f n (L - 1 - j)).length
  | 0, _ => by
    have := row_enough (f := f) (n := n) (L - 1) (by rw [show L - 1 + 1 = L by omega]; exact hn)
    exact this
  | j + 1, hj => by
    have h1 := mJ_ok j (by omega)
    rw [show L - 1 - j = (L - 1 - (j + 1)) + 1 by omega] at h1
    have := sel_ok _ _ h1
    unfold mJ
    rw [show L - 1 - j = (L - 1 - (j + 1)) + 1 by omega]
    exact this
include hL hn in
theorem aJ_le (j : Nat) (hj : j < L) : prT f n (L - 1 - j) (mJ f n L j) ≤ mJ f n L j ∧ aJ f n L j ≤ n := by
  have := row_items _ _ (mJ_ok (f := f) hL hn j hj)
  exact ⟨this.1, this.2.1⟩
theorem dJ_le (k : Nat) : ∀ j, dJ f n L j k ≤ j
  | 0 => Nat.le_refl _
  | j + 1 => by
    have := dJ_le k j
    unfold dJ
    split <;> omega
theorem lenT_succ (t m k : Nat) : lenT f n (t + 1) m k = (if k < m - prT f n (t + 1) m then 1 else 0) + lenT f n t (2 * prT f n (t + 1) m) k := by
  unfold lenT
  rw [selT, List.filter_cons]
  by_cases h : k < m - prT f n (t + 1) m
  · simp [h]; omega
  · simp [h]
theorem lenT_zero (m k : Nat) : lenT f n 0 m k = if k < m - prT f n 0 m then 1 else 0 := by
  unfold lenT
  rw [selT, List.filter_cons]
  by_cases h : k < m - prT f n 0 m
  · simp [h]
  · simp [h]
theorem dJ_len (k : Nat) : ∀ j, j < L → dJ f n L j k + lenT f n (L - 1 - j) (mJ f n L j) k = lenT f n (L - 1) (2 * n - 2) k
  | 0, _ => by
    show 0 + lenT f n (L - 1) (2 * n - 2) k = _
    omega
  | j + 1, hj => by
    have h1 := dJ_len k j (by omega)
    rw [show L - 1 - j = (L - 1 - (j + 1)) + 1 by omega, lenT_succ] at h1
    have e : mJ f n L (j + 1) = 2 * prT f n (L - 1 - (j + 1) + 1) (mJ f n L j) := by rw [mJ, show L - 1 - j = (L - 1 - (j + 1)) + 1 by omega]
    have e2 : aJ f n L j = mJ f n L j - prT f n (L - 1 - (j + 1) + 1) (mJ f n L j) := by rw [aJ, show L - 1 - j = (L - 1 - (j + 1)) + 1 by omega]
    rw [e, dJ, e2]
    omega
include hL in
theorem dJ_full (k : Nat) : dJ f n L L k = lenT f n (L - 1) (2 * n - 2) k := by
  obtain ⟨j, rfl⟩ : ∃ j, L = j + 1 := ⟨L - 1, by omega⟩
  have h1 := dJ_len (f := f) (n := n) (L := j + 1) k j (by omega)
  rw [show j + 1 - 1 - j = 0 by omega, lenT_zero] at h1
  rw [dJ, aJ, show j + 1 - 1 - j = 0 by omega]
  exact h1
end
theorem row_le (f : Nat → Nat) (n : Nat) : ∀ t, (rowT f n t).length ≤ 2 * n
  | 0 => by rw [rowT, itemsT_length]; omega
  | t + 1 => by rw [rowT_succ_length]; have := row_le f n t; omega

/-! ### Weights of rows -/
theorem mem_nthP {row : List (Nat × Bool)} {i : Nat} (h : i < row.length) : nthP row i ∈ row := by
  have : nthP row i = row[i] := by simp [nthP, List.getElem?_eq_getElem h]
  rw [this]; exact List.getElem_mem h
theorem pairP_mem : ∀ (row : List (Nat × Bool)) (M : Nat), (∀ x ∈ row, x.1 ≤ M) → ∀ x ∈ pairP row, x.1 ≤ 2 * M
  | [], _, _, x, hx => by simp [pairP] at hx
  | [_], _, _, x, hx => by simp [pairP] at hx
  | a :: b :: r, M, h, x, hx => by
    rw [pairP, List.mem_cons] at hx
    rcases hx with rfl | hx
    · have h1 := h a (by simp)
      have h2 := h b (by simp)
      show a.1 + b.1 ≤ 2 * M
      omega
    · exact pairP_mem r M (fun y hy => h y (by simp [hy])) x hx
theorem rowP_le (f : Nat → Nat) (n B : Nat) (hf : ∀ k, k < n → f k ≤ B) : ∀ t, ∀ x ∈ (rowT f n t).map (gP f), x.1 ≤ B * 2 ^ t
  | 0, x, hx => by
    rw [show rowT f n 0 = itemsT n from rfl, itP_map] at hx
    unfold itP at hx
    simp only [List.map_map, List.mem_map, List.mem_range, Function.comp] at hx
    obtain ⟨k, hk, rfl⟩ := hx
    simpa using hf k hk
  | t + 1, x, hx => by
    rw [row_beh] at hx
    unfold behL at hx
    rw [mrg_mem] at hx
    rcases hx with hx | hx
    · unfold itP at hx
      simp only [List.map_map, List.mem_map, List.mem_range, Function.comp] at hx
      obtain ⟨k, hk, rfl⟩ := hx
      have h1 := hf k hk
      have h2 : B * 1 ≤ B * 2 ^ (t + 1) := Nat.mul_le_mul_left _ (Nat.one_le_two_pow)
      show f k ≤ _
      omega
    · have := pairP_mem _ _ (rowP_le f n B hf t) x hx
      rw [Nat.pow_succ]
      have e : B * (2 ^ t * 2) = 2 * (B * 2 ^ t) := by rw [← Nat.mul_assoc, Nat.mul_comm]
      omega

/-! ### What all symbols have come to -/
def outE (ys : List Int) (e : Nat → Nat) (i : Nat) : Nat := sumN (fun k => if itF ys k = i then e k else 0) ys.length
theorem outE_at {fr ys : List Int} (h : Items fr ys) (e : Nat → Nat) {k : Nat} (hk : k < ys.length) : outE ys e (itF ys k) = e k := sum_hit (it_inj h) _ hk
theorem outE_congr {ys : List Int} {e e' : Nat → Nat} (h : ∀ k, k < ys.length → e k = e' k) (i : Nat) : outE ys e i = outE ys e' i := by
  unfold outE
  refine sumN_congr fun k hk => ?_
  rw [h k hk]
theorem outE_step {fr ys : List Int} (h : Items fr ys) (e : Nat → Nat) {q : Nat} (hq : q < ys.length) (i : Nat) : outE ys (fun k => if k = q then e k + 1 else e k) i = if i = itF ys q then outE ys e i + 1 else outE ys e i := by
  by_cases hi : i = itF ys q
  · subst hi
    rw [if_pos rfl, outE_at h _ hq, outE_at h _ hq, if_pos rfl]
  · rw [if_neg hi]
    unfold outE
    refine sumN_congr fun k hk => ?_
    by_cases e1 : itF ys k = i
    · rw [if_pos e1, if_pos e1]
      exact if_neg fun e2 => hi (by rw [← e2]; exact e1.symm)
    · rw [if_neg e1, if_neg e1]
theorem outE_zero (ys : List Int) (i : Nat) : outE ys (fun _ => 0) i = 0 := by
  unfold outE
  rw [sumN_congr (h := fun _ => 0) (fun k _ => by split <;> rfl), sumN_zero]
/-- j rows given, q items of the next one. -/
def eX (f : Nat → Nat) (n L j q k : Nat) : Nat := dJ f n L j k + if k < q then 1 else 0
theorem eX_step (f : Nat → Nat) (n L j q : Nat) : eX f n L j (q + 1) = fun k => if k = q then eX f n L j q k + 1 else eX f n L j q k := by
  funext k
  unfold eX
  by_cases h : k = q
  · subst h; rw [if_pos (by omega), if_pos rfl, if_neg (by omega)]
  · rw [if_neg h]
    by_cases h2 : k < q
    · rw [if_pos h2, if_pos (by omega)]
    · rw [if_neg h2, if_neg (by omega)]
theorem eX_zero (f : Nat → Nat) (n L j : Nat) : eX f n L j 0 = dJ f n L j := by funext k; simp [eX]
theorem eX_full (f : Nat → Nat) (n L j : Nat) : eX f n L j (aJ f n L j) = dJ f n L (j + 1) := by funext k; rfl
theorem eX_le (f : Nat → Nat) (n L j q k : Nat) : eX f n L j q k ≤ j + 1 := by
  have := dJ_le (f := f) (n := n) (L := L) k j
  unfold eX
  split <;> omega
/-- All the rows given: the lengths. -/
theorem out_done {fr ys : List Int} {L : Nat} (hL : 1 ≤ L) (h2 : ys.length ≠ 1) : (List.range fr.length).map (outE ys (dJ (wtF fr ys) ys.length L L)) = outL fr ys L := by
  unfold outL
  refine List.map_congr_left fun i _ => ?_
  unfold outF
  refine sumN_congr fun k _ => ?_
  rw [dJ_full hL, blF, if_neg h2]
end Go.Proofs.Ytolcekbldpdmpaa
