/-
  Plain: the lengths of items: they fall, they are whole, and no others cost less. No program in sight.
-/
import Derived.Test.YtolcekbldpdmpaaBuildP
namespace Go.Proofs.Ytolcekbldpdmpaa

theorem pairT_get : ∀ (l : List Tr) (q : Nat) (a b : Tr), l[2 * q]? = some a → l[2 * q + 1]? = some b → (pairT l)[q]? = some (.node a b)
  | [], q, a, b, h, _ => by simp at h
  | [x], q, a, b, _, h => by rw [List.getElem?_eq_none (by simp)] at h; cases h
  | x :: y :: r, 0, a, b, h1, h2 => by
    simp only [Nat.mul_zero, List.getElem?_cons_zero, Option.some.injEq] at h1
    simp only [Nat.mul_zero, Nat.zero_add, List.getElem?_cons_succ, List.getElem?_cons_zero, Option.some.injEq] at h2
    subst h1 h2; rfl
  | x :: y :: r, q + 1, a, b, h1, h2 => by
    rw [pairT, List.getElem?_cons_succ]
    refine pairT_get r q a b ?_ ?_
    · rw [show 2 * (q + 1) = 2 * q + 1 + 1 by omega, List.getElem?_cons_succ, List.getElem?_cons_succ] at h1; exact h1
    · rw [show 2 * (q + 1) + 1 = 2 * q + 1 + 1 + 1 by omega, List.getElem?_cons_succ, List.getElem?_cons_succ] at h2; exact h2
theorem items_get (n k : Nat) (h : k < n) : (itemsT n)[k]? = some (.leaf k) := by simp [itemsT, h]
theorem items_mem (n k a : Nat) (h : k < a) (ha : a ≤ n) : Tr.leaf k ∈ (itemsT n).take a :=
  List.mem_of_getElem? (i := k) (by rw [List.getElem?_take, if_pos h, items_get n k (by omega)])

section
variable {f : Nat → Nat} {n : Nat}
/-- The first m of a row hold just so many first items. -/
theorem row_items (t m : Nat) (hm : m ≤ (rowT f n t).length) : prT f n t m ≤ m ∧ m - prT f n t m ≤ n ∧ ∀ k, k < m - prT f n t m → Tr.leaf k ∈ (rowT f n t).take m := by
  cases t with
  | zero =>
    have hm' : m ≤ n := by have : (rowT f n 0).length = n := itemsT_length n; omega
    rw [row0_pr]
    exact ⟨by omega, by omega, fun k hk => items_mem n k m (by omega) hm'⟩
  | succ t =>
    obtain ⟨a, p, e, ha, hp, hpr, hperm⟩ := row_take f n t m hm
    rw [hpr]
    exact ⟨by omega, by omega, fun k hk => hperm.symm.subset (List.mem_append_left _ (items_mem n k a (by omega) ha))⟩

variable (hs : ∀ i j, i ≤ j → j < n → f i ≤ f j) (hp : ∀ i, i < n → 0 < f i)
include hs hp in
/-- A row behind gives as many items at least. -/
theorem sel_falls (t m : Nat) (hm : m ≤ (rowT f n (t + 1)).length) : 2 * prT f n (t + 1) m - prT f n t (2 * prT f n (t + 1) m) ≤ m - prT f n (t + 1) m := by
  obtain ⟨a, p, e, ha, hb, hperm, hlast⟩ := mrg_last (leT f) (itemsT n) (pairT (rowT f n t)) m (by rw [← mrg_length (leT f)]; exact hm)
  obtain ⟨a2, p2, e2, ha2, hb2, hpr, hperm2⟩ := row_take f n t m hm
  rw [itemsT_length] at ha hlast
  rw [pairT_length] at hb
  have hpp : prT f n (t + 1) m = p := by
    unfold prT
    have h1 := (hperm.filter isPair).length_eq
    have h2 : (rowT f n (t + 1)).take m = (mrg (leT f) (itemsT n) (pairT (rowT f n t))).take m := rfl
    rw [h2, h1, List.filter_append, filter_items, List.nil_append, List.filter_eq_self.2 (fun x hx => pairT_pairs _ x (List.mem_of_mem_take hx)), List.length_take, pairT_length]
    omega
  rw [hpp]
  have hlen : 2 * p ≤ (rowT f n t).length := by omega
  obtain ⟨r1, r2, r3⟩ := row_items (f := f) (n := n) t (2 * p) hlen
  rcases Nat.lt_or_ge (m - p) (2 * p - prT f n t (2 * p)) with hlt | hge
  · exfalso
    have hap : a < 2 * p - prT f n t (2 * p) := by omega
    have hp0 : 0 < p := by omega
    obtain ⟨a', x, y, g1, g2, g3, g4⟩ := hlast hp0 (by omega)
    have hmem := r3 a hap
    obtain ⟨j, hj⟩ := List.getElem?_of_mem hmem
    have hjlt : j < 2 * p := by
      rcases Nat.lt_or_ge j (2 * p) with h | h
      · exact h
      · rw [List.getElem?_take, if_neg (by omega)] at hj; cases hj
    rw [List.getElem?_take, if_pos hjlt] at hj
    have hx1 : 2 * (p - 1) < (rowT f n t).length := by omega
    have hx2 : 2 * (p - 1) + 1 < (rowT f n t).length := by omega
    have hy := pairT_get (rowT f n t) (p - 1) _ _ (List.getElem?_eq_getElem hx1) (List.getElem?_eq_getElem hx2)
    rw [g3] at hy
    have hy' := Option.some.inj hy
    have hj' : j < (rowT f n t).length := by omega
    rw [List.getElem?_eq_getElem hj'] at hj
    have hj2 := Option.some.inj hj
    have hrise := row_rises (f := f) (n := n) hs t
    have h1 : wtT f ((rowT f n t)[j]) ≤ wtT f ((rowT f n t)[2 * (p - 1) + 1]) := by
      by_cases e3 : j = 2 * (p - 1) + 1
      · subst e3; exact Nat.le_refl _
      · exact List.pairwise_iff_getElem.1 hrise j (2 * (p - 1) + 1) hj' hx2 (by omega)
    have h2 := wt_pos (f := f) (n := n) hp _ (row_in (f := f) t _ (List.getElem_mem hx1))
    rw [items_get n a' (by omega)] at g2
    have g2' := Option.some.inj g2
    subst g2'
    rw [hy'] at g4
    have g5 : ¬ (f a' ≤ wtT f ((rowT f n t)[2 * (p - 1)]) + wtT f ((rowT f n t)[2 * (p - 1) + 1])) := of_decide_eq_false g4
    rw [hj2] at h1
    have h3 : f a' ≤ f a := hs a' a g1 (by omega)
    simp only [wtT] at h1
    omega
  · exact hge

theorem sel_length : ∀ t m, (selT f n t m).length = t + 1
  | 0, _ => rfl
  | t + 1, m => by rw [selT, List.length_cons, sel_length t]
theorem sel_head : ∀ t m, (selT f n t m).head? = some (m - prT f n t m)
  | 0, m => by simp [selT]
  | t + 1, m => by simp [selT]
theorem sel_ok (t m : Nat) (hm : m ≤ (rowT f n (t + 1)).length) : 2 * prT f n (t + 1) m ≤ (rowT f n t).length := by
  obtain ⟨a, p, e, ha, hb, hpr, hperm⟩ := row_take f n t m hm
  rw [hpr]; exact hb
include hs hp in
theorem sel_desc : ∀ t m, m ≤ (rowT f n t).length → (selT f n t m).Pairwise (fun a b => b ≤ a) ∧ ∀ x ∈ selT f n t m, x ≤ n
  | 0, m, hm => by
    have hm' : m ≤ n := by have : (rowT f n 0).length = n := itemsT_length n; omega
    simp [selT]; omega
  | t + 1, m, hm => by
    have ih := sel_desc t (2 * prT f n (t + 1) m) (sel_ok t m hm)
    have hf := sel_falls hs hp t m hm
    have hr := row_items (f := f) (n := n) (t + 1) m hm
    rw [selT]
    refine ⟨List.pairwise_cons.2 ⟨?_, ih.1⟩, ?_⟩
    · intro x hx
      have hh := sel_head (f := f) (n := n) t (2 * prT f n (t + 1) m)
      cases hl : selT f n t (2 * prT f n (t + 1) m) with
      | nil => rw [hl] at hx; simp at hx
      | cons y r =>
        rw [hl] at hh hx ih
        simp only [List.head?_cons, Option.some.injEq] at hh
        rw [List.mem_cons] at hx
        rcases hx with rfl | hx
        · omega
        · have := (List.pairwise_cons.1 ih.1).1 x hx; omega
    · intro x hx
      rw [List.mem_cons] at hx
      rcases hx with rfl | hx
      · exact hr.2.1
      · exact ih.2 x hx
/-- What rows give, weighed. -/
def wd : List Nat → Nat
  | [] => 0
  | a :: r => a * 2 ^ r.length + wd r
theorem wd_sel : ∀ t m, m ≤ (rowT f n t).length → wd (selT f n t m) = m * 2 ^ t
  | 0, m, _ => by simp [selT, wd, row0_pr]
  | t + 1, m, hm => by
    have ih := wd_sel t (2 * prT f n (t + 1) m) (sel_ok t m hm)
    have hr := row_items (f := f) (n := n) (t + 1) m hm
    rw [selT, wd, ih, sel_length]
    generalize prT f n (t + 1) m = p at *
    have e : 2 * p * 2 ^ t = p * 2 ^ (t + 1) := by rw [Nat.pow_succ, Nat.mul_comm 2 p, Nat.mul_assoc, Nat.mul_comm 2]
    rw [e, ← Nat.add_mul]
    congr 1
    omega
def itw (k : Nat) : List Nat → Nat
  | [] => 0
  | a :: r => (if k < a then 2 ^ r.length else 0) + itw k r
theorem itw_sum : ∀ (l : List Nat), (∀ x ∈ l, x ≤ n) → sumN (fun k => itw k l) n = wd l
  | [], _ => by simp [itw, wd, sumN_zero]
  | a :: r, h => by
    have : (fun k => itw k (a :: r)) = fun k => (if k < a then 2 ^ r.length else 0) + itw k r := rfl
    rw [this, sumN_add, sumN_below _ _ _ (h a (by simp)), itw_sum r (fun x hx => h x (by simp [hx])), wd]
theorem itw_len (k : Nat) : ∀ (l : List Nat), l.Pairwise (fun a b => b ≤ a) → itw k l + 2 ^ (l.length - (l.filter fun a => decide (k < a)).length) = 2 ^ l.length
  | [], _ => by simp [itw]
  | a :: r, h => by
    have h1 := List.pairwise_cons.1 h
    have ih := itw_len k r h1.2
    rw [itw, List.filter_cons, List.length_cons]
    by_cases hk : k < a
    · rw [if_pos hk, if_pos (by simpa using hk), List.length_cons, Nat.add_sub_add_right, Nat.pow_succ]
      omega
    · have : (r.filter fun a => decide (k < a)) = [] := by
        rw [List.filter_eq_nil_iff]
        intro x hx
        have := h1.1 x hx
        simp; omega
      rw [if_neg hk, if_neg (by simpa using hk), this]
      rw [this] at ih
      simp only [List.length_nil, Nat.sub_zero] at ih ⊢
      omega
include hs hp in
/-- The lengths are whole. -/
theorem len_whole (t m : Nat) (hm : m ≤ (rowT f n t).length) : sumN (fun k => 2 ^ (t + 1 - lenT f n t m k)) n + m * 2 ^ t = n * 2 ^ (t + 1) := by
  have hd := sel_desc hs hp t m hm
  have h1 := itw_sum (n := n) (selT f n t m) hd.2
  rw [wd_sel t m hm] at h1
  rw [← h1, ← sumN_add, ← sumN_const]
  refine sumN_congr fun k _ => ?_
  have := itw_len k (selT f n t m) hd.1
  rw [sel_length] at this
  unfold lenT
  omega
theorem len_le (t m k : Nat) : lenT f n t m k ≤ t + 1 := by
  unfold lenT
  have := List.length_filter_le (fun a => decide (k < a)) (selT f n t m)
  rw [sel_length] at this
  exact this
/-- Later items are not longer. -/
theorem len_falls (t m : Nat) {i k : Nat} (h : i ≤ k) : lenT f n t m k ≤ lenT f n t m i := by
  unfold lenT
  generalize selT f n t m = l
  induction l with
  | nil => exact Nat.le_refl _
  | cons a r ih =>
    rw [List.filter_cons, List.filter_cons]
    by_cases h1 : k < a
    · have h2 : i < a := by omega
      simp [h1, h2]; exact ih
    · by_cases h2 : i < a
      · simp [h1, h2]; omega
      · simp [h1, h2]; exact ih
/-- There is room. -/
theorem row_room : ∀ t d, n ≤ d * 2 ^ t → 2 * n ≤ (rowT f n t).length + d
  | 0, d, h => by
    have : (rowT f n 0).length = n := itemsT_length n
    simp at h; omega
  | t + 1, d, h => by
    have ih := row_room t (2 * d) (by rw [Nat.pow_succ] at h; rw [Nat.mul_comm 2 d, Nat.mul_assoc, Nat.mul_comm 2]; exact h)
    rw [rowT_succ_length]; omega
theorem row_enough (t : Nat) (h : n ≤ 2 ^ (t + 1)) : 2 * n - 2 ≤ (rowT f n t).length := by
  have := row_room (f := f) (n := n) t 2 (by rw [Nat.mul_comm, ← Nat.pow_succ]; exact h)
  omega
include hs hp in
/-- Each item has a length. -/
theorem len_pos (t k : Nat) (h2 : 2 ≤ n) (h : n ≤ 2 ^ (t + 1)) (hk : k < n) : 1 ≤ lenT f n t (2 * n - 2) k := by
  have hw := len_whole hs hp t (2 * n - 2) (row_enough t h)
  rcases Nat.eq_zero_or_pos (lenT f n t (2 * n - 2) k) with h0 | h0
  · exfalso
    have h3 := sumN_two (n := n) (i := k) (fun k => 2 ^ (t + 1 - lenT f n t (2 * n - 2) k)) hk (fun j _ => Nat.one_le_two_pow)
    simp only [h0, Nat.sub_zero] at h3
    have e : (2 * n - 2) * 2 ^ t = (n - 1) * 2 ^ (t + 1) := by
      rw [Nat.pow_succ, Nat.mul_comm (2 ^ t) 2, ← Nat.mul_assoc]
      congr 1
      omega
    rw [e] at hw
    have e2 : n * 2 ^ (t + 1) = (n - 1) * 2 ^ (t + 1) + 2 ^ (t + 1) := by
      have : n = (n - 1) + 1 := by omega
      rw [this, Nat.add_mul, Nat.one_mul]
      simp
    omega
  · exact h0
include hs hp in
theorem len_kraft (t : Nat) (h1 : 1 ≤ n) (h : n ≤ 2 ^ (t + 1)) : sumN (fun k => 2 ^ (t + 1 - lenT f n t (2 * n - 2) k)) n = 2 ^ (t + 1) := by
  have hw := len_whole hs hp t (2 * n - 2) (row_enough t h)
  have e : (2 * n - 2) * 2 ^ t = (n - 1) * 2 ^ (t + 1) := by
    rw [Nat.pow_succ, Nat.mul_comm (2 ^ t) 2, ← Nat.mul_assoc]
    congr 1
    omega
  rw [e] at hw
  have e2 : n * 2 ^ (t + 1) = (n - 1) * 2 ^ (t + 1) + 2 ^ (t + 1) := by
    have : n = (n - 1) + 1 := by omega
    rw [this, Nat.add_mul, Nat.one_mul]
    simp
  omega
/-- What the lengths cost. -/
theorem len_cost (t m : Nat) (hm : m ≤ (rowT f n t).length) : sumT (wtT f) ((rowT f n t).take m) = sumN (fun k => lenT f n t m k * f k) n := by
  rw [sumT_wt (n := n) _ (fun x hx => row_in (f := f) t x (List.mem_of_mem_take hx))]
  exact sumN_congr fun k _ => by rw [of_len f n k t m hm]

/-! ### No others cost less -/
def cn (s : Nat → Bool) (n : Nat) : Nat := sumN (fun k => if s k then 1 else 0) n
def wsum (f : Nat → Nat) (s : Nat → Bool) (n : Nat) : Nat := sumN (fun k => if s k then f k else 0) n
theorem cn_le (s : Nat → Bool) (n : Nat) : cn s n ≤ n := by
  have : cn s n ≤ sumN (fun _ => 1) n := sumN_le fun k _ => by split <;> omega
  rw [sumN_const] at this; omega
theorem least_items (s : Nat → Bool) : ∀ m, (∀ i j, i ≤ j → j < m → f i ≤ f j) → sumN f (cn s m) ≤ wsum f s m
  | 0, _ => by simp [cn, sumN, wsum]
  | m + 1, h => by
    have ih := least_items s m (fun i j hi hj => h i j hi (by omega))
    have e1 : cn s (m + 1) = cn s m + if s m then 1 else 0 := rfl
    have e2 : wsum f s (m + 1) = wsum f s m + if s m then f m else 0 := rfl
    rw [e1, e2]
    cases s m with
    | false => simpa using ih
    | true =>
      have := h (cn s m) m (cn_le s m) (by omega)
      simp only [if_true]
      rw [sumN]; omega
theorem items_sum (a : Nat) (ha : a ≤ n) : (((itemsT n).take a).map (wtT f)).sum = sumN f a := by
  induction a with
  | zero => rfl
  | succ a ih =>
    have e : (itemsT n).take (a + 1) = (itemsT n).take a ++ [.leaf a] := by
      rw [List.take_succ_eq_append_getElem (by rw [itemsT_length]; omega)]
      simp [itemsT]
    rw [e, List.map_append, List.sum_append, ih (by omega), sumN]; simp [wtT]
include hs in
theorem row_least (S : Nat → Nat → Bool) : ∀ t m, m * 2 ^ t ≤ sumN (fun u => cn (S u) n * 2 ^ u) (t + 1) → m ≤ (rowT f n t).length ∧ sumT (wtT f) ((rowT f n t).take m) ≤ sumN (fun u => wsum f (S u) n) (t + 1)
  | 0, m, h => by
    have h1 : m ≤ cn (S 0) n := by simpa [sumN] using h
    have h2 := cn_le (S 0) n
    have h3 := least_items (f := f) (S 0) n hs
    refine ⟨by have : (rowT f n 0).length = n := itemsT_length n; omega, ?_⟩
    show (((itemsT n).take m).map (wtT f)).sum ≤ _
    rw [items_sum m (by omega)]
    have h4 : sumN f m ≤ sumN f (cn (S 0) n) := by
      have : ∀ d, sumN f m ≤ sumN f (m + d) := by
        intro d
        induction d with
        | zero => exact Nat.le_refl _
        | succ d ih => rw [show m + (d + 1) = (m + d) + 1 by omega, sumN]; omega
      have := this (cn (S 0) n - m)
      rwa [show m + (cn (S 0) n - m) = cn (S 0) n by omega] at this
    have h5 : sumN (fun u => wsum f (S u) n) (0 + 1) = wsum f (S 0) n := by simp [sumN]
    rw [h5]; omega
  | t + 1, m, h => by
    rw [sumN] at h
    have h2 := cn_le (S (t + 1)) n
    have h3 := least_items (f := f) (S (t + 1)) n hs
    have e5 : sumN (fun u => wsum f (S u) n) (t + 1 + 1) = sumN (fun u => wsum f (S u) n) (t + 1) + wsum f (S (t + 1)) n := rfl
    have mono : ∀ a b, a ≤ b → sumN f a ≤ sumN f b := by
      intro a b hab
      induction hab with
      | refl => exact Nat.le_refl _
      | step _ ih => rw [sumN]; omega
    have hits := items_rise (f := f) (n := n) hs
    have hprs := pairT_rises f _ (row_rises (f := f) (n := n) hs t)
    rw [e5]
    by_cases hma : m ≤ cn (S (t + 1)) n
    · refine ⟨by rw [rowT_succ_length]; omega, ?_⟩
      have := mrg_least (wtT f) (leT f) (fun _ _ => rfl) (itemsT n) (pairT (rowT f n t)) hits hprs m 0 (by rw [itemsT_length]; omega) (by omega)
      rw [items_sum m (by omega)] at this
      have h4 := mono m _ hma
      simp only [Nat.add_zero, List.take_zero, List.map_nil, List.sum_nil] at this
      show (((mrg (leT f) (itemsT n) (pairT (rowT f n t))).take m).map (wtT f)).sum ≤ _
      omega
    · generalize cn (S (t + 1)) n = a at *
      have h6 : 2 * (m - a) * 2 ^ t ≤ sumN (fun u => cn (S u) n * 2 ^ u) (t + 1) := by
        have e : 2 * (m - a) * 2 ^ t = (m - a) * 2 ^ (t + 1) := by rw [Nat.pow_succ, Nat.mul_comm 2, Nat.mul_assoc, Nat.mul_comm 2]
        rw [e, Nat.sub_mul]; omega
      obtain ⟨i1, i2⟩ := row_least S t (2 * (m - a)) h6
      refine ⟨by rw [rowT_succ_length]; omega, ?_⟩
      have := mrg_least (wtT f) (leT f) (fun _ _ => rfl) (itemsT n) (pairT (rowT f n t)) hits hprs a (m - a) (by rw [itemsT_length]; omega) (by rw [pairT_length]; omega)
      rw [items_sum a h2, show a + (m - a) = m by omega, pairT_take] at this
      have e7 := sumT_pair (wtT f) (fun _ _ => rfl) ((rowT f n t).take (2 * (m - a))) (by rw [List.length_take]; omega)
      unfold sumT at e7 i2 ⊢
      rw [e7] at this
      show (((mrg (leT f) (itemsT n) (pairT (rowT f n t))).take m).map (wtT f)).sum ≤ _
      omega
theorem pow_sum (T a : Nat) : ∀ b, a ≤ b → sumN (fun u => if a ≤ u then 2 ^ u else 0) b + 2 ^ a = 2 ^ b
  | 0, h => by obtain rfl : a = 0 := by omega
               simp [sumN]
  | b + 1, h => by
    rw [sumN]
    by_cases e : a = b + 1
    · subst e
      rw [if_neg (by omega), sumN_congr (h := fun _ => 0) (fun k hk => if_neg (by omega)), sumN_zero]; omega
    · have := pow_sum T a b (by omega)
      rw [if_pos (by omega), Nat.pow_succ]; omega
theorem one_sum (a c : Nat) : ∀ b, sumN (fun u => if a ≤ u then c else 0) b = (b - a) * c
  | 0 => by simp [sumN]
  | b + 1 => by
    rw [sumN, one_sum a c b]
    by_cases e : a ≤ b
    · rw [if_pos e, show b + 1 - a = (b - a) + 1 by omega, Nat.succ_mul]
    · rw [if_neg e, show b + 1 - a = b - a by omega]; omega
include hs in
/-- No other lengths cost less. -/
theorem len_least (t : Nat) (o : Nat → Nat) (h1 : 1 ≤ n) (h : n ≤ 2 ^ (t + 1)) (ho : ∀ k, k < n → o k ≤ t + 1) (hk : sumN (fun k => 2 ^ (t + 1 - o k)) n ≤ 2 ^ (t + 1)) :
    sumN (fun k => lenT f n t (2 * n - 2) k * f k) n ≤ sumN (fun k => o k * f k) n := by
  rw [← len_cost t (2 * n - 2) (row_enough t h)]
  have hW : sumN (fun u => cn (fun k => decide (t + 1 - o k ≤ u)) n * 2 ^ u) (t + 1) + sumN (fun k => 2 ^ (t + 1 - o k)) n = n * 2 ^ (t + 1) := by
    have e1 : sumN (fun u => cn (fun k => decide (t + 1 - o k ≤ u)) n * 2 ^ u) (t + 1) = sumN (fun u => sumN (fun k => if t + 1 - o k ≤ u then 2 ^ u else 0) n) (t + 1) := by
      refine sumN_congr fun u _ => ?_
      unfold cn
      rw [← sumN_mul]
      refine sumN_congr fun k _ => ?_
      by_cases e : t + 1 - o k ≤ u
      · simp [e]
      · simp [e]
    rw [e1, sumN_swap, ← sumN_add, ← sumN_const]
    refine sumN_congr fun k _ => ?_
    exact pow_sum 0 (t + 1 - o k) (t + 1) (by omega)
  have hC : sumN (fun u => wsum f (fun k => decide (t + 1 - o k ≤ u)) n) (t + 1) = sumN (fun k => o k * f k) n := by
    unfold wsum
    rw [sumN_swap]
    refine sumN_congr fun k hkn => ?_
    have := ho k hkn
    have e : sumN (fun i => if decide (t + 1 - o k ≤ i) = true then f k else 0) (t + 1) = sumN (fun i => if t + 1 - o k ≤ i then f k else 0) (t + 1) := sumN_congr fun i _ => by simp
    rw [e, one_sum, show t + 1 - (t + 1 - o k) = o k by omega]
  have e : (2 * n - 2) * 2 ^ t = (n - 1) * 2 ^ (t + 1) := by
    rw [Nat.pow_succ, Nat.mul_comm (2 ^ t) 2, ← Nat.mul_assoc]
    congr 1
    omega
  have e2 : n * 2 ^ (t + 1) = (n - 1) * 2 ^ (t + 1) + 2 ^ (t + 1) := by
    have : n = (n - 1) + 1 := by omega
    rw [this, Nat.add_mul, Nat.one_mul]
    simp
  have := (row_least (f := f) (n := n) hs (fun u k => decide (t + 1 - o k ≤ u)) t (2 * n - 2) (by rw [e]; omega)).2
  rw [hC] at this
  exact this
end
end Go.Proofs.Ytolcekbldpdmpaa
