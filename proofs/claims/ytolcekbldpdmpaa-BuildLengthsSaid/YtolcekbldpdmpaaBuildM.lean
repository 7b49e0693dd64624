/-
  Plain: rows of items and pairs, and the lengths that they tell. No program in sight.
-/
namespace Go.Proofs.Ytolcekbldpdmpaa

inductive Tr where
  | leaf (k : Nat)
  | node (a b : Tr)
def wtT (f : Nat → Nat) : Tr → Nat
  | .leaf k => f k
  | .node a b => wtT f a + wtT f b
/-- How often an item is in one. -/
def ofT (k : Nat) : Tr → Nat
  | .leaf j => if j = k then 1 else 0
  | .node a b => ofT k a + ofT k b
def isPair : Tr → Bool
  | .leaf _ => false
  | .node _ _ => true

section
variable {α β : Type}
/-- Two lists by an order, of one the first list's ahead. -/
def mrg (le : α → α → Bool) : List α → List α → List α
  | [] => fun ys => ys
  | x :: xs => go x (mrg le xs)
where
  go (x : α) (f : List α → List α) : List α → List α
    | [] => x :: f []
    | y :: ys => if le x y then x :: f (y :: ys) else y :: go x f ys
theorem mrg_nil (le : α → α → Bool) (ys : List α) : mrg le [] ys = ys := rfl
theorem mrg_cons_nil (le : α → α → Bool) (x : α) (xs : List α) : mrg le (x :: xs) [] = x :: mrg le xs [] := rfl
theorem mrg_cons (le : α → α → Bool) (x y : α) (xs ys : List α) : mrg le (x :: xs) (y :: ys) = if le x y then x :: mrg le xs (y :: ys) else y :: mrg le (x :: xs) ys := rfl
theorem mrg_right_nil (le : α → α → Bool) (xs : List α) : mrg le xs [] = xs := by
  induction xs with
  | nil => rfl
  | cons x xs ih => rw [mrg_cons_nil, ih]
/-- By induction on both. -/
theorem mrg_ind {P : List α → List α → Prop} (h1 : ∀ ys, P [] ys) (h2 : ∀ x xs, P xs [] → P (x :: xs) []) (h3 : ∀ x xs y ys, P xs (y :: ys) → P (x :: xs) ys → P (x :: xs) (y :: ys)) : ∀ xs ys, P xs ys := by
  intro xs
  induction xs with
  | nil => exact h1
  | cons x xs ih =>
    intro ys
    induction ys with
    | nil => exact h2 x xs (ih [])
    | cons y ys ih2 => exact h3 x xs y ys (ih _) ih2
theorem mrg_length (le : α → α → Bool) (xs ys : List α) : (mrg le xs ys).length = xs.length + ys.length := by
  refine mrg_ind (P := fun xs ys => (mrg le xs ys).length = xs.length + ys.length) ?_ ?_ ?_ xs ys
  · intro ys; simp [mrg_nil]
  · intro x xs h; rw [mrg_cons_nil]; simp only [List.length_cons, h]; omega
  · intro x xs y ys h1 h2
    rw [mrg_cons]
    split
    · simp only [List.length_cons, h1]; omega
    · simp only [List.length_cons, h2]; omega
/-- A map that keeps the order. -/
theorem mrg_map (le : α → α → Bool) (le' : β → β → Bool) (g : α → β) (h : ∀ a b, le' (g a) (g b) = le a b) (xs ys : List α) : (mrg le xs ys).map g = mrg le' (xs.map g) (ys.map g) := by
  refine mrg_ind (P := fun xs ys => (mrg le xs ys).map g = mrg le' (xs.map g) (ys.map g)) ?_ ?_ ?_ xs ys
  · intro ys; rfl
  · intro x xs h1; rw [mrg_cons_nil, List.map_cons, h1]; rfl
  · intro x xs y ys h1 h2
    rw [mrg_cons, List.map_cons, List.map_cons, mrg_cons, h]
    split
    · rw [List.map_cons, h1]; rfl
    · rw [List.map_cons, h2]; rfl
/-- The first n of both together are the first ones of each. -/
theorem mrg_take (le : α → α → Bool) (xs ys : List α) : ∀ n, n ≤ xs.length + ys.length → ∃ a b, a + b = n ∧ a ≤ xs.length ∧ b ≤ ys.length ∧ List.Perm ((mrg le xs ys).take n) (xs.take a ++ ys.take b) := by
  refine mrg_ind (P := fun xs ys => ∀ n, n ≤ xs.length + ys.length → ∃ a b, a + b = n ∧ a ≤ xs.length ∧ b ≤ ys.length ∧ List.Perm ((mrg le xs ys).take n) (xs.take a ++ ys.take b)) ?_ ?_ ?_ xs ys
  · intro ys n hn
    exact ⟨0, n, by omega, by omega, by simpa using hn, by simp [mrg_nil]⟩
  · intro x xs h n hn
    exact ⟨n, 0, by omega, by simpa using hn, by simp, by rw [mrg_right_nil]; simp⟩
  · intro x xs y ys h1 h2 n hn
    cases n with
    | zero => exact ⟨0, 0, rfl, by omega, by omega, by simp⟩
    | succ n =>
      rw [mrg_cons]
      split
      · obtain ⟨a, b, e, ha, hb, hp⟩ := h1 n (by simp only [List.length_cons] at hn ⊢; omega)
        refine ⟨a + 1, b, by omega, by simp; omega, hb, ?_⟩
        simp only [List.take_succ_cons, List.cons_append]
        exact hp.cons x
      · obtain ⟨a, b, e, ha, hb, hp⟩ := h2 n (by simp only [List.length_cons] at hn ⊢; omega)
        refine ⟨a, b + 1, by omega, ha, by simp; omega, ?_⟩
        simp only [List.take_succ_cons]
        exact (hp.cons y).trans List.perm_middle.symm
end

/-- Two by two. -/
def pairT : List Tr → List Tr
  | a :: b :: r => .node a b :: pairT r
  | _ => []
theorem pairT_length : ∀ l : List Tr, (pairT l).length = l.length / 2
  | [] => rfl
  | [a] => by simp [pairT]
  | a :: b :: r => by
    rw [pairT, List.length_cons, pairT_length r]
    simp only [List.length_cons]; omega
theorem pairT_take : ∀ (l : List Tr) (p : Nat), (pairT l).take p = pairT (l.take (2 * p))
  | _, 0 => by simp [pairT]
  | [], p + 1 => by simp [pairT]
  | [a], p + 1 => by
    have : [a].take (2 * (p + 1)) = [a] := List.take_of_length_le (by simp only [List.length_cons, List.length_nil]; omega)
    rw [this]; simp [pairT]
  | a :: b :: r, p + 1 => by
    rw [pairT, List.take_succ_cons, pairT_take r p, show 2 * (p + 1) = 2 * p + 1 + 1 by omega, List.take_succ_cons, List.take_succ_cons, pairT]
/-- A sum over trees. -/
def sumT (g : Tr → Nat) (l : List Tr) : Nat := (l.map g).sum
theorem sumT_append (g : Tr → Nat) (a b : List Tr) : sumT g (a ++ b) = sumT g a + sumT g b := by simp [sumT]
theorem sumT_perm {g : Tr → Nat} {a b : List Tr} (h : List.Perm a b) : sumT g a = sumT g b := (h.map g).sum_nat
theorem sumT_pair (g : Tr → Nat) (hg : ∀ a b, g (.node a b) = g a + g b) : ∀ (l : List Tr), l.length % 2 = 0 → sumT g (pairT l) = sumT g l
  | [], _ => rfl
  | [a], h => by simp at h
  | a :: b :: r, h => by
    have ih := sumT_pair g hg r (by simp only [List.length_cons] at h; omega)
    simp only [sumT, pairT, List.map_cons, List.sum_cons] at ih ⊢
    rw [hg, ih]; omega

def leT (f : Nat → Nat) (a b : Tr) : Bool := decide (wtT f a ≤ wtT f b)
def itemsT (n : Nat) : List Tr := (List.range n).map .leaf
/-- Row t + 1. -/
def rowT (f : Nat → Nat) (n : Nat) : Nat → List Tr
  | 0 => itemsT n
  | t + 1 => mrg (leT f) (itemsT n) (pairT (rowT f n t))
theorem itemsT_length (n : Nat) : (itemsT n).length = n := by simp [itemsT]
theorem rowT_succ_length (f : Nat → Nat) (n t : Nat) : (rowT f n (t + 1)).length = n + (rowT f n t).length / 2 := by
  rw [rowT, mrg_length, itemsT_length, pairT_length]
/-- How many pairs are among the first m of a row. -/
def prT (f : Nat → Nat) (n t m : Nat) : Nat := (((rowT f n t).take m).filter isPair).length
/-- How many items each row gives, from row t + 1 down, of the first m. -/
def selT (f : Nat → Nat) (n : Nat) : Nat → Nat → List Nat
  | 0, m => [m - prT f n 0 m]
  | t + 1, m => (m - prT f n (t + 1) m) :: selT f n t (2 * prT f n (t + 1) m)
/-- An item's length. -/
def lenT (f : Nat → Nat) (n t m k : Nat) : Nat := ((selT f n t m).filter fun a => decide (k < a)).length

theorem filter_items (n : Nat) (a : Nat) : ((itemsT n).take a).filter isPair = [] := by
  rw [List.filter_eq_nil_iff]
  intro x hx
  obtain ⟨k, _, rfl⟩ := List.mem_map.1 (List.mem_of_mem_take hx)
  simp [isPair]
theorem pairT_pairs : ∀ (l : List Tr), ∀ x ∈ pairT l, isPair x = true
  | [], x, h => by simp [pairT] at h
  | [a], x, h => by simp [pairT] at h
  | a :: b :: r, x, h => by
    rw [pairT, List.mem_cons] at h
    rcases h with rfl | h
    · rfl
    · exact pairT_pairs r x h
/-- The first m of a row: so many items, and so many pairs. -/
theorem row_take (f : Nat → Nat) (n t m : Nat) (hm : m ≤ (rowT f n (t + 1)).length) : ∃ a p, a + p = m ∧ a ≤ n ∧ 2 * p ≤ (rowT f n t).length ∧ prT f n (t + 1) m = p ∧
    List.Perm ((rowT f n (t + 1)).take m) ((itemsT n).take a ++ pairT ((rowT f n t).take (2 * p))) := by
  obtain ⟨a, p, e, ha, hp, hperm⟩ := mrg_take (leT f) (itemsT n) (pairT (rowT f n t)) m (by rw [← mrg_length (leT f)]; exact hm)
  rw [itemsT_length] at ha
  rw [pairT_length] at hp
  refine ⟨a, p, e, ha, by omega, ?_, by rw [← pairT_take]; exact hperm⟩
  unfold prT
  have h1 := (hperm.filter isPair).length_eq
  have h2 : (rowT f n (t + 1)).take m = (mrg (leT f) (itemsT n) (pairT (rowT f n t))).take m := rfl
  rw [h2, h1, List.filter_append, filter_items, List.nil_append, List.filter_eq_self.2 (fun x hx => pairT_pairs _ x (List.mem_of_mem_take hx)), List.length_take, pairT_length]
  omega
theorem row0_pr (f : Nat → Nat) (n m : Nat) : prT f n 0 m = 0 := by
  unfold prT
  have := filter_items n m
  show (((itemsT n).take m).filter isPair).length = 0
  rw [this]; rfl
theorem items_of (n k a : Nat) (ha : a ≤ n) : sumT (ofT k) ((itemsT n).take a) = if k < a then 1 else 0 := by
  induction a with
  | zero => simp [sumT]
  | succ a ih =>
    have e : (itemsT n).take (a + 1) = (itemsT n).take a ++ [.leaf a] := by
      rw [List.take_succ_eq_append_getElem (by rw [itemsT_length]; omega)]
      simp [itemsT]
    rw [e, sumT_append, ih (by omega)]
    have : sumT (ofT k) [Tr.leaf a] = if a = k then 1 else 0 := by simp [sumT, ofT]
    rw [this]
    by_cases h : k < a
    · rw [if_pos h, if_neg (by omega), if_pos (by omega)]
    · rw [if_neg h]
      by_cases h2 : a = k
      · rw [if_pos h2, if_pos (by omega)]
      · rw [if_neg h2, if_neg (by omega)]
/-- How often an item is among the first m of a row is its length. -/
theorem of_len (f : Nat → Nat) (n k : Nat) : ∀ t m, m ≤ (rowT f n t).length → sumT (ofT k) ((rowT f n t).take m) = lenT f n t m k
  | 0, m, hm => by
    have hm' : m ≤ n := by have : (rowT f n 0).length = n := itemsT_length n; omega
    show sumT (ofT k) ((itemsT n).take m) = _
    rw [items_of n k m hm']
    unfold lenT selT
    rw [row0_pr, Nat.sub_zero, List.filter_cons]
    by_cases h : k < m
    · simp [h]
    · simp [h]
  | t + 1, m, hm => by
    obtain ⟨a, p, e, ha, hp, hpr, hperm⟩ := row_take f n t m hm
    rw [sumT_perm hperm, sumT_append, items_of n k a ha, sumT_pair (ofT k) (fun _ _ => rfl) _ (by rw [List.length_take]; omega), of_len f n k t (2 * p) hp]
    unfold lenT
    rw [selT, hpr, List.filter_cons, show m - p = a by omega]
    by_cases h : k < a
    · simp [h]; omega
    · simp [h]
end Go.Proofs.Ytolcekbldpdmpaa
