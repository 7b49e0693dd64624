/-
  Plain: rows of items and pairs, and the lengths that they tell. No program in sight.
-/
namespace Go.Proofs.Ytahboomghjdjhaa

inductive Tr where
  | leaf (k : Nat)
  | node (a b : Tr)
def wtT (f : Nat → Nat) : Tr → Nat
  | .leaf k => f k
  | .node a b => wtT f a + wtT f b
/-- How often an item is in one. -/
def ofT (k : Nat) : Tr → Nat
  | .leaf j => if j = k then 1 else 0
  | .node a b => ofT k a + ofT k b
def isPair : Tr → Bool
  | .leaf _ => false
  | .node _ _ => true

section
variable {α β : Type}
/-- Two lists by an order, of one the first list's ahead. -/
def mrg (le : α → α → Bool) : List α → List α → List α
  | [] => fun ys => ys
  | x :: xs => go x (mrg le xs)
where
  go (x : α) (f : List α → List α) : List α → List α
    | [] => x :: f []
    | y :: ys => if le x y then x :: f (y :: ys) else y :: go x f ys
theorem mrg_nil (le : α → α → Bool) (ys : List α) : mrg le [] ys = ys := rfl
theorem mrg_cons_nil (le : α → α → Bool) (x : α) (xs : List α) : mrg le (x :: xs) [] = x :: mrg le xs [] := rfl
theorem mrg_cons (le : α → α → Bool) (x y : α) (xs ys : List α) : mrg le (x :: xs) (y :: ys) = if le x y then x :: mrg le xs (y :: ys) else y :: mrg le (x :: xs) ys := rfl
theorem mrg_right_nil (le : α → α → Bool) (xs : List α) : mrg le xs [] = xs := by
  induction xs with
  | nil => rfl
  | cons x xs ih => rw [mrg_cons_nil, ih]
/-- By induction on both. -/
theorem mrg_ind {P : List α → List α → Prop} (h1 : ∀ ys, P [] ys) (h2 : ∀ x xs, P xs [] → P (x :: xs) []) (h3 : ∀ x xs y ys, P xs (y :: ys) → P (x :: xs) ys → P (x :: xs) (y :: ys)) : ∀ xs ys, P xs ys := by
  intro xs
  induction xs with
  | nil => exact h1
  | cons x xs ih =>
    intro ys
    induction ys with
    | nil => exact h2 x xs (ih [])
    | cons y ys ih2 => exact h3 x xs y ys (ih _) ih2
theorem mrg_length (le : α → α → Bool) (xs ys : List α) : (mrg le xs ys).length = xs.length + ys.length := by
  refine mrg_ind (P := fun xs ys => (mrg le xs ys).length = xs.length + ys.length) ?_ ?_ ?_ xs ys
  · intro ys; simp [mrg_nil]
  · intro x xs h; rw [mrg_cons_nil]; simp only [List.length_cons, h]; omega
  · intro x xs y ys h1 h2
    rw [mrg_cons]
    split
    · simp only [List.length_cons, h1]; omega
    · simp only [List.length_cons, h2]; omega
/-- A map that keeps the order. -/
theorem mrg_map (le : α → α → Bool) (le' : β → β → Bool) (g : α → β) (h : ∀ a b, le' (g a) (g b) = le a b) (xs ys : List α) : (mrg le xs ys).map g = mrg le' (xs.map g) (ys.map g) := by
  refine mrg_ind (P := fun xs ys => (mrg le xs ys).map g = mrg le' (xs.map g) (ys.map g)) ?_ ?_ ?_ xs ys
  · intro ys; rfl
  · intro x xs h1; rw [mrg_cons_nil, List.map_cons, h1]; rfl
  · intro x xs y ys h1 h2
    rw [mrg_cons, List.map_cons, List.map_cons, mrg_cons, h]
    split
    · rw [List.map_cons, h1]; rfl
    · rw [List.map_cons, h2]; rfl
/-- The first n of both together are the first ones of each. -/
theorem mrg_take (le : α → α → Bool) (xs ys : List α) : ∀ n, n ≤ xs.length + ys.length → ∃ a b, a + b = n ∧ a ≤ xs.length ∧ b ≤ ys.length ∧ List.Perm ((mrg le xs ys).take n) (xs.take a ++ ys.take b) := by
  refine mrg_ind (P := fun xs ys => ∀ n, n ≤ xs.length + ys.length → ∃ a b, a + b = n ∧ a ≤ xs.length ∧ b ≤ ys.length ∧ List.Perm ((mrg le xs ys).take n) (xs.take a ++ ys.take b)) ?_ ?_ ?_ xs ys
  · intro ys n hn
    exact ⟨0, n, by omega, by omega, by simpa using hn, by simp [mrg_nil]⟩
  · intro x xs h n hn
    exact ⟨n, 0, by omega, by simpa using hn, by simp, by rw [mrg_right_nil]; simp⟩
  · intro x xs y ys h1 h2 n hn
    cases n with
    | zero => exact ⟨0, 0, rfl, by omega, by omega, by simp⟩
    | succ n =>
      rw [mrg_cons]
      split
      · obtain ⟨a, b, e, ha, hb, hp⟩ := h1 n (by simp only [List.length_cons] at hn ⊢; omega)
        refine ⟨a + 1, b, by omega, by simp; omega, hb, ?_⟩
        simp only [List.take_succ_cons, List.cons_append]
        exact hp.cons x
      · obtain ⟨a, b, e, ha, hb, hp⟩ := h2 n (by simp only [List.length_cons] at hn ⊢; omega)
        refine ⟨a, b + 1, by omega, ha, by simp; omega, ?_⟩
        simp only [List.take_succ_cons]
        exact (hp.cons y).trans List.perm_middle.symm
end

/-- Two by two. -/
def pairT : List Tr → List Tr
  | a :: b :: r => .node a b :: pairT r
  | _ => []
theorem pairT_length : ∀ l : List Tr, (pairT l).length = l.length / 2
  | [] => rfl
  | [a] => by simp [pairT]
  | a :: b :: r => by
    rw [pairT, List.length_cons, pairT_length r]
    simp only [List.length_cons]; omega
theorem pairT_take : ∀ (l : List Tr) (p : Nat), (pairT l).take p = pairT (l.take (2 * p))
  | _, 0 => by simp [pairT]
  | [], p + 1 => by simp [pairT]
  | [a], p + 1 => by
    have : [a].take (2 * (p + 1)) = [a] := List.take_of_length_le (by simp only [List.length_cons, List.length_nil]; omega)
    rw [this]; simp [pairT]
  | a :: b :: r, p + 1 => by
    rw [pairT, List.take_succ_cons, pairT_take r p, show 2 * (p + 1) = 2 * p + 1 + 1 by omega, List.take_succ_cons, List.take_succ_cons, pairT]
/-- A sum over trees. -/
def sumT (g : Tr → Nat) (l : List Tr) : Nat := (l.map g).sum
theorem sumT_append (g : Tr → Nat) (a b : List Tr) : sumT g (a ++ b) = sumT g a + sumT g b := by simp [sumT]
theorem sumT_perm {g : Tr → Nat} {a b : List Tr} (h : List.Perm a b) : sumT g a = sumT g b := (h.map g).sum_nat
theorem sumT_pair (g : Tr → Nat) (hg : ∀ a b, g (.node a b) = g a + g b) : ∀ (l : List Tr), l.length % 2 = 0 → sumT g (pairT l) = sumT g l
  | [], _ => rfl
  | [a], h => by simp at h
  | a :: b :: r, h => by
    have ih := sumT_pair g hg r (by simp only [List.length_cons] at h; omega)
    simp only [sumT, pairT, List.map_cons, List.sum_cons] at ih ⊢
    rw [hg, ih]; omega

def leT (f : Nat → Nat) (a b : Tr) : Bool := decide (wtT f a ≤ wtT f b)
def itemsT (n : Nat) : List Tr := (List.range n).map .leaf
/-- Row t + 1. -/
def rowTr (f : Nat → Nat) (n : Nat) : Nat → List Tr
  | 0 => itemsT n
  | t + 1 => mrg (leT f) (itemsT n) (pairT (rowTr f n t))
theorem itemsT_length (n : Nat) : (itemsT n).length = n := by simp [itemsT]
theorem rowT_succ_length (f : Nat → Nat) (n t : Nat) : (rowTr f n (t + 1)).length = n + (rowTr f n t).length / 2 := by
  rw [rowTr, mrg_length, itemsT_length, pairT_length]
/-- How many pairs are among the first m of a row. -/
def prT (f : Nat → Nat) (n t m : Nat) : Nat := (((rowTr f n t).take m).filter isPair).length
/-- How many items each row gives, from row t + 1 down, of the first m. -/
def selT (f : Nat → Nat) (n : Nat) : Nat → Nat → List Nat
  | 0, m => [m - prT f n 0 m]
  | t + 1, m => (m - prT f n (t + 1) m) :: selT f n t (2 * prT f n (t + 1) m)
/-- An item's length. -/
def lenT (f : Nat → Nat) (n t m k : Nat) : Nat := ((selT f n t m).filter fun a => decide (k < a)).length

theorem filter_items (n : Nat) (a : Nat) : ((itemsT n).take a).filter isPair = [] := by
  rw [List.filter_eq_nil_iff]
  intro x hx
  obtain ⟨k, _, rfl⟩ := List.mem_map.1 (List.mem_of_mem_take hx)
  simp [isPair]
theorem pairT_pairs : ∀ (l : List Tr), ∀ x ∈ pairT l, isPair x = true
  | [], x, h => by simp [pairT] at h
  | [a], x, h => by simp [pairT] at h
  | a :: b :: r, x, h => by
    rw [pairT, List.mem_cons] at h
    rcases h with rfl | h
    · rfl
    · exact pairT_pairs r x h
/-- The first m of a row: so many items, and so many pairs. -/
theorem row_take (f : Nat → Nat) (n t m : Nat) (hm : m ≤ (rowTr f n (t + 1)).length) : ∃ a p, a + p = m ∧ a ≤ n ∧ 2 * p ≤ (rowTr f n t).length ∧ prT f n (t + 1) m = p ∧
    List.Perm ((rowTr f n (t + 1)).take m) ((itemsT n).take a ++ pairT ((rowTr f n t).take (2 * p))) := by
  obtain ⟨a, p, e, ha, hp, hperm⟩ := mrg_take (leT f) (itemsT n) (pairT (rowTr f n t)) m (by rw [← mrg_length (leT f)]; exact hm)
  rw [itemsT_length] at ha
  rw [pairT_length] at hp
  refine ⟨a, p, e, ha, by omega, ?_, by rw [← pairT_take]; exact hperm⟩
  unfold prT
  have h1 := (hperm.filter isPair).length_eq
  have h2 : (rowTr f n (t + 1)).take m = (mrg (leT f) (itemsT n) (pairT (rowTr f n t))).take m := rfl
  rw [h2, h1, List.filter_append, filter_items, List.nil_append, List.filter_eq_self.2 (fun x hx => pairT_pairs _ x (List.mem_of_mem_take hx)), List.length_take, pairT_length]
  omega
theorem row0_pr (f : Nat → Nat) (n m : Nat) : prT f n 0 m = 0 := by
  unfold prT
  have := filter_items n m
  show (((itemsT n).take m).filter isPair).length = 0
  rw [this]; rfl
theorem items_of (n k a : Nat) (ha : a ≤ n) : sumT (ofT k) ((itemsT n).take a) = if k < a then 1 else 0 := by
  induction a with
  | zero => simp [sumT]
  | succ a ih =>
    have e : (itemsT n).take (a + 1) = (itemsT n).take a ++ [.leaf a] := by
      rw [List.take_succ_eq_append_getElem (by rw [itemsT_length]; omega)]
      simp [itemsT]
    rw [e, sumT_append, ih (by omega)]
    have : sumT (ofT k) [Tr.leaf a] = if a = k then 1 else 0 := by simp [sumT, ofT]
    rw [this]
    by_cases h : k < a
    · rw [if_pos h, if_neg (by omega), if_pos (by omega)]
    · rw [if_neg h]
      by_cases h2 : a = k
      · rw [if_pos h2, if_pos (by omega)]
      · rw [if_neg h2, if_neg (by omega)]
/-- How often an item is among the first m of a row is its length. -/
theorem of_len (f : Nat → Nat) (n k : Nat) : ∀ t m, m ≤ (rowTr f n t).length → sumT (ofT k) ((rowTr f n t).take m) = lenT f n t m k
  | 0, m, hm => by
    have hm' : m ≤ n := by have : (rowTr f n 0).length = n := itemsT_length n; omega
    show sumT (ofT k) ((itemsT n).take m) = _
    rw [items_of n k m hm']
    unfold lenT selT
    rw [row0_pr, Nat.sub_zero, List.filter_cons]
    by_cases h : k < m
    · simp [h]
    · simp [h]
  | t + 1, m, hm => by
    obtain ⟨a, p, e, ha, hp, hpr, hperm⟩ := row_take f n t m hm
    rw [sumT_perm hperm, sumT_append, items_of n k a ha, sumT_pair (ofT k) (fun _ _ => rfl) _ (by rw [List.length_take]; omega), of_len f n k t (2 * p) hp]
    unfold lenT
    rw [selT, hpr, List.filter_cons, show m - p = a by omega]
    by_cases h : k < a
    · simp [h]; omega
    · simp [h]
end Go.Proofs.Ytahboomghjdjhaa

/-
  Plain: the lengths that the rows tell are whole, and no others cost less. No program in sight.
-/
namespace Go.Proofs.Ytahboomghjdjhaa

/-! ### Sums -/
def sumN (g : Nat → Nat) : Nat → Nat
  | 0 => 0
  | n + 1 => sumN g n + g n
theorem sumN_congr {g h : Nat → Nat} {n : Nat} (e : ∀ k, k < n → g k = h k) : sumN g n = sumN h n := by
  induction n with
  | zero => rfl
  | succ n ih => rw [sumN, sumN, ih (fun k hk => e k (by omega)), e n (by omega)]
theorem sumN_le {g h : Nat → Nat} {n : Nat} (e : ∀ k, k < n → g k ≤ h k) : sumN g n ≤ sumN h n := by
  induction n with
  | zero => exact Nat.le_refl _
  | succ n ih => rw [sumN, sumN]; have := ih (fun k hk => e k (by omega)); have := e n (by omega); omega
theorem sumN_add (g h : Nat → Nat) (n : Nat) : sumN (fun k => g k + h k) n = sumN g n + sumN h n := by
  induction n with
  | zero => rfl
  | succ n ih => rw [sumN, sumN, sumN, ih]; omega
theorem sumN_mul (g : Nat → Nat) (c n : Nat) : sumN (fun k => g k * c) n = sumN g n * c := by
  induction n with
  | zero => simp [sumN]
  | succ n ih => rw [sumN, sumN, ih, Nat.add_mul]
theorem sumN_zero (n : Nat) : sumN (fun _ => 0) n = 0 := by
  induction n with
  | zero => rfl
  | succ n ih => rw [sumN, ih]
theorem sumN_const (c n : Nat) : sumN (fun _ => c) n = n * c := by
  induction n with
  | zero => simp [sumN]
  | succ n ih => rw [sumN, ih, Nat.succ_mul]
theorem sumN_one {n i : Nat} (g : Nat → Nat) (h : i < n) : g i ≤ sumN g n := by
  induction n with
  | zero => omega
  | succ n ih =>
    rw [sumN]
    by_cases e : i = n
    · subst e; omega
    · have := ih (by omega); omega
theorem sumN_two {n i : Nat} (g : Nat → Nat) (h : i < n) (h1 : ∀ k, k < n → 1 ≤ g k) : g i + (n - 1) ≤ sumN g n := by
  induction n with
  | zero => omega
  | succ n ih =>
    rw [sumN]
    by_cases e : i = n
    · subst e
      have : sumN (fun _ => 1) i ≤ sumN g i := sumN_le fun k hk => h1 k (by omega)
      rw [sumN_const] at this
      omega
    · have := ih (by omega) (fun k hk => h1 k (by omega)); have := h1 n (by omega); omega
theorem sumN_swap (g : Nat → Nat → Nat) (m n : Nat) : sumN (fun i => sumN (g i) n) m = sumN (fun k => sumN (fun i => g i k) m) n := by
  induction m with
  | zero => rw [sumN, show (fun k => sumN (fun i => g i k) 0) = fun _ => 0 from rfl, sumN_zero]
  | succ m ih => rw [sumN, ih, ← sumN_add]; exact sumN_congr fun k _ => rfl
theorem sumN_below (c a n : Nat) (h : a ≤ n) : sumN (fun k => if k < a then c else 0) n = a * c := by
  induction n with
  | zero => obtain rfl : a = 0 := by omega
            simp [sumN]
  | succ n ih =>
    rw [sumN]
    by_cases e : a = n + 1
    · subst e
      rw [if_pos (by omega), sumN_congr (h := fun _ => c) (fun k hk => if_pos (by omega)), sumN_const, Nat.succ_mul]
    · rw [ih (by omega), if_neg (by omega)]; omega

/-! ### Rows rise -/
section
variable {α : Type}
theorem mrg_mem (le : α → α → Bool) (xs ys : List α) (z : α) : z ∈ mrg le xs ys ↔ z ∈ xs ∨ z ∈ ys := by
  refine mrg_ind (P := fun xs ys => z ∈ mrg le xs ys ↔ z ∈ xs ∨ z ∈ ys) ?_ ?_ ?_ xs ys
  · intro ys; simp [mrg_nil]
  · intro x xs _; rw [mrg_right_nil]; simp
  · intro x xs y ys h1 h2
    rw [mrg_cons]
    split
    · rw [List.mem_cons, h1]; simp [or_assoc]
    · rw [List.mem_cons, h2]; simp only [List.mem_cons]; constructor
      · rintro (h | h | h) <;> simp [h]
      · rintro ((h | h) | h | h) <;> simp [h]
theorem mrg_rises (wt : α → Nat) (le : α → α → Bool) (hle : ∀ a b, le a b = decide (wt a ≤ wt b)) (xs ys : List α) : xs.Pairwise (fun a b => wt a ≤ wt b) → ys.Pairwise (fun a b => wt a ≤ wt b) → (mrg le xs ys).Pairwise (fun a b => wt a ≤ wt b) := by
  refine mrg_ind (P := fun xs ys => xs.Pairwise (fun a b => wt a ≤ wt b) → ys.Pairwise (fun a b => wt a ≤ wt b) → (mrg le xs ys).Pairwise (fun a b => wt a ≤ wt b)) ?_ ?_ ?_ xs ys
  · intro ys _ h; exact h
  · intro x xs _ h _; rw [mrg_right_nil]; exact h
  · intro x xs y ys h1 h2 hx hy
    have hx' := List.pairwise_cons.1 hx
    have hy' := List.pairwise_cons.1 hy
    rw [mrg_cons, hle]
    by_cases h : wt x ≤ wt y
    · rw [decide_eq_true h, if_pos rfl, List.pairwise_cons]
      refine ⟨fun z hz => ?_, h1 hx'.2 hy⟩
      rcases (mrg_mem le _ _ z).1 hz with hz | hz
      · exact hx'.1 z hz
      · rw [List.mem_cons] at hz
        rcases hz with rfl | hz
        · exact h
        · exact Nat.le_trans h (hy'.1 z hz)
    · rw [decide_eq_false h, if_neg Bool.false_ne_true, List.pairwise_cons]
      refine ⟨fun z hz => ?_, h2 hx hy'.2⟩
      rcases (mrg_mem le _ _ z).1 hz with hz | hz
      · rw [List.mem_cons] at hz
        rcases hz with rfl | hz
        · omega
        · have := hx'.1 z hz; omega
      · exact hy'.1 z hz
/-- If the first m hold all of the first b of the others, what stands next of the first list is heavier than the last of these. -/
theorem mrg_last (le : α → α → Bool) (xs ys : List α) : ∀ n, n ≤ xs.length + ys.length → ∃ a b, a + b = n ∧ a ≤ xs.length ∧ b ≤ ys.length ∧ List.Perm ((mrg le xs ys).take n) (xs.take a ++ ys.take b) ∧
    (0 < b → a < xs.length → ∃ (a' : Nat) (x y : α), a' ≤ a ∧ xs[a']? = some x ∧ ys[b - 1]? = some y ∧ le x y = false) := by
  refine mrg_ind (P := fun xs ys => ∀ n, n ≤ xs.length + ys.length → ∃ a b, a + b = n ∧ a ≤ xs.length ∧ b ≤ ys.length ∧ List.Perm ((mrg le xs ys).take n) (xs.take a ++ ys.take b) ∧
    (0 < b → a < xs.length → ∃ (a' : Nat) (x y : α), a' ≤ a ∧ xs[a']? = some x ∧ ys[b - 1]? = some y ∧ le x y = false)) ?_ ?_ ?_ xs ys
  · intro ys n hn
    exact ⟨0, n, by omega, by omega, by simpa using hn, by simp [mrg_nil], fun _ h => by simp at h⟩
  · intro x xs h n hn
    exact ⟨n, 0, by omega, by simpa using hn, by simp, by rw [mrg_right_nil]; simp, fun h => by omega⟩
  · intro x xs y ys h1 h2 n hn
    cases n with
    | zero => exact ⟨0, 0, rfl, by omega, by omega, by simp, fun h => by omega⟩
    | succ n =>
      rw [mrg_cons]
      split
      · obtain ⟨a, b, e, ha, hb, hp, hl⟩ := h1 n (by simp only [List.length_cons] at hn ⊢; omega)
        refine ⟨a + 1, b, by omega, by simp; omega, hb, ?_, fun hb0 hax => ?_⟩
        · simp only [List.take_succ_cons, List.cons_append]
          exact hp.cons x
        · obtain ⟨a', x', y', g1, g2, g3, g4⟩ := hl hb0 (by simpa using hax)
          exact ⟨a' + 1, x', y', by omega, by simpa using g2, g3, g4⟩
      · rename_i hle
        obtain ⟨a, b, e, ha, hb, hp, hl⟩ := h2 n (by simp only [List.length_cons] at hn ⊢; omega)
        refine ⟨a, b + 1, by omega, ha, by simp; omega, ?_, fun _ hax => ?_⟩
        · simp only [List.take_succ_cons]
          exact (hp.cons y).trans List.perm_middle.symm
        · by_cases hb0 : 0 < b
          · obtain ⟨a', x', y', g1, g2, g3, g4⟩ := hl hb0 hax
            refine ⟨a', x', y', g1, g2, ?_, g4⟩
            rw [show b + 1 - 1 = (b - 1) + 1 by omega, List.getElem?_cons_succ]; exact g3
          · obtain rfl : b = 0 := by omega
            exact ⟨0, x, y, by omega, rfl, rfl, by simpa using hle⟩
/-- The first m of both together weigh no more than any a and b of them that stand first. -/
theorem mrg_least (wt : α → Nat) (le : α → α → Bool) (hle : ∀ a b, le a b = decide (wt a ≤ wt b)) (xs ys : List α) : xs.Pairwise (fun a b => wt a ≤ wt b) → ys.Pairwise (fun a b => wt a ≤ wt b) →
    ∀ a b, a ≤ xs.length → b ≤ ys.length → (((mrg le xs ys).take (a + b)).map wt).sum ≤ ((xs.take a).map wt).sum + ((ys.take b).map wt).sum := by
  refine mrg_ind (P := fun xs ys => xs.Pairwise (fun a b => wt a ≤ wt b) → ys.Pairwise (fun a b => wt a ≤ wt b) →
    ∀ a b, a ≤ xs.length → b ≤ ys.length → (((mrg le xs ys).take (a + b)).map wt).sum ≤ ((xs.take a).map wt).sum + ((ys.take b).map wt).sum) ?_ ?_ ?_ xs ys
  · intro ys _ _ a b ha hb
    obtain rfl : a = 0 := by simpa using ha
    simp [mrg_nil]
  · intro x xs _ _ _ a b ha hb
    obtain rfl : b = 0 := by simpa using hb
    rw [mrg_right_nil]; simp
  · intro x xs y ys h1 h2 hx hy a b ha hb
    have hx' := List.pairwise_cons.1 hx
    have hy' := List.pairwise_cons.1 hy
    have next : ∀ (z : α) (zs : List α) (m : Nat), (∀ u ∈ zs, wt z ≤ wt u) → m < (z :: zs).length → ((((z :: zs).take m).map wt).sum + wt z ≤ (((z :: zs).take (m + 1)).map wt).sum) := by
      intro z zs m hz hm
      rw [List.take_succ_eq_append_getElem hm, List.map_append, List.sum_append]
      have : wt z ≤ wt ((z :: zs)[m]) := by
        cases m with
        | zero => exact Nat.le_refl _
        | succ m => exact hz _ (List.getElem_mem _)
      simp; omega
    by_cases hab : a + b = 0
    · obtain rfl : a = 0 := by omega
      obtain rfl : b = 0 := by omega
      simp
    · rw [mrg_cons, hle]
      by_cases h : wt x ≤ wt y
      · rw [decide_eq_true h, if_pos rfl]
        cases a with
        | succ a =>
          have := h1 hx'.2 hy a b (by simpa using ha) hb
          rw [show a + 1 + b = (a + b) + 1 by omega, List.take_succ_cons, List.take_succ_cons]
          simp only [List.map_cons, List.sum_cons]
          omega
        | zero =>
          obtain ⟨b, rfl⟩ : ∃ b', b = b' + 1 := ⟨b - 1, by omega⟩
          have i1 := h1 hx'.2 hy 0 b (by omega) (by omega)
          have i2 := next y ys b hy'.1 (by omega)
          rw [show 0 + (b + 1) = b + 1 by omega, List.take_succ_cons]
          simp only [List.map_cons, List.sum_cons, List.take_zero, List.map_nil, List.sum_nil, Nat.zero_add] at i1 ⊢
          omega
      · rw [decide_eq_false h, if_neg Bool.false_ne_true]
        cases b with
        | succ b =>
          have := h2 hx hy'.2 a b ha (by simpa using hb)
          rw [show a + (b + 1) = (a + b) + 1 by omega, List.take_succ_cons, List.take_succ_cons (as := ys)]
          simp only [List.map_cons, List.sum_cons]
          omega
        | zero =>
          obtain ⟨a, rfl⟩ : ∃ a', a = a' + 1 := ⟨a - 1, by omega⟩
          have i1 := h2 hx hy'.2 a 0 (by omega) (by omega)
          have i2 := next x xs a hx'.1 (by omega)
          rw [show a + 1 + 0 = a + 1 by omega, List.take_succ_cons (i := a) (a := y)]
          simp only [List.map_cons, List.sum_cons, List.take_zero, List.map_nil, List.sum_nil, Nat.add_zero] at i1 ⊢
          omega
end
theorem pairT_rises (f : Nat → Nat) : ∀ (l : List Tr), l.Pairwise (fun a b => wtT f a ≤ wtT f b) → (pairT l).Pairwise (fun a b => wtT f a ≤ wtT f b)
  | [], _ => List.Pairwise.nil
  | [a], _ => List.Pairwise.nil
  | a :: b :: r, h => by
    have h1 := List.pairwise_cons.1 h
    have h2 := List.pairwise_cons.1 h1.2
    rw [pairT, List.pairwise_cons]
    refine ⟨?_, pairT_rises f r h2.2⟩
    have key : ∀ (r : List Tr), (∀ x ∈ r, wtT f a ≤ wtT f x ∧ wtT f b ≤ wtT f x) → ∀ z ∈ pairT r, wtT f (.node a b) ≤ wtT f z := by
      intro r
      induction r using pairT.induct with
      | case1 c d r ih =>
        intro hr z hz
        rw [pairT, List.mem_cons] at hz
        rcases hz with rfl | hz
        · have e1 := hr c (by simp)
          have e2 := hr d (by simp)
          simp only [wtT]; omega
        · exact ih (fun x hx => hr x (by simp [hx])) z hz
      | case2 r hne =>
        intro _ z hz
        cases r with
        | nil => simp [pairT] at hz
        | cons c r => cases r with
          | nil => simp [pairT] at hz
          | cons d r => exact absurd rfl (hne c d r)
    exact key r (fun x hx => ⟨h1.1 x (by simp [hx]), h2.1 x hx⟩)

section
variable {f : Nat → Nat} {n : Nat} (hs : ∀ i j, i ≤ j → j < n → f i ≤ f j)
include hs in
theorem items_rise : (itemsT n).Pairwise (fun a b => wtT f a ≤ wtT f b) := by
  unfold itemsT
  rw [List.pairwise_map]
  refine List.Pairwise.imp_of_mem ?_ (List.pairwise_lt_range (n := n))
  intro i j hi hj hij
  exact hs i j (by omega) (List.mem_range.1 hj)
include hs in
theorem row_rises : ∀ t, (rowTr f n t).Pairwise (fun a b => wtT f a ≤ wtT f b)
  | 0 => items_rise hs
  | t + 1 => mrg_rises (wtT f) (leT f) (fun _ _ => rfl) _ _ (items_rise hs) (pairT_rises f _ (row_rises t))
/-- Leaves are items. -/
def inT (n : Nat) : Tr → Prop
  | .leaf k => k < n
  | .node a b => inT n a ∧ inT n b
theorem pairT_in : ∀ (l : List Tr), (∀ x ∈ l, inT n x) → ∀ x ∈ pairT l, inT n x
  | [], _, x, hx => by simp [pairT] at hx
  | [a], _, x, hx => by simp [pairT] at hx
  | a :: b :: r, h, x, hx => by
    rw [pairT, List.mem_cons] at hx
    rcases hx with rfl | hx
    · exact ⟨h a (by simp), h b (by simp)⟩
    · exact pairT_in r (fun y hy => h y (by simp [hy])) x hx
theorem row_in : ∀ t, ∀ x ∈ rowTr f n t, inT n x
  | 0, x, hx => by
    obtain ⟨k, hk, rfl⟩ := List.mem_map.1 hx
    exact List.mem_range.1 hk
  | t + 1, x, hx => by
    rcases (mrg_mem _ _ _ x).1 hx with hx | hx
    · obtain ⟨k, hk, rfl⟩ := List.mem_map.1 hx
      exact List.mem_range.1 hk
    · exact pairT_in _ (row_in t) x hx
theorem wt_pos (hp : ∀ i, i < n → 0 < f i) : ∀ x, inT n x → 0 < wtT f x
  | .leaf k, h => hp k h
  | .node a b, h => by have := wt_pos hp a h.1; simp only [wtT]; omega
theorem wt_of : ∀ x, inT n x → wtT f x = sumN (fun k => ofT k x * f k) n
  | .leaf j, h => by
    have : ∀ m, sumN (fun k => ofT k (.leaf j) * f k) m = if j < m then f j else 0 := by
      intro m
      induction m with
      | zero => rfl
      | succ m ih =>
        rw [sumN, ih]
        simp only [ofT]
        by_cases h1 : j = m
        · subst h1; simp
        · rw [if_neg h1]
          by_cases h2 : j < m
          · rw [if_pos h2, if_pos (by omega)]; omega
          · rw [if_neg h2, if_neg (by omega)]; omega
    rw [this n, if_pos (show j < n from h)]; rfl
  | .node a b, h => by
    rw [wtT, wt_of a h.1, wt_of b h.2, ← sumN_add]
    exact sumN_congr fun k _ => by simp only [ofT, Nat.add_mul]
theorem sumT_wt : ∀ (l : List Tr), (∀ x ∈ l, inT n x) → sumT (wtT f) l = sumN (fun k => sumT (ofT k) l * f k) n
  | [], _ => by simp [sumT, sumN_zero]
  | x :: l, h => by
    have ih := sumT_wt l (fun y hy => h y (by simp [hy]))
    have e : ∀ g, sumT g (x :: l) = g x + sumT g l := fun g => by simp [sumT]
    rw [e, ih, wt_of x (h x (by simp)), ← sumN_add]
    exact sumN_congr fun k _ => by rw [e, Nat.add_mul]
end
end Go.Proofs.Ytahboomghjdjhaa

/-
  Plain: the lengths of items: they fall, they are whole, and no others cost less. No program in sight.
-/
namespace Go.Proofs.Ytahboomghjdjhaa

theorem pairT_get : ∀ (l : List Tr) (q : Nat) (a b : Tr), l[2 * q]? = some a → l[2 * q + 1]? = some b → (pairT l)[q]? = some (.node a b)
  | [], q, a, b, h, _ => by simp at h
  | [x], q, a, b, _, h => by rw [List.getElem?_eq_none (by simp)] at h; cases h
  | x :: y :: r, 0, a, b, h1, h2 => by
    simp only [Nat.mul_zero, List.getElem?_cons_zero, Option.some.injEq] at h1
    simp only [Nat.mul_zero, Nat.zero_add, List.getElem?_cons_succ, List.getElem?_cons_zero, Option.some.injEq] at h2
    subst h1 h2; rfl
  | x :: y :: r, q + 1, a, b, h1, h2 => by
    rw [pairT, List.getElem?_cons_succ]
    refine pairT_get r q a b ?_ ?_
    · rw [show 2 * (q + 1) = 2 * q + 1 + 1 by omega, List.getElem?_cons_succ, List.getElem?_cons_succ] at h1; exact h1
    · rw [show 2 * (q + 1) + 1 = 2 * q + 1 + 1 + 1 by omega, List.getElem?_cons_succ, List.getElem?_cons_succ] at h2; exact h2
theorem items_get (n k : Nat) (h : k < n) : (itemsT n)[k]? = some (.leaf k) := by simp [itemsT, h]
theorem items_mem (n k a : Nat) (h : k < a) (ha : a ≤ n) : Tr.leaf k ∈ (itemsT n).take a :=
  List.mem_of_getElem? (i := k) (by rw [List.getElem?_take, if_pos h, items_get n k (by omega)])

section
variable {f : Nat → Nat} {n : Nat}
/-- The first m of a row hold just so many first items. -/
theorem row_items (t m : Nat) (hm : m ≤ (rowTr f n t).length) : prT f n t m ≤ m ∧ m - prT f n t m ≤ n ∧ ∀ k, k < m - prT f n t m → Tr.leaf k ∈ (rowTr f n t).take m := by
  cases t with
  | zero =>
    have hm' : m ≤ n := by have : (rowTr f n 0).length = n := itemsT_length n; omega
    rw [row0_pr]
    exact ⟨by omega, by omega, fun k hk => items_mem n k m (by omega) hm'⟩
  | succ t =>
    obtain ⟨a, p, e, ha, hp, hpr, hperm⟩ := row_take f n t m hm
    rw [hpr]
    exact ⟨by omega, by omega, fun k hk => hperm.symm.subset (List.mem_append_left _ (items_mem n k a (by omega) ha))⟩

variable (hs : ∀ i j, i ≤ j → j < n → f i ≤ f j) (hp : ∀ i, i < n → 0 < f i)
include hs hp in
/-- A row behind gives as many items at least. -/
theorem sel_falls (t m : Nat) (hm : m ≤ (rowTr f n (t + 1)).length) : 2 * prT f n (t + 1) m - prT f n t (2 * prT f n (t + 1) m) ≤ m - prT f n (t + 1) m := by
  obtain ⟨a, p, e, ha, hb, hperm, hlast⟩ := mrg_last (leT f) (itemsT n) (pairT (rowTr f n t)) m (by rw [← mrg_length (leT f)]; exact hm)
  obtain ⟨a2, p2, e2, ha2, hb2, hpr, hperm2⟩ := row_take f n t m hm
  rw [itemsT_length] at ha hlast
  rw [pairT_length] at hb
  have hpp : prT f n (t + 1) m = p := by
    unfold prT
    have h1 := (hperm.filter isPair).length_eq
    have h2 : (rowTr f n (t + 1)).take m = (mrg (leT f) (itemsT n) (pairT (rowTr f n t))).take m := rfl
    rw [h2, h1, List.filter_append, filter_items, List.nil_append, List.filter_eq_self.2 (fun x hx => pairT_pairs _ x (List.mem_of_mem_take hx)), List.length_take, pairT_length]
    omega
  rw [hpp]
  have hlen : 2 * p ≤ (rowTr f n t).length := by omega
  obtain ⟨r1, r2, r3⟩ := row_items (f := f) (n := n) t (2 * p) hlen
  rcases Nat.lt_or_ge (m - p) (2 * p - prT f n t (2 * p)) with hlt | hge
  · exfalso
    have hap : a < 2 * p - prT f n t (2 * p) := by omega
    have hp0 : 0 < p := by omega
    obtain ⟨a', x, y, g1, g2, g3, g4⟩ := hlast hp0 (by omega)
    have hmem := r3 a hap
    obtain ⟨j, hj⟩ := List.getElem?_of_mem hmem
    have hjlt : j < 2 * p := by
      rcases Nat.lt_or_ge j (2 * p) with h | h
      · exact h
      · rw [List.getElem?_take, if_neg (by omega)] at hj; cases hj
    rw [List.getElem?_take, if_pos hjlt] at hj
    have hx1 : 2 * (p - 1) < (rowTr f n t).length := by omega
    have hx2 : 2 * (p - 1) + 1 < (rowTr f n t).length := by omega
    have hy := pairT_get (rowTr f n t) (p - 1) _ _ (List.getElem?_eq_getElem hx1) (List.getElem?_eq_getElem hx2)
    rw [g3] at hy
    have hy' := Option.some.inj hy
    have hj' : j < (rowTr f n t).length := by omega
    rw [List.getElem?_eq_getElem hj'] at hj
    have hj2 := Option.some.inj hj
    have hrise := row_rises (f := f) (n := n) hs t
    have h1 : wtT f ((rowTr f n t)[j]) ≤ wtT f ((rowTr f n t)[2 * (p - 1) + 1]) := by
      by_cases e3 : j = 2 * (p - 1) + 1
      · subst e3; exact Nat.le_refl _
      · exact List.pairwise_iff_getElem.1 hrise j (2 * (p - 1) + 1) hj' hx2 (by omega)
    have h2 := wt_pos (f := f) (n := n) hp _ (row_in (f := f) t _ (List.getElem_mem hx1))
    rw [items_get n a' (by omega)] at g2
    have g2' := Option.some.inj g2
    subst g2'
    rw [hy'] at g4
    have g5 : ¬ (f a' ≤ wtT f ((rowTr f n t)[2 * (p - 1)]) + wtT f ((rowTr f n t)[2 * (p - 1) + 1])) := of_decide_eq_false g4
    rw [hj2] at h1
    have h3 : f a' ≤ f a := hs a' a g1 (by omega)
    simp only [wtT] at h1
    omega
  · exact hge

theorem sel_length : ∀ t m, (selT f n t m).length = t + 1
  | 0, _ => rfl
  | t + 1, m => by rw [selT, List.length_cons, sel_length t]
theorem sel_head : ∀ t m, (selT f n t m).head? = some (m - prT f n t m)
  | 0, m => by simp [selT]
  | t + 1, m => by simp [selT]
theorem sel_ok (t m : Nat) (hm : m ≤ (rowTr f n (t + 1)).length) : 2 * prT f n (t + 1) m ≤ (rowTr f n t).length := by
  obtain ⟨a, p, e, ha, hb, hpr, hperm⟩ := row_take f n t m hm
  rw [hpr]; exact hb
include hs hp in
theorem sel_desc : ∀ t m, m ≤ (rowTr f n t).length → (selT f n t m).Pairwise (fun a b => b ≤ a) ∧ ∀ x ∈ selT f n t m, x ≤ n
  | 0, m, hm => by
    have hm' : m ≤ n := by have : (rowTr f n 0).length = n := itemsT_length n; omega
    simp [selT]; omega
  | t + 1, m, hm => by
    have ih := sel_desc t (2 * prT f n (t + 1) m) (sel_ok t m hm)
    have hf := sel_falls hs hp t m hm
    have hr := row_items (f := f) (n := n) (t + 1) m hm
    rw [selT]
    refine ⟨List.pairwise_cons.2 ⟨?_, ih.1⟩, ?_⟩
    · intro x hx
      have hh := sel_head (f := f) (n := n) t (2 * prT f n (t + 1) m)
      cases hl : selT f n t (2 * prT f n (t + 1) m) with
      | nil => rw [hl] at hx; simp at hx
      | cons y r =>
        rw [hl] at hh hx ih
        simp only [List.head?_cons, Option.some.injEq] at hh
        rw [List.mem_cons] at hx
        rcases hx with rfl | hx
        · omega
        · have := (List.pairwise_cons.1 ih.1).1 x hx; omega
    · intro x hx
      rw [List.mem_cons] at hx
      rcases hx with rfl | hx
      · exact hr.2.1
      · exact ih.2 x hx
/-- What rows give, weighed. -/
def wd : List Nat → Nat
  | [] => 0
  | a :: r => a * 2 ^ r.length + wd r
theorem wd_sel : ∀ t m, m ≤ (rowTr f n t).length → wd (selT f n t m) = m * 2 ^ t
  | 0, m, _ => by simp [selT, wd, row0_pr]
  | t + 1, m, hm => by
    have ih := wd_sel t (2 * prT f n (t + 1) m) (sel_ok t m hm)
    have hr := row_items (f := f) (n := n) (t + 1) m hm
    rw [selT, wd, ih, sel_length]
    generalize prT f n (t + 1) m = p at *
    have e : 2 * p * 2 ^ t = p * 2 ^ (t + 1) := by rw [Nat.pow_succ, Nat.mul_comm 2 p, Nat.mul_assoc, Nat.mul_comm 2]
    rw [e, ← Nat.add_mul]
    congr 1
    omega
def itw (k : Nat) : List Nat → Nat
  | [] => 0
  | a :: r => (if k < a then 2 ^ r.length else 0) + itw k r
theorem itw_sum : ∀ (l : List Nat), (∀ x ∈ l, x ≤ n) → sumN (fun k => itw k l) n = wd l
  | [], _ => by simp [itw, wd, sumN_zero]
  | a :: r, h => by
    have : (fun k => itw k (a :: r)) = fun k => (if k < a then 2 ^ r.length else 0) + itw k r := rfl
    rw [this, sumN_add, sumN_below _ _ _ (h a (by simp)), itw_sum r (fun x hx => h x (by simp [hx])), wd]
theorem itw_len (k : Nat) : ∀ (l : List Nat), l.Pairwise (fun a b => b ≤ a) → itw k l + 2 ^ (l.length - (l.filter fun a => decide (k < a)).length) = 2 ^ l.length
  | [], _ => by simp [itw]
  | a :: r, h => by
    have h1 := List.pairwise_cons.1 h
    have ih := itw_len k r h1.2
    rw [itw, List.filter_cons, List.length_cons]
    by_cases hk : k < a
    · rw [if_pos hk, if_pos (by simpa using hk), List.length_cons, Nat.add_sub_add_right, Nat.pow_succ]
      omega
    · have : (r.filter fun a => decide (k < a)) = [] := by
        rw [List.filter_eq_nil_iff]
        intro x hx
        have := h1.1 x hx
        simp; omega
      rw [if_neg hk, if_neg (by simpa using hk), this]
      rw [this] at ih
      simp only [List.length_nil, Nat.sub_zero] at ih ⊢
      omega
include hs hp in
/-- The lengths are whole. -/
theorem len_whole (t m : Nat) (hm : m ≤ (rowTr f n t).length) : sumN (fun k => 2 ^ (t + 1 - lenT f n t m k)) n + m * 2 ^ t = n * 2 ^ (t + 1) := by
  have hd := sel_desc hs hp t m hm
  have h1 := itw_sum (n := n) (selT f n t m) hd.2
  rw [wd_sel t m hm] at h1
  rw [← h1, ← sumN_add, ← sumN_const]
  refine sumN_congr fun k _ => ?_
  have := itw_len k (selT f n t m) hd.1
  rw [sel_length] at this
  unfold lenT
  omega
theorem len_le (t m k : Nat) : lenT f n t m k ≤ t + 1 := by
  unfold lenT
  have := List.length_filter_le (fun a => decide (k < a)) (selT f n t m)
  rw [sel_length] at this
  exact this
/-- Later items are not longer. -/
theorem len_falls (t m : Nat) {i k : Nat} (h : i ≤ k) : lenT f n t m k ≤ lenT f n t m i := by
  unfold lenT
  generalize selT f n t m = l
  induction l with
  | nil => exact Nat.le_refl _
  | cons a r ih =>
    rw [List.filter_cons, List.filter_cons]
    by_cases h1 : k < a
    · have h2 : i < a := by omega
      simp [h1, h2]; exact ih
    · by_cases h2 : i < a
      · simp [h1, h2]; omega
      · simp [h1, h2]; exact ih
/-- There is room. -/
theorem row_room : ∀ t d, n ≤ d * 2 ^ t → 2 * n ≤ (rowTr f n t).length + d
  | 0, d, h => by
    have : (rowTr f n 0).length = n := itemsT_length n
    simp at h; omega
  | t + 1, d, h => by
    have ih := row_room t (2 * d) (by rw [Nat.pow_succ] at h; rw [Nat.mul_comm 2 d, Nat.mul_assoc, Nat.mul_comm 2]; exact h)
    rw [rowT_succ_length]; omega
theorem row_enough (t : Nat) (h : n ≤ 2 ^ (t + 1)) : 2 * n - 2 ≤ (rowTr f n t).length := by
  have := row_room (f := f) (n := n) t 2 (by rw [Nat.mul_comm, ← Nat.pow_succ]; exact h)
  omega
include hs hp in
/-- Each item has a length. -/
theorem len_pos (t k : Nat) (h2 : 2 ≤ n) (h : n ≤ 2 ^ (t + 1)) (hk : k < n) : 1 ≤ lenT f n t (2 * n - 2) k := by
  have hw := len_whole hs hp t (2 * n - 2) (row_enough t h)
  rcases Nat.eq_zero_or_pos (lenT f n t (2 * n - 2) k) with h0 | h0
  · exfalso
    have h3 := sumN_two (n := n) (i := k) (fun k => 2 ^ (t + 1 - lenT f n t (2 * n - 2) k)) hk (fun j _ => Nat.one_le_two_pow)
    simp only [h0, Nat.sub_zero] at h3
    have e : (2 * n - 2) * 2 ^ t = (n - 1) * 2 ^ (t + 1) := by
      rw [Nat.pow_succ, Nat.mul_comm (2 ^ t) 2, ← Nat.mul_assoc]
      congr 1
      omega
    rw [e] at hw
    have e2 : n * 2 ^ (t + 1) = (n - 1) * 2 ^ (t + 1) + 2 ^ (t + 1) := by
      have : n = (n - 1) + 1 := by omega
      rw [this, Nat.add_mul, Nat.one_mul]
      simp
    omega
  · exact h0
include hs hp in
theorem len_kraft (t : Nat) (h1 : 1 ≤ n) (h : n ≤ 2 ^ (t + 1)) : sumN (fun k => 2 ^ (t + 1 - lenT f n t (2 * n - 2) k)) n = 2 ^ (t + 1) := by
  have hw := len_whole hs hp t (2 * n - 2) (row_enough t h)
  have e : (2 * n - 2) * 2 ^ t = (n - 1) * 2 ^ (t + 1) := by
    rw [Nat.pow_succ, Nat.mul_comm (2 ^ t) 2, ← Nat.mul_assoc]
    congr 1
    omega
  rw [e] at hw
  have e2 : n * 2 ^ (t + 1) = (n - 1) * 2 ^ (t + 1) + 2 ^ (t + 1) := by
    have : n = (n - 1) + 1 := by omega
    rw [this, Nat.add_mul, Nat.one_mul]
    simp
  omega
/-- What the lengths cost. -/
theorem len_cost (t m : Nat) (hm : m ≤ (rowTr f n t).length) : sumT (wtT f) ((rowTr f n t).take m) = sumN (fun k => lenT f n t m k * f k) n := by
  rw [sumT_wt (n := n) _ (fun x hx => row_in (f := f) t x (List.mem_of_mem_take hx))]
  exact sumN_congr fun k _ => by rw [of_len f n k t m hm]

/-! ### No others cost less -/
def cn (s : Nat → Bool) (n : Nat) : Nat := sumN (fun k => if s k then 1 else 0) n
def wsum (f : Nat → Nat) (s : Nat → Bool) (n : Nat) : Nat := sumN (fun k => if s k then f k else 0) n
theorem cn_le (s : Nat → Bool) (n : Nat) : cn s n ≤ n := by
  have : cn s n ≤ sumN (fun _ => 1) n := sumN_le fun k _ => by split <;> omega
  rw [sumN_const] at this; omega
theorem least_items (s : Nat → Bool) : ∀ m, (∀ i j, i ≤ j → j < m → f i ≤ f j) → sumN f (cn s m) ≤ wsum f s m
  | 0, _ => by simp [cn, sumN, wsum]
  | m + 1, h => by
    have ih := least_items s m (fun i j hi hj => h i j hi (by omega))
    have e1 : cn s (m + 1) = cn s m + if s m then 1 else 0 := rfl
    have e2 : wsum f s (m + 1) = wsum f s m + if s m then f m else 0 := rfl
    rw [e1, e2]
    cases s m with
    | false => simpa using ih
    | true =>
      have := h (cn s m) m (cn_le s m) (by omega)
      simp only [if_true]
      rw [sumN]; omega
theorem items_sum (a : Nat) (ha : a ≤ n) : (((itemsT n).take a).map (wtT f)).sum = sumN f a := by
  induction a with
  | zero => rfl
  | succ a ih =>
    have e : (itemsT n).take (a + 1) = (itemsT n).take a ++ [.leaf a] := by
      rw [List.take_succ_eq_append_getElem (by rw [itemsT_length]; omega)]
      simp [itemsT]
    rw [e, List.map_append, List.sum_append, ih (by omega), sumN]; simp [wtT]
include hs in
theorem row_least (S : Nat → Nat → Bool) : ∀ t m, m * 2 ^ t ≤ sumN (fun u => cn (S u) n * 2 ^ u) (t + 1) → m ≤ (rowTr f n t).length ∧ sumT (wtT f) ((rowTr f n t).take m) ≤ sumN (fun u => wsum f (S u) n) (t + 1)
  | 0, m, h => by
    have h1 : m ≤ cn (S 0) n := by simpa [sumN] using h
    have h2 := cn_le (S 0) n
    have h3 := least_items (f := f) (S 0) n hs
    refine ⟨by have : (rowTr f n 0).length = n := itemsT_length n; omega, ?_⟩
    show (((itemsT n).take m).map (wtT f)).sum ≤ _
    rw [items_sum m (by omega)]
    have h4 : sumN f m ≤ sumN f (cn (S 0) n) := by
      have : ∀ d, sumN f m ≤ sumN f (m + d) := by
        intro d
        induction d with
        | zero => exact Nat.le_refl _
        | succ d ih => rw [show m + (d + 1) = (m + d) + 1 by omega, sumN]; omega
      have := this (cn (S 0) n - m)
      rwa [show m + (cn (S 0) n - m) = cn (S 0) n by omega] at this
    have h5 : sumN (fun u => wsum f (S u) n) (0 + 1) = wsum f (S 0) n := by simp [sumN]
    rw [h5]; omega
  | t + 1, m, h => by
    rw [sumN] at h
    have h2 := cn_le (S (t + 1)) n
    have h3 := least_items (f := f) (S (t + 1)) n hs
    have e5 : sumN (fun u => wsum f (S u) n) (t + 1 + 1) = sumN (fun u => wsum f (S u) n) (t + 1) + wsum f (S (t + 1)) n := rfl
    have mono : ∀ a b, a ≤ b → sumN f a ≤ sumN f b := by
      intro a b hab
      induction hab with
      | refl => exact Nat.le_refl _
      | step _ ih => rw [sumN]; omega
    have hits := items_rise (f := f) (n := n) hs
    have hprs := pairT_rises f _ (row_rises (f := f) (n := n) hs t)
    rw [e5]
    by_cases hma : m ≤ cn (S (t + 1)) n
    · refine ⟨by rw [rowT_succ_length]; omega, ?_⟩
      have := mrg_least (wtT f) (leT f) (fun _ _ => rfl) (itemsT n) (pairT (rowTr f n t)) hits hprs m 0 (by rw [itemsT_length]; omega) (by omega)
      rw [items_sum m (by omega)] at this
      have h4 := mono m _ hma
      simp only [Nat.add_zero, List.take_zero, List.map_nil, List.sum_nil] at this
      show (((mrg (leT f) (itemsT n) (pairT (rowTr f n t))).take m).map (wtT f)).sum ≤ _
      omega
    · generalize cn (S (t + 1)) n = a at *
      have h6 : 2 * (m - a) * 2 ^ t ≤ sumN (fun u => cn (S u) n * 2 ^ u) (t + 1) := by
        have e : 2 * (m - a) * 2 ^ t = (m - a) * 2 ^ (t + 1) := by rw [Nat.pow_succ, Nat.mul_comm 2, Nat.mul_assoc, Nat.mul_comm 2]
        rw [e, Nat.sub_mul]; omega
      obtain ⟨i1, i2⟩ := row_least S t (2 * (m - a)) h6
      refine ⟨by rw [rowT_succ_length]; omega, ?_⟩
      have := mrg_least (wtT f) (leT f) (fun _ _ => rfl) (itemsT n) (pairT (rowTr f n t)) hits hprs a (m - a) (by rw [itemsT_length]; omega) (by rw [pairT_length]; omega)
      rw [items_sum a h2, show a + (m - a) = m by omega, pairT_take] at this
      have e7 := sumT_pair (wtT f) (fun _ _ => rfl) ((rowTr f n t).take (2 * (m - a))) (by rw [List.length_take]; omega)
      unfold sumT at e7 i2 ⊢
      rw [e7] at this
      show (((mrg (leT f) (itemsT n) (pairT (rowTr f n t))).take m).map (wtT f)).sum ≤ _
      omega
theorem pow_sum (T a : Nat) : ∀ b, a ≤ b → sumN (fun u => if a ≤ u then 2 ^ u else 0) b + 2 ^ a = 2 ^ b
  | 0, h => by obtain rfl : a = 0 := by omega
               simp [sumN]
  | b + 1, h => by
    rw [sumN]
    by_cases e : a = b + 1
    · subst e
      rw [if_neg (by omega), sumN_congr (h := fun _ => 0) (fun k hk => if_neg (by omega)), sumN_zero]; omega
    · have := pow_sum T a b (by omega)
      rw [if_pos (by omega), Nat.pow_succ]; omega
theorem one_sum (a c : Nat) : ∀ b, sumN (fun u => if a ≤ u then c else 0) b = (b - a) * c
  | 0 => by simp [sumN]
  | b + 1 => by
    rw [sumN, one_sum a c b]
    by_cases e : a ≤ b
    · rw [if_pos e, show b + 1 - a = (b - a) + 1 by omega, Nat.succ_mul]
    · rw [if_neg e, show b + 1 - a = b - a by omega]; omega
include hs in
/-- No other lengths cost less. -/
theorem len_least (t : Nat) (o : Nat → Nat) (h1 : 1 ≤ n) (h : n ≤ 2 ^ (t + 1)) (ho : ∀ k, k < n → o k ≤ t + 1) (hk : sumN (fun k => 2 ^ (t + 1 - o k)) n ≤ 2 ^ (t + 1)) :
    sumN (fun k => lenT f n t (2 * n - 2) k * f k) n ≤ sumN (fun k => o k * f k) n := by
  rw [← len_cost t (2 * n - 2) (row_enough t h)]
  have hW : sumN (fun u => cn (fun k => decide (t + 1 - o k ≤ u)) n * 2 ^ u) (t + 1) + sumN (fun k => 2 ^ (t + 1 - o k)) n = n * 2 ^ (t + 1) := by
    have e1 : sumN (fun u => cn (fun k => decide (t + 1 - o k ≤ u)) n * 2 ^ u) (t + 1) = sumN (fun u => sumN (fun k => if t + 1 - o k ≤ u then 2 ^ u else 0) n) (t + 1) := by
      refine sumN_congr fun u _ => ?_
      unfold cn
      rw [← sumN_mul]
      refine sumN_congr fun k _ => ?_
      by_cases e : t + 1 - o k ≤ u
      · simp [e]
      · simp [e]
    rw [e1, sumN_swap, ← sumN_add, ← sumN_const]
    refine sumN_congr fun k _ => ?_
    exact pow_sum 0 (t + 1 - o k) (t + 1) (by omega)
  have hC : sumN (fun u => wsum f (fun k => decide (t + 1 - o k ≤ u)) n) (t + 1) = sumN (fun k => o k * f k) n := by
    unfold wsum
    rw [sumN_swap]
    refine sumN_congr fun k hkn => ?_
    have := ho k hkn
    have e : sumN (fun i => if decide (t + 1 - o k ≤ i) = true then f k else 0) (t + 1) = sumN (fun i => if t + 1 - o k ≤ i then f k else 0) (t + 1) := sumN_congr fun i _ => by simp
    rw [e, one_sum, show t + 1 - (t + 1 - o k) = o k by omega]
  have e : (2 * n - 2) * 2 ^ t = (n - 1) * 2 ^ (t + 1) := by
    rw [Nat.pow_succ, Nat.mul_comm (2 ^ t) 2, ← Nat.mul_assoc]
    congr 1
    omega
  have e2 : n * 2 ^ (t + 1) = (n - 1) * 2 ^ (t + 1) + 2 ^ (t + 1) := by
    have : n = (n - 1) + 1 := by omega
    rw [this, Nat.add_mul, Nat.one_mul]
    simp
  have := (row_least (f := f) (n := n) hs (fun u k => decide (t + 1 - o k ≤ u)) t (2 * n - 2) (by rw [e]; omega)).2
  rw [hC] at this
  exact this
end
end Go.Proofs.Ytahboomghjdjhaa
