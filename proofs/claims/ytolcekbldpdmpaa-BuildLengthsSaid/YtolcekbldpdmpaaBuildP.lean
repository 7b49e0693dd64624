/-
  Plain: the lengths that the rows tell are whole, and no others cost less. No program in sight.
-/
import Derived.Test.YtolcekbldpdmpaaBuildM
namespace Go.Proofs.Ytolcekbldpdmpaa

/-! ### Sums -/
def sumN (g : Nat → Nat) : Nat → Nat
  | 0 => 0
  | n + 1 => sumN g n + g n
theorem sumN_congr {g h : Nat → Nat} {n : Nat} (e : ∀ k, k < n → g k = h k) : sumN g n = sumN h n := by
  induction n with
  | zero => rfl
  | succ n ih => rw [sumN, sumN, ih (fun k hk => e k (by omega)), e n (by omega)]
theorem sumN_le {g h : Nat → Nat} {n : Nat} (e : ∀ k, k < n → g k ≤ h k) : sumN g n ≤ sumN h n := by
  induction n with
  | zero => exact Nat.le_refl _
  | succ n ih => rw [sumN, sumN]; have := ih (fun k hk => e k (by omega)); have := e n (by omega); omega
theorem sumN_add (g h : Nat → Nat) (n : Nat) : sumN (fun k => g k + h k) n = sumN g n + sumN h n := by
  induction n with
  | zero => rfl
  | succ n ih => rw [sumN, sumN, sumN, ih]; omega
theorem sumN_mul (g : Nat → Nat) (c n : Nat) : sumN (fun k => g k * c) n = sumN g n * c := by
  induction n with
  | zero => simp [sumN]
  | succ n ih => rw [sumN, sumN, ih, Nat.add_mul]
theorem sumN_zero (n : Nat) : sumN (fun _ => 0) n = 0 := by
  induction n with
  | zero => rfl
  | succ n ih => rw [sumN, ih]
theorem sumN_const (c n : Nat) : sumN (fun _ => c) n = n * c := by
  induction n with
  | zero => simp [sumN]
  | succ n ih => rw [sumN, ih, Nat.succ_mul]
theorem sumN_one {n i : Nat} (g : Nat → Nat) (h : i < n) : g i ≤ sumN g n := by
  induction n with
  | zero => omega
  | succ n ih =>
    rw [sumN]
    by_cases e : i = n
    · subst e; omega
    · have := ih (by omega); omega
theorem sumN_two {n i : Nat} (g : Nat → Nat) (h : i < n) (h1 : ∀ k, k < n → 1 ≤ g k) : g i + (n - 1) ≤ sumN g n := by
  induction n with
  | zero => omega
  | succ n ih =>
    rw [sumN]
    by_cases e : i = n
    · subst e
      have : sumN (fun _ => 1) i ≤ sumN g i := sumN_le fun k hk => h1 k (by omega)
      rw [sumN_const] at this
      omega
    · have := ih (by omega) (fun k hk => h1 k (by omega)); have := h1 n (by omega); omega
theorem sumN_swap (g : Nat → Nat → Nat) (m n : Nat) : sumN (fun i => sumN (g i) n) m = sumN (fun k => sumN (fun i => g i k) m) n := by
  induction m with
  | zero => rw [sumN, show (fun k => sumN (fun i => g i k) 0) = fun _ => 0 from rfl, sumN_zero]
  | succ m ih => rw [sumN, ih, ← sumN_add]; exact sumN_congr fun k _ => rfl
theorem sumN_below (c a n : Nat) (h : a ≤ n) : sumN (fun k => if k < a then c else 0) n = a * c := by
  induction n with
  | zero => obtain rfl : a = 0 := by omega
            simp [sumN]
  | succ n ih =>
    rw [sumN]
    by_cases e : a = n + 1
    · subst e
      rw [if_pos (by omega), sumN_congr (h := fun _ => c) (fun k hk => if_pos (by omega)), sumN_const, Nat.succ_mul]
    · rw [ih (by omega), if_neg (by omega)]; omega

/-! ### Rows rise -/
section
variable {α : Type}
theorem mrg_mem (le : α → α → Bool) (xs ys : List α) (z : α) : z ∈ mrg le xs ys ↔ z ∈ xs ∨ z ∈ ys := by
  refine mrg_ind (P := fun xs ys => z ∈ mrg le xs ys ↔ z ∈ xs ∨ z ∈ ys) ?_ ?_ ?_ xs ys
  · intro ys; simp [mrg_nil]
  · intro x xs _; rw [mrg_right_nil]; simp
  · intro x xs y ys h1 h2
    rw [mrg_cons]
    split
    · rw [List.mem_cons, h1]; simp [or_assoc]
    · rw [List.mem_cons, h2]; simp only [List.mem_cons]; constructor
      · rintro (h | h | h) <;> simp [h]
      · rintro ((h | h) | h | h) <;> simp [h]
theorem mrg_rises (wt : α → Nat) (le : α → α → Bool) (hle : ∀ a b, le a b = decide (wt a ≤ wt b)) (xs ys : List α) : xs.Pairwise (fun a b => wt a ≤ wt b) → ys.Pairwise (fun a b => wt a ≤ wt b) → (mrg le xs ys).Pairwise (fun a b => wt a ≤ wt b) := by
  refine mrg_ind (P := fun xs ys => xs.Pairwise (fun a b => wt a ≤ wt b) → ys.Pairwise (fun a b => wt a ≤ wt b) → (mrg le xs ys).Pairwise (fun a b => wt a ≤ wt b)) ?_ ?_ ?_ xs ys
  · intro ys _ h; exact h
  · intro x xs _ h _; rw [mrg_right_nil]; exact h
  · intro x xs y ys h1 h2 hx hy
    have hx' := List.pairwise_cons.1 hx
    have hy' := List.pairwise_cons.1 hy
    rw [mrg_cons, hle]
    by_cases h : wt x ≤ wt y
    · rw [decide_eq_true h, if_pos rfl, List.pairwise_cons]
      refine ⟨fun z hz => ?_, h1 hx'.2 hy⟩
      rcases (mrg_mem le _ _ z).1 hz with hz | hz
      · exact hx'.1 z hz
      · rw [List.mem_cons] at hz
        rcases hz with rfl | hz
        · exact h
        · exact Nat.le_trans h (hy'.1 z hz)
    · rw [decide_eq_false h, if_neg Bool.false_ne_true, List.pairwise_cons]
      refine ⟨fun z hz => ?_, h2 hx hy'.2⟩
      rcases (mrg_mem le _ _ z).1 hz with hz | hz
      · rw [List.mem_cons] at hz
        rcases hz with rfl | hz
        · omega
        · have := hx'.1 z hz; omega
      · exact hy'.1 z hz
/-- If the first m hold all of the first b of the others, what stands next of the first list is heavier than the last of these. -/
theorem mrg_last (le : α → α → Bool) (xs ys : List α) : ∀ n, n ≤ xs.length + ys.length → ∃ a b, a + b = n ∧ a ≤ xs.length ∧ b ≤ ys.length ∧ List.Perm ((mrg le xs ys).take n) (xs.take a ++ ys.take b) ∧
    (0 < b → a < xs.length → ∃ (a' : Nat) (x y : α), a' ≤ a ∧ xs[a']? = some x ∧ ys[b - 1]? = some y ∧ le x y = false) := by
  refine mrg_ind (P := fun xs ys => ∀ n, n ≤ xs.length + ys.length → ∃ a b, a + b = n ∧ a ≤ xs.length ∧ b ≤ ys.length ∧ List.Perm ((mrg le xs ys).take n) (xs.take a ++ ys.take b) ∧
    (0 < b → a < xs.length → ∃ (a' : Nat) (x y : α), a' ≤ a ∧ xs[a']? = some x ∧ ys[b - 1]? = some y ∧ le x y = false)) ?_ ?_ ?_ xs ys
  · intro ys n hn
    exact ⟨0, n, by omega, by omega, by simpa using hn, by simp [mrg_nil], fun _ h => by simp at h⟩
  · intro x xs h n hn
    exact ⟨n, 0, by omega, by simpa using hn, by simp, by rw [mrg_right_nil]; simp, fun h => by omega⟩
  · intro x xs y ys h1 h2 n hn
    cases n with
    | zero => exact ⟨0, 0, rfl, by omega, by omega, by simp, fun h => by omega⟩
    | succ n =>
      rw [mrg_cons]
      split
      · obtain ⟨a, b, e, ha, hb, hp, hl⟩ := h1 n (by simp only [List.length_cons] at hn ⊢; omega)
        refine ⟨a + 1, b, by omega, by simp; omega, hb, ?_, fun hb0 hax => ?_⟩
        · simp only [List.take_succ_cons, List.cons_append]
          exact hp.cons x
        · obtain ⟨a', x', y', g1, g2, g3, g4⟩ := hl hb0 (by simpa using hax)
          exact ⟨a' + 1, x', y', by omega, by simpa using g2, g3, g4⟩
      · rename_i hle
        obtain ⟨a, b, e, ha, hb, hp, hl⟩ := h2 n (by simp only [List.length_cons] at hn ⊢; omega)
        refine ⟨a, b + 1, by omega, ha, by simp; omega, ?_, fun _ hax => ?_⟩
        · simp only [List.take_succ_cons]
          exact (hp.cons y).trans List.perm_middle.symm
        · by_cases hb0 : 0 < b
          · obtain ⟨a', x', y', g1, g2, g3, g4⟩ := hl hb0 hax
            refine ⟨a', x', y', g1, g2, ?_, g4⟩
            rw [show b + 1 - 1 = (b - 1) + 1 by omega, List.getElem?_cons_succ]; exact g3
          · obtain rfl : b = 0 := by omega
            exact ⟨0, x, y, by omega, rfl, rfl, by simpa using hle⟩
/-- The first m of both together weigh no more than any a and b of them that stand first. -/
theorem mrg_least (wt : α → Nat) (le : α → α → Bool) (hle : ∀ a b, le a b = decide (wt a ≤ wt b)) (xs ys : List α) : xs.Pairwise (fun a b => wt a ≤ wt b) → ys.Pairwise (fun a b => wt a ≤ wt b) →
    ∀ a b, a ≤ xs.length → b ≤ ys.length → (((mrg le xs ys).take (a + b)).map wt).sum ≤ ((xs.take a).map wt).sum + ((ys.take b).map wt).sum := by
  refine mrg_ind (P := fun xs ys => xs.Pairwise (fun a b => wt a ≤ wt b) → ys.Pairwise (fun a b => wt a ≤ wt b) →
    ∀ a b, a ≤ xs.length → b ≤ ys.length → (((mrg le xs ys).take (a + b)).map wt).sum ≤ ((xs.take a).map wt).sum + ((ys.take b).map wt).sum) ?_ ?_ ?_ xs ys
  · intro ys _ _ a b ha hb
    obtain rfl : a = 0 := by simpa using ha
    simp [mrg_nil]
  · intro x xs _ _ _ a b ha hb
    obtain rfl : b = 0 := by simpa using hb
    rw [mrg_right_nil]; simp
  · intro x xs y ys h1 h2 hx hy a b ha hb
    have hx' := List.pairwise_cons.1 hx
    have hy' := List.pairwise_cons.1 hy
    have next : ∀ (z : α) (zs : List α) (m : Nat), (∀ u ∈ zs, wt z ≤ wt u) → m < (z :: zs).length → ((((z :: zs).take m).map wt).sum + wt z ≤ (((z :: zs).take (m + 1)).map wt).sum) := by
      intro z zs m hz hm
      rw [List.take_succ_eq_append_getElem hm, List.map_append, List.sum_append]
      have : wt z ≤ wt ((z :: zs)[m]) := by
        cases m with
        | zero => exact Nat.le_refl _
        | succ m => exact hz _ (List.getElem_mem _)
      simp; omega
    by_cases hab : a + b = 0
    · obtain rfl : a = 0 := by omega
      obtain rfl : b = 0 := by omega
      simp
    · rw [mrg_cons, hle]
      by_cases h : wt x ≤ wt y
      · rw [decide_eq_true h, if_pos rfl]
        cases a with
        | succ a =>
          have := h1 hx'.2 hy a b (by simpa using ha) hb
          rw [show a + 1 + b = (a + b) + 1 by omega, List.take_succ_cons, List.take_succ_cons]
          simp only [List.map_cons, List.sum_cons]
          omega
        | zero =>
          obtain ⟨b, rfl⟩ : ∃ b', b = b' + 1 := ⟨b - 1, by omega⟩
          have i1 := h1 hx'.2 hy 0 b (by omega) (by omega)
          have i2 := next y ys b hy'.1 (by omega)
          rw [show 0 + (b + 1) = b + 1 by omega, List.take_succ_cons]
          simp only [List.map_cons, List.sum_cons, List.take_zero, List.map_nil, List.sum_nil, Nat.zero_add] at i1 ⊢
          omega
      · rw [decide_eq_false h, if_neg Bool.false_ne_true]
        cases b with
        | succ b =>
          have := h2 hx hy'.2 a b ha (by simpa using hb)
          rw [show a + (b + 1) = (a + b) + 1 by omega, List.take_succ_cons, List.take_succ_cons (as := ys)]
          simp only [List.map_cons, List.sum_cons]
          omega
        | zero =>
          obtain ⟨a, rfl⟩ : ∃ a', a = a' + 1 := ⟨a - 1, by omega⟩
          have i1 := h2 hx hy'.2 a 0 (by omega) (by omega)
          have i2 := next x xs a hx'.1 (by omega)
          rw [show a + 1 + 0 = a + 1 by omega, List.take_succ_cons (i := a) (a := y)]
          simp only [List.map_cons, List.sum_cons, List.take_zero, List.map_nil, List.sum_nil, Nat.add_zero] at i1 ⊢
          omega
end
theorem pairT_rises (f : Nat → Nat) : ∀ (l : List Tr), l.Pairwise (fun a b => wtT f a ≤ wtT f b) → (pairT l).Pairwise (fun a b => wtT f a ≤ wtT f b)
  | [], _ => List.Pairwise.nil
  | [a], _ => List.Pairwise.nil
  | a :: b :: r, h => by
    have h1 := List.pairwise_cons.1 h
    have h2 := List.pairwise_cons.1 h1.2
    rw [pairT, List.pairwise_cons]
    refine ⟨?_, pairT_rises f r h2.2⟩
    have key : ∀ (r : List Tr), (∀ x ∈ r, wtT f a ≤ wtT f x ∧ wtT f b ≤ wtT f x) → ∀ z ∈ pairT r, wtT f (.node a b) ≤ wtT f z := by
      intro r
      induction r using pairT.induct with
      | case1 c d r ih =>
        intro hr z hz
        rw [pairT, List.mem_cons] at hz
        rcases hz with rfl | hz
        · have e1 := hr c (by simp)
          have e2 := hr d (by simp)
          simp only [wtT]; omega
        · exact ih (fun x hx => hr x (by simp [hx])) z hz
      | case2 r hne =>
        intro _ z hz
        cases r with
        | nil => simp [pairT] at hz
        | cons c r => cases r with
          | nil => simp [pairT] at hz
          | cons d r => exact absurd rfl (hne c d r)
    exact key r (fun x hx => ⟨h1.1 x (by simp [hx]), h2.1 x hx⟩)

section
variable {f : Nat → Nat} {n : Nat} (hs : ∀ i j, i ≤ j → j < n → f i ≤ f j)
include hs in
theorem items_rise : (itemsT n).Pairwise (fun a b => wtT f a ≤ wtT f b) := by
  unfold itemsT
  rw [List.pairwise_map]
  refine List.Pairwise.imp_of_mem ?_ (List.pairwise_lt_range (n := n))
  intro i j hi hj hij
  exact hs i j (by omega) (List.mem_range.1 hj)
include hs in
theorem row_rises : ∀ t, (rowT f n t).Pairwise (fun a b => wtT f a ≤ wtT f b)
  | 0 => items_rise hs
  | t + 1 => mrg_rises (wtT f) (leT f) (fun _ _ => rfl) _ _ (items_rise hs) (pairT_rises f _ (row_rises t))
/-- Leaves are items. -/
def inT (n : Nat) : Tr → Prop
  | .leaf k => k < n
  | .node a b => inT n a ∧ inT n b
theorem pairT_in : ∀ (l : List Tr), (∀ x ∈ l, inT n x) → ∀ x ∈ pairT l, inT n x
  | [], _, x, hx => by simp [pairT] at hx
  | [a], _, x, hx => by simp [pairT] at hx
  | a :: b :: r, h, x, hx => by
    rw [pairT, List.mem_cons] at hx
    rcases hx with rfl | hx
    · exact ⟨h a (by simp), h b (by simp)⟩
    · exact pairT_in r (fun y hy => h y (by simp [hy])) x hx
theorem row_in : ∀ t, ∀ x ∈ rowT f n t, inT n x
  | 0, x, hx => by
    obtain ⟨k, hk, rfl⟩ := List.mem_map.1 hx
    exact List.mem_range.1 hk
  | t + 1, x, hx => by
    rcases (mrg_mem _ _ _ x).1 hx with hx | hx
    · obtain ⟨k, hk, rfl⟩ := List.mem_map.1 hx
      exact List.mem_range.1 hk
    · exact pairT_in _ (row_in t) x hx
theorem wt_pos (hp : ∀ i, i < n → 0 < f i) : ∀ x, inT n x → 0 < wtT f x
  | .leaf k, h => hp k h
  | .node a b, h => by have := wt_pos hp a h.1; simp only [wtT]; omega
theorem wt_of : ∀ x, inT n x → wtT f x = sumN (fun k => ofT k x * f k) n
  | .leaf j, h => by
    have : ∀ m, sumN (fun k => ofT k (.leaf j) * f k) m = if j < m then f j else 0 := by
      intro m
      induction m with
      | zero => rfl
      | succ m ih =>
        rw [sumN, ih]
        simp only [ofT]
        by_cases h1 : j = m
        · subst h1; simp
        · rw [if_neg h1]
          by_cases h2 : j < m
          · rw [if_pos h2, if_pos (by omega)]; omega
          · rw [if_neg h2, if_neg (by omega)]; omega
    rw [this n, if_pos (show j < n from h)]; rfl
  | .node a b, h => by
    rw [wtT, wt_of a h.1, wt_of b h.2, ← sumN_add]
    exact sumN_congr fun k _ => by simp only [ofT, Nat.add_mul]
theorem sumT_wt : ∀ (l : List Tr), (∀ x ∈ l, inT n x) → sumT (wtT f) l = sumN (fun k => sumT (ofT k) l * f k) n
  | [], _ => by simp [sumT, sumN_zero]
  | x :: l, h => by
    have ih := sumT_wt l (fun y hy => h y (by simp [hy]))
    have e : ∀ g, sumT g (x :: l) = g x + sumT g l := fun g => by simp [sumT]
    rw [e, ih, wt_of x (h x (by simp)), ← sumN_add]
    exact sumN_congr fun k _ => by rw [e, Nat.add_mul]
end
end Go.Proofs.Ytolcekbldpdmpaa
