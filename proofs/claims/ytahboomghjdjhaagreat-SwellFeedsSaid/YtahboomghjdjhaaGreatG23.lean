/-
  Plain: rows of items and pairs, and the lengths that they tell. No program in sight.
-/
namespace Go.Proofs.YtahboomghjdjhaaGreat

inductive Tr where
  | leaf (k : Nat)
  | node (a b : Tr)
def wtT (f : Nat → Nat) : Tr → Nat
  | .leaf k => f k
  | .node a b => wtT f a + wtT f b
/-- How often an item is in one. -/
def ofT (k : Nat) : Tr → Nat
  | .leaf j => if j = k then 1 else 0
  | .node a b => ofT k a + ofT k b
def isPair : Tr → Bool
  | .leaf _ => false
  | .node _ _ => true

section
variable {α β : Type}
/-- Two lists by an order, of one the first list's ahead. -/
def mrg (le : α → α → Bool) : List α → List α → List α
  | [] => fun ys => ys
  | x :: xs => go x (mrg le xs)
where
  go (x : α) (f : List α → List α) : List α → List α
    | [] => x :: f []
    | y :: ys => if le x y then x :: f (y :: ys) else y :: go x f ys
end

/-- Two by two. -/
def pairT : List Tr → List Tr
  | a :: b :: r => .node a b :: pairT r
  | _ => []
/-- A sum over trees. -/
def sumT (g : Tr → Nat) (l : List Tr) : Nat := (l.map g).sum
def leT (f : Nat → Nat) (a b : Tr) : Bool := decide (wtT f a ≤ wtT f b)
def itemsT (n : Nat) : List Tr := (List.range n).map .leaf
/-- Row t + 1. -/
def rowTr (f : Nat → Nat) (n : Nat) : Nat → List Tr
  | 0 => itemsT n
  | t + 1 => mrg (leT f) (itemsT n) (pairT (rowTr f n t))
/-- How many pairs are among the first m of a row. -/
def prT (f : Nat → Nat) (n t m : Nat) : Nat := (((rowTr f n t).take m).filter isPair).length
/-- How many items each row gives, from row t + 1 down, of the first m. -/
def selT (f : Nat → Nat) (n : Nat) : Nat → Nat → List Nat
  | 0, m => [m - prT f n 0 m]
  | t + 1, m => (m - prT f n (t + 1) m) :: selT f n t (2 * prT f n (t + 1) m)
/-- An item's length. -/
def lenT (f : Nat → Nat) (n t m k : Nat) : Nat := ((selT f n t m).filter fun a => decide (k < a)).length

end Go.Proofs.YtahboomghjdjhaaGreat

/-
  Plain: the lengths that the rows tell are whole, and no others cost less. No program in sight.
-/
namespace Go.Proofs.YtahboomghjdjhaaGreat

/-! ### Sums -/
def sumN (g : Nat → Nat) : Nat → Nat
  | 0 => 0
  | n + 1 => sumN g n + g n
/-! ### Rows rise -/
section
variable {α : Type}
end
section
variable {f : Nat → Nat} {n : Nat} (hs : ∀ i j, i ≤ j → j < n → f i ≤ f j)
/-- Leaves are items. -/
def inT (n : Nat) : Tr → Prop
  | .leaf k => k < n
  | .node a b => inT n a ∧ inT n b
end
end Go.Proofs.YtahboomghjdjhaaGreat

/-
  Plain: the lengths of items: they fall, they are whole, and no others cost less. No program in sight.
-/
namespace Go.Proofs.YtahboomghjdjhaaGreat

section
variable {f : Nat → Nat} {n : Nat}
variable (hs : ∀ i j, i ≤ j → j < n → f i ≤ f j) (hp : ∀ i, i < n → 0 < f i)
/-- What rows give, weighed. -/
def wd : List Nat → Nat
  | [] => 0
  | a :: r => a * 2 ^ r.length + wd r
def itw (k : Nat) : List Nat → Nat
  | [] => 0
  | a :: r => (if k < a then 2 ^ r.length else 0) + itw k r
/-! ### No others cost less -/
def cn (s : Nat → Bool) (n : Nat) : Nat := sumN (fun k => if s k then 1 else 0) n
def wsum (f : Nat → Nat) (s : Nat → Bool) (n : Nat) : Nat := sumN (fun k => if s k then f k else 0) n
end
end Go.Proofs.YtahboomghjdjhaaGreat
