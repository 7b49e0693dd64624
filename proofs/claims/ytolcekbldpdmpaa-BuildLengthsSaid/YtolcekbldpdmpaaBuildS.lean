/-
  Plain: rows as the program keeps them: weights, and which are pairs. No program in sight.
-/
import Derived.Test.YtolcekbldpdmpaaBuildR
namespace Go.Proofs.Ytolcekbldpdmpaa

def pairP : List (Nat × Bool) → List (Nat × Bool)
  | a :: b :: r => (a.1 + b.1, true) :: pairP r
  | _ => []
def leP (a b : Nat × Bool) : Bool := decide (a.1 ≤ b.1)
def itP (ws : List Nat) : List (Nat × Bool) := ws.map fun w => (w, false)
/-- The row behind a row. -/
def behL (row : List (Nat × Bool)) (ws : List Nat) : List (Nat × Bool) := mrg leP (itP ws) (pairP row)
def gP (f : Nat → Nat) (t : Tr) : Nat × Bool := (wtT f t, isPair t)
theorem pairP_map (f : Nat → Nat) : ∀ l : List Tr, (pairT l).map (gP f) = pairP (l.map (gP f))
  | [] => rfl
  | [_] => rfl
  | a :: b :: r => by rw [pairT, List.map_cons, pairP_map f r]; rfl
theorem itP_map (f : Nat → Nat) (n : Nat) : (itemsT n).map (gP f) = itP ((List.range n).map f) := by
  unfold itemsT itP
  rw [List.map_map, List.map_map]; rfl
theorem row_beh (f : Nat → Nat) (n t : Nat) : (rowT f n (t + 1)).map (gP f) = behL ((rowT f n t).map (gP f)) ((List.range n).map f) := by
  show (mrg (leT f) (itemsT n) (pairT (rowT f n t))).map (gP f) = _
  rw [mrg_map (leT f) leP (gP f) (fun _ _ => rfl), itP_map, pairP_map]; rfl
theorem row_beh0 (f : Nat → Nat) (n : Nat) : (rowT f n 0).map (gP f) = behL [] ((List.range n).map f) := by
  show (itemsT n).map (gP f) = _
  rw [itP_map]
  unfold behL
  rw [show pairP [] = [] from rfl, mrg_right_nil]
/-- Weights as a list. -/
def nthP (row : List (Nat × Bool)) (i : Nat) : Nat × Bool := row[i]?.getD (0, false)
theorem pairP_drop {row : List (Nat × Bool)} {i : Nat} (h : i + 1 < row.length) : pairP (row.drop i) = ((nthP row i).1 + (nthP row (i + 1)).1, true) :: pairP (row.drop (i + 2)) := by
  rw [List.drop_eq_getElem_cons (by omega : i < row.length), List.drop_eq_getElem_cons h, pairP]
  simp [nthP, List.getElem?_eq_getElem h, List.getElem?_eq_getElem (show i < row.length by omega)]
theorem pairP_end {row : List (Nat × Bool)} {i : Nat} (h : row.length ≤ i + 1) : pairP (row.drop i) = [] := by
  rcases Nat.lt_or_ge i row.length with h1 | h1
  · rw [List.drop_eq_getElem_cons h1, List.drop_eq_nil_of_le (by omega)]; rfl
  · rw [List.drop_eq_nil_of_le h1]; rfl
theorem itP_drop {ws : List Nat} {a : Nat} (h : a < ws.length) : itP (ws.drop a) = (nth ws a, false) :: itP (ws.drop (a + 1)) := by
  have e : nth ws a = ws[a] := by simp [nth, List.getElem?_eq_getElem h]
  unfold itP
  rw [List.drop_eq_getElem_cons h, List.map_cons, e]
theorem itP_end (ws : List Nat) : itP (ws.drop ws.length) = [] := by rw [List.drop_length]; rfl
/-- One more of the merged row: an item. -/
theorem beh_item {ws : List Nat} {row : List (Nat × Bool)} {a i : Nat} (h : a < ws.length) (hi : i + 1 < row.length) (hle : nth ws a ≤ (nthP row i).1 + (nthP row (i + 1)).1) :
    mrg leP (itP (ws.drop a)) (pairP (row.drop i)) = (nth ws a, false) :: mrg leP (itP (ws.drop (a + 1))) (pairP (row.drop i)) := by
  rw [itP_drop h, pairP_drop hi, mrg_cons, if_pos (show leP _ _ = true from decide_eq_true hle)]
/-- A pair. -/
theorem beh_pair {ws : List Nat} {row : List (Nat × Bool)} {a i : Nat} (hi : i + 1 < row.length) (hle : a < ws.length → (nthP row i).1 + (nthP row (i + 1)).1 < nth ws a) (ha : a ≤ ws.length) :
    mrg leP (itP (ws.drop a)) (pairP (row.drop i)) = ((nthP row i).1 + (nthP row (i + 1)).1, true) :: mrg leP (itP (ws.drop a)) (pairP (row.drop (i + 2))) := by
  rw [pairP_drop hi]
  rcases Nat.lt_or_ge a ws.length with h | h
  · rw [itP_drop h, mrg_cons, if_neg]
    have := hle h
    simp only [leP, decide_eq_true_eq]; omega
  · obtain rfl : a = ws.length := by omega
    rw [itP_end]; rfl
/-- The items that are left. -/
theorem beh_rest {ws : List Nat} {row : List (Nat × Bool)} {a i : Nat} (hi : row.length ≤ i + 1) : mrg leP (itP (ws.drop a)) (pairP (row.drop i)) = itP (ws.drop a) := by
  rw [pairP_end hi, mrg_right_nil]

/-- How many are pairs. -/
def prP (row : List (Nat × Bool)) (m : Nat) : Nat := ((row.take m).filter (·.2)).length
theorem prP_succ {row : List (Nat × Bool)} {m : Nat} (h : m < row.length) : prP row (m + 1) = prP row m + if (nthP row m).2 then 1 else 0 := by
  unfold prP
  rw [List.take_succ_eq_append_getElem h, List.filter_append, List.length_append]
  congr 1
  have : nthP row m = row[m] := by simp [nthP, List.getElem?_eq_getElem h]
  rw [this, List.filter_cons]
  cases (row[m]).2 <;> simp
theorem prP_row (f : Nat → Nat) (n t m : Nat) : prP ((rowT f n t).map (gP f)) m = prT f n t m := by
  unfold prP prT
  rw [← List.map_take, List.filter_map, List.length_map]
  rfl
end Go.Proofs.Ytolcekbldpdmpaa
