/-
  The chapter's examples: lengths reckoned; is, alive.
-/
import Derived.Test.YtfcefhaaphieeaaGreatGBuildD
namespace Go.Proofs.YtfcefhaaphieeaaGreat
open Go.RowKit

/-! ### Lengths, reckoned from rows of weights -/
def rowB (ws : List Nat) : Nat → List (Nat × Bool)
  | 0 => behL [] ws
  | t + 1 => behL (rowB ws t) ws
theorem rowB_is (f : Nat → Nat) (n : Nat) : ∀ t, rowB ((List.range n).map f) t = (rowTr f n t).map (gP f)
  | 0 => (row_beh0 f n).symm
  | t + 1 => by rw [rowB, rowB_is f n t, row_beh]
def selB (ws : List Nat) : Nat → Nat → List Nat
  | 0, m => [m - prP (rowB ws 0) m]
  | t + 1, m => (m - prP (rowB ws (t + 1)) m) :: selB ws t (2 * prP (rowB ws (t + 1)) m)
theorem selB_is (f : Nat → Nat) (n : Nat) : ∀ t m, selB ((List.range n).map f) t m = selT f n t m
  | 0, m => by rw [selB, selT, rowB_is, prP_row]
  | t + 1, m => by rw [selB, selT, rowB_is, prP_row, selB_is f n t]
/-- The lengths as reckoned. -/
def outB (fr ys : List Int) (L : Nat) : List Nat :=
  let ws := (List.range ys.length).map (wtF fr ys)
  let sel := selB ws (L - 1) (2 * ys.length - 2)
  (List.range fr.length).map fun i => sumN (fun k => if itF ys k = i then (if ys.length = 1 then 1 else (sel.filter fun a => decide (k < a)).length) else 0) ys.length
theorem outB_is (fr ys : List Int) (L : Nat) : outB fr ys L = outL fr ys L := by
  unfold outB outL
  refine List.map_congr_left fun i _ => ?_
  unfold outF
  refine sumN_congr fun k _ => ?_
  by_cases e : itF ys k = i
  · rw [if_pos e, if_pos e]
    unfold blF lenT
    rw [selB_is]
  · rw [if_neg e, if_neg e]
/-- The one list of items: its lengths. -/
theorem outL_of {fr ys zs : List Int} {L : Nat} {l : List Nat} (h : Items fr ys) (k : Items fr zs) (e : outB fr zs L = l) : outL fr ys L = l := by rw [h.uniq k, ← outB_is]; exact e
theorem items_of_dec {fr zs : List Int} (h1 : ∀ i, i < zs.length → ∀ j, j < zs.length → i < j → LX (fun x => nthI fr x.toNat) (nthI zs i) (nthI zs j)) (h2 : ∀ i : Nat, i < fr.length → (0 < nthI fr i ↔ (i : Int) ∈ zs)) (h3 : ∀ y ∈ zs, 0 ≤ y ∧ y < fr.length ∧ 0 < nthI fr y.toNat) : Items fr zs :=
  ⟨by
    unfold Asc
    rw [List.pairwise_iff_getElem]
    intro i j hi hj hij
    have := h1 i hi j hj hij
    rwa [nthI_el hi, nthI_el hj] at this, h2, h3⟩
instance (f : Int → Int) (x y : Int) : Decidable (LX f x y) := by unfold LX; infer_instance

theorem items6 : Items [5, 9, 12, 13, 16, 45] [0, 1, 2, 3, 4, 5] := items_of_dec (by decide) (by decide) (by decide)
theorem out6 : outB [5, 9, 12, 13, 16, 45] [0, 1, 2, 3, 4, 5] 15 = [4, 4, 3, 3, 3, 1] := by decide +kernel
theorem ask6 : askE [5, 9, 12, 13, 16, 45] 15 = 0 := by decide +kernel
theorem out_six (ys : List Int) (h : Items [5, 9, 12, 13, 16, 45] ys) : outL [5, 9, 12, 13, 16, 45] ys 15 = [4, 4, 3, 3, 3, 1] := outL_of h items6 out6

end Go.Proofs.YtfcefhaaphieeaaGreat
