/-
  The chapter's examples: lengths reckoned; is, alive.
-/
import Derived.Test.YtolcekbldpdmpaaBuildD
namespace Go.Proofs.Ytolcekbldpdmpaa
open Go.RowKit

/-! ### Lengths, reckoned from rows of weights -/
def rowB (ws : List Nat) : Nat → List (Nat × Bool)
  | 0 => behL [] ws
  | t + 1 => behL (rowB ws t) ws
theorem rowB_is (f : Nat → Nat) (n : Nat) : ∀ t, rowB ((List.range n).map f) t = (rowT f n t).map (gP f)
  | 0 => (row_beh0 f n).symm
  | t + 1 => by rw [rowB, rowB_is f n t, row_beh]
def selB (ws : List Nat) : Nat → Nat → List Nat
  | 0, m => [m - prP (rowB ws 0) m]
  | t + 1, m => (m - prP (rowB ws (t + 1)) m) :: selB ws t (2 * prP (rowB ws (t + 1)) m)
theorem selB_is (f : Nat → Nat) (n : Nat) : ∀ t m, selB ((List.range n).map f) t m = selT f n t m
  | 0, m => by rw [selB, selT, rowB_is, prP_row]
  | t + 1, m => by rw [selB, selT, rowB_is, prP_row, selB_is f n t]
/-- The lengths as reckoned. -/
def outB (fr ys : List Int) (L : Nat) : List Nat :=
  let ws := (List.range ys.length).map (wtF fr ys)
  let sel := selB ws (L - 1) (2 * ys.length - 2)
  (List.range fr.length).map fun i => sumN (fun k => if itF ys k = i then (if ys.length = 1 then 1 else (sel.filter fun a => decide (k < a)).length) else 0) ys.length
theorem outB_is (fr ys : List Int) (L : Nat) : outB fr ys L = outL fr ys L := by
  unfold outB outL
  refine List.map_congr_left fun i _ => ?_
  unfold outF
  refine sumN_congr fun k _ => ?_
  by_cases e : itF ys k = i
  · rw [if_pos e, if_pos e]
    unfold blF lenT
    rw [selB_is]
  · rw [if_neg e, if_neg e]
/-- The one list of items: its lengths. -/
theorem outL_of {fr ys zs : List Int} {L : Nat} {l : List Nat} (h : Items fr ys) (k : Items fr zs) (e : outB fr zs L = l) : outL fr ys L = l := by rw [h.uniq k, ← outB_is]; exact e
theorem items_of_dec {fr zs : List Int} (h1 : ∀ i, i < zs.length → ∀ j, j < zs.length → i < j → LX (fun x => nthI fr x.toNat) (nthI zs i) (nthI zs j)) (h2 : ∀ i : Nat, i < fr.length → (0 < nthI fr i ↔ (i : Int) ∈ zs)) (h3 : ∀ y ∈ zs, 0 ≤ y ∧ y < fr.length ∧ 0 < nthI fr y.toNat) : Items fr zs :=
  ⟨by
    unfold Asc
    rw [List.pairwise_iff_getElem]
    intro i j hi hj hij
    have := h1 i hi j hj hij
    rwa [nthI_el hi, nthI_el hj] at this, h2, h3⟩
instance (f : Int → Int) (x y : Int) : Decidable (LX f x y) := by unfold LX; infer_instance

set_option maxRecDepth 100000 in
set_option maxHeartbeats 1000000 in
theorem is_any (F : Option Addr) (nf cF : Nat) (fr : List Int) (L : Nat) (want : List Nat) (w : World) (hF : Rd w F (ints fr)) (hn : nf = fr.length) (hL : L ≤ 15) (hE : askE fr L = 0) (hw : ∀ ys, Items fr ys → outL fr ys L = want) (hbs : ∀ x ∈ want, x < 256) :
    Calls Try.prog 8 #[.slice F nf cF, .int .i64 (L : Int), .string (str want)] w fun e w' => e = .returned (.bool true) ∧ Below w.heap.size w w' := by
  obtain ⟨_, _, a3, _⟩ := askE_ok hE
  have HL := Lib.hid (lengths_is F nf cF fr L w hF hn (by omega) (by omega) (by omega))
  have HN := Lib.hid hn
  have HW := Lib.hid hw
  have HE := Lib.hid hE
  clear hn hw hE
  go_enter Try.func8, Try.ntmps8
  go_wp2_with fail
  refine (HL.out).mono ?_
  rintro e w1 (⟨hE, -, -⟩ | ⟨-, A, c, ys, hI, -, rfl, hB⟩)
  · exact absurd HE.out hE
  · rw [Int.toNat_natCast, HW.out ys hI] at hB
    have hlen : want.length = fr.length := by rw [← HW.out ys hI]; simp [outL]
    have hcv := conv_bytes (P := Try.prog) w1 24 5 Try.underlying24 Try.underlying5 9 Try.underlying9 A want c (rd_u8 hB.rd hbs) (fun e => by have := hB.rd.2 e; simpa [u8s] using this)
    rw [hlen] at hcv
    go_wp2_with fail
    go_ret
    exact ⟨rfl, hB.1⟩

theorem items6 : Items [5, 9, 12, 13, 16, 45] [0, 1, 2, 3, 4, 5] := items_of_dec (by decide) (by decide) (by decide)
theorem out6 : outB [5, 9, 12, 13, 16, 45] [0, 1, 2, 3, 4, 5] 15 = [4, 4, 3, 3, 3, 1] := by decide +kernel
theorem ask6 : askE [5, 9, 12, 13, 16, 45] 15 = 0 := by decide +kernel
theorem out_six (ys : List Int) (h : Items [5, 9, 12, 13, 16, 45] ys) : outL [5, 9, 12, 13, 16, 45] ys 15 = [4, 4, 3, 3, 3, 1] := outL_of h items6 out6

set_option maxRecDepth 100000 in
theorem balive_any (w : World) : Calls Try.prog 10 #[] w fun e w' => e = .returned (.bool true) ∧ Below w.heap.size w w' := by
  have H := Lib.hid (fun F cF (wx : World) (h : Rd wx F (ints [5, 9, 12, 13, 16, 45])) => is_any F 6 cF [5, 9, 12, 13, 16, 45] 15 [4, 4, 3, 3, 3, 1] wx h rfl (by omega) ask6 out_six (by decide))
  go_enter Try.func10, Try.ntmps10
  go_wp2_with fail
  refine (H.out _ _ _ ?_).mono ?_
  · exact Rd.new' _ _ _ (ints [5, 9, 12, 13, 16, 45]) _ rfl rfl
  rintro e w1 ⟨rfl, hb1⟩
  obtain ⟨b1, _⟩ := box1 hb1
  go_wp2_with fail
  go_ret
  exact ⟨rfl, b1⟩
end Go.Proofs.Ytolcekbldpdmpaa
