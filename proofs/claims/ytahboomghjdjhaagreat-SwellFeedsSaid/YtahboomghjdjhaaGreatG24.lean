/-
  Plain: the lengths of symbols, by their items. No program in sight.
-/
import Derived.Test.YtahboomghjdjhaaGreatG03
import Derived.Test.YtahboomghjdjhaaGreatG04
import Derived.Test.YtahboomghjdjhaaGreatG23
namespace Go.Proofs.YtahboomghjdjhaaGreat

section
variable {it : Nat → Nat} {n N : Nat} (inj : ∀ j k, j < n → k < n → it j = it k → j = k) (rng : ∀ k, k < n → it k < N)
end
/-! ### Items of frequencies -/
/-- The symbols above 0, by frequency, then by number. -/
structure Items (fr ys : List Int) : Prop where
  asc : Asc (fun x => nthI fr x.toNat) ys
  mem : ∀ i : Nat, i < fr.length → (0 < nthI fr i ↔ (i : Int) ∈ ys)
  rng : ∀ y ∈ ys, 0 ≤ y ∧ y < fr.length ∧ 0 < nthI fr y.toNat
def itF (ys : List Int) (k : Nat) : Nat := (nthI ys k).toNat
def wtF (fr ys : List Int) (k : Nat) : Nat := (nthI fr (itF ys k)).toNat
/-- An item's length: of L bits at most. -/
def blF (fr ys : List Int) (L k : Nat) : Nat := if ys.length = 1 then 1 else lenT (wtF fr ys) ys.length (L - 1) (2 * ys.length - 2) k
def outF (fr ys : List Int) (L i : Nat) : Nat := sumN (fun k => if itF ys k = i then blF fr ys L k else 0) ys.length
/-- The lengths of all symbols. -/
def outL (fr ys : List Int) (L : Nat) : List Nat := (List.range fr.length).map (outF fr ys L)

section
variable {fr ys : List Int} {L : Nat} (h : Items fr ys)
variable (hL : 1 ≤ L) (hn : ys.length ≤ 2 ^ L)
end

/-! ### All frequencies times a number -/
end Go.Proofs.YtahboomghjdjhaaGreat

/-
  Plain: items put in order one by one; items collected, then put in order. No program in sight.
-/
namespace Go.Proofs.YtahboomghjdjhaaGreat

/-- The items among the first i symbols, in order. -/
structure ItemsN (fr : List Int) (i : Nat) (out : List Int) : Prop where
  asc : Asc (fun x => nthI fr x.toNat) out
  mem : ∀ j : Nat, j < i → j < fr.length → (0 < nthI fr j ↔ (j : Int) ∈ out)
  rng : ∀ y ∈ out, 0 ≤ y ∧ y < i ∧ y < fr.length ∧ 0 < nthI fr y.toNat
/-- The items among the first i symbols, by number. -/
structure PosN (fr : List Int) (i : Nat) (out : List Int) : Prop where
  up : out.Pairwise (· < ·)
  mem : ∀ j : Nat, j < i → j < fr.length → (0 < nthI fr j ↔ (j : Int) ∈ out)
  rng : ∀ y ∈ out, 0 ≤ y ∧ y < i ∧ y < fr.length ∧ 0 < nthI fr y.toNat
end Go.Proofs.YtahboomghjdjhaaGreat
