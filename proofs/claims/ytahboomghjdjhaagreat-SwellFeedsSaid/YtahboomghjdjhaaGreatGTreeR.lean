/-
  Walks: the reference's Read.
-/
import Derived.Test.YtahboomghjdjhaaGreatG05
import Derived.Test.YtahboomghjdjhaaGreatG08
import Derived.Test.YtahboomghjdjhaaGreatG09
namespace Go.Proofs.YtahboomghjdjhaaGreat
open Go.RowKit

def ReadRes (w w' : World) (e : Ending) (r : Nat × Nat × Nat) : Prop := e = .returned (.tuple #[.int .i64 (r.1 : Int), .int .i64 (r.2.1 : Int), .int .i64 (r.2.2 : Int)]) ∧ Below w.heap.size w w'
theorem ReadRes.mk' {w w' : World} {e : Ending} {r : Nat × Nat × Nat} {x y z : Nat} (h : r = (x, y, z)) (he : e = .returned (.tuple #[.int .i64 (x : Int), .int .i64 (y : Int), .int .i64 (z : Int)])) (hb : Below w.heap.size w w') : ReadRes w w' e r := by subst h; exact ⟨he, hb⟩
theorem shr_eqb (x v j : Nat) : (((x : Int) / 2 ^ j) == (v : Int)) = decide (x / 2 ^ j = v) := by
  rw [cast_shr, Bool.eq_iff_iff, beq_iff_eq, decide_eq_true_iff]
  generalize x / 2 ^ j = y
  omega
theorem hit_no {l : List Nat} {n v i : Nat} (h : nth l i ≠ n ∨ (codeAt l i).1 ≠ v ∨ n = 0) : hitB l n v i = false := by
  unfold hitB; exact decide_eq_false fun ⟨h1, h2, h3⟩ => by rcases h with h | h | h <;> omega
theorem more_no {l : List Nat} {n v i : Nat} (h : nth l i ≤ n) : moreB l n v i = false := by
  unfold moreB; exact decide_eq_false fun ⟨h1, h2⟩ => by omega

end Go.Proofs.YtahboomghjdjhaaGreat
