/-
  Walks: Same; the law RunsSqueeze.
-/
import Derived.Test.YtfcefhaaphieeaaGreatGRunsC
namespace Go.Proofs.YtfcefhaaphieeaaGreat
open Go.RowKit

/-- A pair's cells. -/
theorem Rd.pair {w : World} {A : Option Addr} {l : List (Int × Int)} (h : Rd w A (runV l)) {i : Nat} (hi : i < l.length) :
    ∃ b off, A = some ⟨b, off, none⟩ ∧ w.cell? ⟨b, off + i * 2, none⟩ = some (.int .i64 (l[i]'hi).1) ∧ w.cell? ⟨b, off + i * 2 + 1, none⟩ = some (.int .i64 (l[i]'hi).2) := by
  obtain ⟨b, off, hA, hc⟩ := h.at_ (by rw [runV_length]; omega)
  obtain ⟨h1, h2⟩ := prs_get (f := fun r : Int × Int => .int .i64 r.1) (g := fun r : Int × Int => .int .i64 r.2) l i l[i] (List.getElem?_eq_getElem hi)
  refine ⟨b, off, hA, ?_, ?_⟩
  · rw [Nat.mul_comm]; exact hc _ _ h1
  · rw [Nat.add_assoc, Nat.mul_comm i 2]; exact hc _ _ h2

theorem sq_len (l : List Nat) : (sq l).length ≤ l.length := by
  unfold sq
  split
  · have := runsFrom_len l l.length 0 (by omega); omega
  · simp

end Go.Proofs.YtfcefhaaphieeaaGreat
