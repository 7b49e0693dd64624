/-
  The laws of reach, walked: those without the document's answer, and ReachOf.
-/
import Derived.Deep.DeepCutAuto
import Derived.Test.YtahboomghjdjhaaGReachLaws
namespace Go.Proofs.Ytahboomghjdjhaa
open Go.RowKit

def bitE (f : Nat) (t : List (Nat × Nat × Nat)) (sym : Int) : Nat := if sym < f ∨ (f : Int) + t.length ≤ sym then 90 else 0
def bitN (f : Nat) (t : List (Nat × Nat × Nat)) (sym : Int) : Nat := if sym < f ∨ (f : Int) + t.length ≤ sym then 0 else (rowT t (sym - f).toNat).1

theorem LongBits_any (sym : Int) (w : World) (h1 : -9223372036854775808 ≤ sym) (h2 : sym ≤ 9223372036854775807) :
    Calls Try.prog 52 #[.int .i64 sym] w fun e w' => e = .returned (.tuple #[.int .i64 (bitN 257 longT sym), .int .i64 (bitE 257 longT sym)]) ∧ Below w.heap.size w w' := by
  have hl : (longT).length = 29 := rfl
  by_cases h : sym < ((257 : Nat) : Int) ∨ ((257 : Nat) : Int) + (longT).length ≤ sym
  · simp only [bitN, bitE, if_pos h]
    exact LongBits_bad sym w h1 h2 (by omega)
  · simp only [bitN, bitE, if_neg h]
    exact LongBits_ok (sym - ((257 : Nat) : Int)).toNat w (by omega) sym (by omega)
theorem FarBits_any (sym : Int) (w : World) (h1 : -9223372036854775808 ≤ sym) (h2 : sym ≤ 9223372036854775807) :
    Calls Try.prog 54 #[.int .i64 sym] w fun e w' => e = .returned (.tuple #[.int .i64 (bitN 0 farT sym), .int .i64 (bitE 0 farT sym)]) ∧ Below w.heap.size w w' := by
  have hl : (farT).length = 30 := rfl
  by_cases h : sym < ((0 : Nat) : Int) ∨ ((0 : Nat) : Int) + (farT).length ≤ sym
  · simp only [bitN, bitE, if_pos h]
    exact FarBits_bad sym w h1 h2 (by omega)
  · simp only [bitN, bitE, if_neg h]
    exact FarBits_ok (sym - ((0 : Nat) : Int)).toNat w (by omega) sym (by omega)
end Go.Proofs.Ytahboomghjdjhaa

/-
  ReachBack and ReachRises and ReachNames, walked.
-/
namespace Go.Proofs.Ytahboomghjdjhaa
open Go.RowKit

theorem LongOf_is (sym extra v : Int) (w : World) (hE : numE 257 longT sym extra = 0) (hV : numV 257 longT sym extra = v) (h1 : -9223372036854775808 ≤ sym) (h2 : sym ≤ 9223372036854775807) (h3 : -9223372036854775808 ≤ extra) (h4 : extra ≤ 9223372036854775807) :
    Calls Try.prog 53 #[.int .i64 sym, .int .i64 extra] w fun e w' => e = .returned (.tuple #[.int .i64 v, .int .i64 0]) ∧ Below w.heap.size w w' := by
  have := LongOf_any sym extra w h1 h2 h3 h4
  rwa [hE, hV] at this
theorem LongOf_no (sym extra : Int) (E : Nat) (w : World) (hE : numE 257 longT sym extra = E) (h0 : E ≠ 0) (h1 : -9223372036854775808 ≤ sym) (h2 : sym ≤ 9223372036854775807) (h3 : -9223372036854775808 ≤ extra) (h4 : extra ≤ 9223372036854775807) :
    Calls Try.prog 53 #[.int .i64 sym, .int .i64 extra] w fun e w' => e = .returned (.tuple #[.int .i64 0, .int .i64 E]) ∧ Below w.heap.size w w' := by
  have := LongOf_any sym extra w h1 h2 h3 h4
  have hV : numV 257 longT sym extra = 0 := by unfold numV; rw [if_neg (by omega)]
  rwa [hE, hV] at this
theorem LongBits_is (i b : Nat) (w : World) (hi : i < 29) (hb : (rowT longT i).1 = b) (sym : Int) (hs : sym = 257 + i) :
    Calls Try.prog 52 #[.int .i64 sym] w fun e w' => e = .returned (.tuple #[.int .i64 b, .int .i64 0]) ∧ Below w.heap.size w w' := by
  have := LongBits_ok i w hi sym hs
  rwa [hb] at this
theorem FarOf_is (sym extra v : Int) (w : World) (hE : numE 0 farT sym extra = 0) (hV : numV 0 farT sym extra = v) (h1 : -9223372036854775808 ≤ sym) (h2 : sym ≤ 9223372036854775807) (h3 : -9223372036854775808 ≤ extra) (h4 : extra ≤ 9223372036854775807) :
    Calls Try.prog 55 #[.int .i64 sym, .int .i64 extra] w fun e w' => e = .returned (.tuple #[.int .i64 v, .int .i64 0]) ∧ Below w.heap.size w w' := by
  have := FarOf_any sym extra w h1 h2 h3 h4
  rwa [hE, hV] at this
theorem FarOf_no (sym extra : Int) (E : Nat) (w : World) (hE : numE 0 farT sym extra = E) (h0 : E ≠ 0) (h1 : -9223372036854775808 ≤ sym) (h2 : sym ≤ 9223372036854775807) (h3 : -9223372036854775808 ≤ extra) (h4 : extra ≤ 9223372036854775807) :
    Calls Try.prog 55 #[.int .i64 sym, .int .i64 extra] w fun e w' => e = .returned (.tuple #[.int .i64 0, .int .i64 E]) ∧ Below w.heap.size w w' := by
  have := FarOf_any sym extra w h1 h2 h3 h4
  have hV : numV 0 farT sym extra = 0 := by unfold numV; rw [if_neg (by omega)]
  rwa [hE, hV] at this
theorem FarBits_is (i b : Nat) (w : World) (hi : i < 30) (hb : (rowT farT i).1 = b) (sym : Int) (hs : sym = i) :
    Calls Try.prog 54 #[.int .i64 sym] w fun e w' => e = .returned (.tuple #[.int .i64 b, .int .i64 0]) ∧ Below w.heap.size w w' := by
  have := FarBits_ok i w hi sym hs
  rwa [hb] at this
end Go.Proofs.Ytahboomghjdjhaa
