/-
  The laws of reach, walked: those without the document's answer, and ReachOf.
-/
import Derived.Deep.DeepCutAuto
import Derived.Test.YtahboomghjdjhaaGreatGReachLaws
namespace Go.Proofs.YtahboomghjdjhaaGreat
open Go.RowKit

def bitE (f : Nat) (t : List (Nat × Nat × Nat)) (sym : Int) : Nat := if sym < f ∨ (f : Int) + t.length ≤ sym then 90 else 0
def bitN (f : Nat) (t : List (Nat × Nat × Nat)) (sym : Int) : Nat := if sym < f ∨ (f : Int) + t.length ≤ sym then 0 else (rowT t (sym - f).toNat).1

theorem LongBits_any (sym : Int) (w : World) (h1 : -9223372036854775808 ≤ sym) (h2 : sym ≤ 9223372036854775807) :
    Calls Tryz.prog 81 #[.int .i64 sym] w fun e w' => e = .returned (.tuple #[.int .i64 (bitN 257 longT sym), .int .i64 (bitE 257 longT sym)]) ∧ Below w.heap.size w w' := by
  have hl : (longT).length = 29 := rfl
  by_cases h : sym < ((257 : Nat) : Int) ∨ ((257 : Nat) : Int) + (longT).length ≤ sym
  · simp only [bitN, bitE, if_pos h]
    exact LongBits_bad sym w h1 h2 (by omega)
  · simp only [bitN, bitE, if_neg h]
    exact LongBits_ok (sym - ((257 : Nat) : Int)).toNat w (by omega) sym (by omega)
theorem rLongBits_any (sym : Int) (w : World) :
    Calls Tryz.prog 68 #[.int .i64 sym] w fun e w' => e = .returned (.tuple #[.int .i64 (bitN 257 longT sym), .int .i64 (bitE 257 longT sym)]) ∧ Below w.heap.size w w' := by
  have hl : (longT).length = 29 := rfl
  by_cases h : sym < ((257 : Nat) : Int) ∨ ((257 : Nat) : Int) + (longT).length ≤ sym
  · simp only [bitN, bitE, if_pos h]
    exact rLongBits_bad sym w (by omega)
  · simp only [bitN, bitE, if_neg h]
    exact rLongBits_ok (sym - ((257 : Nat) : Int)).toNat w (by omega) sym (by omega)
theorem rLongOf_any (sym extra : Int) (w : World) (h3 : -9223372036854775808 ≤ extra) (h4 : extra ≤ 9223372036854775807) :
    Calls Tryz.prog 70 #[.int .i64 sym, .int .i64 extra] w fun e w' => e = .returned (.tuple #[.int .i64 (numV 257 longT sym extra), .int .i64 (numE 257 longT sym extra)]) ∧ Below w.heap.size w w' := by
  have hl : (longT).length = 29 := rfl
  by_cases h : sym < ((257 : Nat) : Int) ∨ ((257 : Nat) : Int) + (longT).length ≤ sym
  · have hE : numE 257 longT sym extra = 90 := by unfold numE; rw [if_pos h]
    have hV : numV 257 longT sym extra = 0 := by unfold numV; rw [hE]; rfl
    rw [hE, hV]
    exact rLongOf_bad sym extra w (by omega)
  · exact rLongOf_ok (sym - ((257 : Nat) : Int)).toNat extra w (by omega) sym (by omega) h3 h4

theorem FarBits_any (sym : Int) (w : World) (h1 : -9223372036854775808 ≤ sym) (h2 : sym ≤ 9223372036854775807) :
    Calls Tryz.prog 83 #[.int .i64 sym] w fun e w' => e = .returned (.tuple #[.int .i64 (bitN 0 farT sym), .int .i64 (bitE 0 farT sym)]) ∧ Below w.heap.size w w' := by
  have hl : (farT).length = 30 := rfl
  by_cases h : sym < ((0 : Nat) : Int) ∨ ((0 : Nat) : Int) + (farT).length ≤ sym
  · simp only [bitN, bitE, if_pos h]
    exact FarBits_bad sym w h1 h2 (by omega)
  · simp only [bitN, bitE, if_neg h]
    exact FarBits_ok (sym - ((0 : Nat) : Int)).toNat w (by omega) sym (by omega)
theorem rFarBits_any (sym : Int) (w : World) :
    Calls Tryz.prog 69 #[.int .i64 sym] w fun e w' => e = .returned (.tuple #[.int .i64 (bitN 0 farT sym), .int .i64 (bitE 0 farT sym)]) ∧ Below w.heap.size w w' := by
  have hl : (farT).length = 30 := rfl
  by_cases h : sym < ((0 : Nat) : Int) ∨ ((0 : Nat) : Int) + (farT).length ≤ sym
  · simp only [bitN, bitE, if_pos h]
    exact rFarBits_bad sym w (by omega)
  · simp only [bitN, bitE, if_neg h]
    exact rFarBits_ok (sym - ((0 : Nat) : Int)).toNat w (by omega) sym (by omega)
theorem rFarOf_any (sym extra : Int) (w : World) (h3 : -9223372036854775808 ≤ extra) (h4 : extra ≤ 9223372036854775807) :
    Calls Tryz.prog 71 #[.int .i64 sym, .int .i64 extra] w fun e w' => e = .returned (.tuple #[.int .i64 (numV 0 farT sym extra), .int .i64 (numE 0 farT sym extra)]) ∧ Below w.heap.size w w' := by
  have hl : (farT).length = 30 := rfl
  by_cases h : sym < ((0 : Nat) : Int) ∨ ((0 : Nat) : Int) + (farT).length ≤ sym
  · have hE : numE 0 farT sym extra = 90 := by unfold numE; rw [if_pos h]
    have hV : numV 0 farT sym extra = 0 := by unfold numV; rw [hE]; rfl
    rw [hE, hV]
    exact rFarOf_bad sym extra w (by omega)
  · exact rFarOf_ok (sym - ((0 : Nat) : Int)).toNat extra w (by omega) sym (by omega) h3 h4

end Go.Proofs.YtahboomghjdjhaaGreat

/-
  ReachBack and ReachRises and ReachNames, walked.
-/
namespace Go.Proofs.YtahboomghjdjhaaGreat
open Go.RowKit

end Go.Proofs.YtahboomghjdjhaaGreat
