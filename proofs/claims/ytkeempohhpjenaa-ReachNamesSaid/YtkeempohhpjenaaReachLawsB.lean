/-
  The laws of reach, walked: those without the document's answer, and ReachOf.
-/
import Derived.Test.YtkeempohhpjenaaReachLaws
import Derived.Deep.DeepCutAuto
namespace Go.Proofs.Ytkeempohhpjenaa
open Go.RowKit

theorem long_yes (n s b x : Int) (w : World) (h1 : -9223372036854775808 ≤ n) (h2 : n ≤ 9223372036854775807) (r : Nat × Nat × Int × Nat) (hr : tellT 257 longT n = r) (e0 : r.2.2.2 = 0) (e1 : (r.1 : Int) = s) (e2 : (r.2.1 : Int) = b) (e3 : r.2.2.1 = x) :
    Calls Try.prog 21 #[.int .i64 n, .int .i64 s, .int .i64 b, .int .i64 x] w fun e w' => e = .returned (.bool true) ∧ Below w.heap.size w w' := by
  obtain ⟨a, b', c, d⟩ := r
  dsimp only at e0 e1 e2 e3
  subst e0 e1 e2 e3
  go_enter Try.func21, Try.ntmps21
  have Hr := Lib.hid hr; clear hr
  go_wp2_with fail
  refine (Long_any n _ h1 h2).mono ?_
  rintro e w1 ⟨rfl, hb1⟩
  rw [Hr.out]
  go_wp2_with fail
  go_ret
  exact ⟨rfl, hb1⟩
theorem far_yes (n s b x : Int) (w : World) (h1 : -9223372036854775808 ≤ n) (h2 : n ≤ 9223372036854775807) (r : Nat × Nat × Int × Nat) (hr : tellT 0 farT n = r) (e0 : r.2.2.2 = 0) (e1 : (r.1 : Int) = s) (e2 : (r.2.1 : Int) = b) (e3 : r.2.2.1 = x) :
    Calls Try.prog 22 #[.int .i64 n, .int .i64 s, .int .i64 b, .int .i64 x] w fun e w' => e = .returned (.bool true) ∧ Below w.heap.size w w' := by
  obtain ⟨a, b', c, d⟩ := r
  dsimp only at e0 e1 e2 e3
  subst e0 e1 e2 e3
  go_enter Try.func22, Try.ntmps22
  have Hr := Lib.hid hr; clear hr
  go_wp2_with fail
  refine (Far_any n _ h1 h2).mono ?_
  rintro e w1 ⟨rfl, hb1⟩
  rw [Hr.out]
  go_wp2_with fail
  go_ret
  exact ⟨rfl, hb1⟩

theorem alive_any (w : World) :
    Calls Try.prog 12 #[] w fun e w' => e = .returned (.bool true) ∧ Below w.heap.size w w' := by
  go_enter Try.func12, Try.ntmps12
  go_wp2_with fail
  refine (long_yes 12 265 1 1 _ (by omega) (by omega) _ rfl (by decide) (by decide) (by decide) (by decide)).mono ?_
  rintro e w1 ⟨rfl, hb1⟩
  go_wp2_with fail
  refine (far_yes 6 4 1 1 _ (by omega) (by omega) _ rfl (by decide) (by decide) (by decide) (by decide)).mono ?_
  rintro e w2 ⟨rfl, hb2⟩
  go_wp2_with fail
  go_ret
  exact ⟨rfl, hb1.trans (hb2.mono hb1.size)⟩

def bitE (f : Nat) (t : List (Nat × Nat × Nat)) (sym : Int) : Nat := if sym < f ∨ (f : Int) + t.length ≤ sym then 90 else 0
def bitN (f : Nat) (t : List (Nat × Nat × Nat)) (sym : Int) : Nat := if sym < f ∨ (f : Int) + t.length ≤ sym then 0 else (rowT t (sym - f).toNat).1

theorem LongBits_any (sym : Int) (w : World) (h1 : -9223372036854775808 ≤ sym) (h2 : sym ≤ 9223372036854775807) :
    Calls Try.prog 17 #[.int .i64 sym] w fun e w' => e = .returned (.tuple #[.int .i64 (bitN 257 longT sym), .int .i64 (bitE 257 longT sym)]) ∧ Below w.heap.size w w' := by
  have hl : (longT).length = 29 := rfl
  by_cases h : sym < ((257 : Nat) : Int) ∨ ((257 : Nat) : Int) + (longT).length ≤ sym
  · simp only [bitN, bitE, if_pos h]
    exact LongBits_bad sym w h1 h2 (by omega)
  · simp only [bitN, bitE, if_neg h]
    exact LongBits_ok (sym - ((257 : Nat) : Int)).toNat w (by omega) sym (by omega)
theorem rLongBits_any (sym : Int) (w : World) :
    Calls Try.prog 18 #[.int .i64 sym] w fun e w' => e = .returned (.tuple #[.int .i64 (bitN 257 longT sym), .int .i64 (bitE 257 longT sym)]) ∧ Below w.heap.size w w' := by
  have hl : (longT).length = 29 := rfl
  by_cases h : sym < ((257 : Nat) : Int) ∨ ((257 : Nat) : Int) + (longT).length ≤ sym
  · simp only [bitN, bitE, if_pos h]
    exact rLongBits_bad sym w (by omega)
  · simp only [bitN, bitE, if_neg h]
    exact rLongBits_ok (sym - ((257 : Nat) : Int)).toNat w (by omega) sym (by omega)
theorem rLongOf_any (sym extra : Int) (w : World) (h3 : -9223372036854775808 ≤ extra) (h4 : extra ≤ 9223372036854775807) :
    Calls Try.prog 14 #[.int .i64 sym, .int .i64 extra] w fun e w' => e = .returned (.tuple #[.int .i64 (numV 257 longT sym extra), .int .i64 (numE 257 longT sym extra)]) ∧ Below w.heap.size w w' := by
  have hl : (longT).length = 29 := rfl
  by_cases h : sym < ((257 : Nat) : Int) ∨ ((257 : Nat) : Int) + (longT).length ≤ sym
  · have hE : numE 257 longT sym extra = 90 := by unfold numE; rw [if_pos h]
    have hV : numV 257 longT sym extra = 0 := by unfold numV; rw [hE]; rfl
    rw [hE, hV]
    exact rLongOf_bad sym extra w (by omega)
  · exact rLongOf_ok (sym - ((257 : Nat) : Int)).toNat extra w (by omega) sym (by omega) h3 h4

theorem FarBits_any (sym : Int) (w : World) (h1 : -9223372036854775808 ≤ sym) (h2 : sym ≤ 9223372036854775807) :
    Calls Try.prog 19 #[.int .i64 sym] w fun e w' => e = .returned (.tuple #[.int .i64 (bitN 0 farT sym), .int .i64 (bitE 0 farT sym)]) ∧ Below w.heap.size w w' := by
  have hl : (farT).length = 30 := rfl
  by_cases h : sym < ((0 : Nat) : Int) ∨ ((0 : Nat) : Int) + (farT).length ≤ sym
  · simp only [bitN, bitE, if_pos h]
    exact FarBits_bad sym w h1 h2 (by omega)
  · simp only [bitN, bitE, if_neg h]
    exact FarBits_ok (sym - ((0 : Nat) : Int)).toNat w (by omega) sym (by omega)
theorem rFarBits_any (sym : Int) (w : World) :
    Calls Try.prog 20 #[.int .i64 sym] w fun e w' => e = .returned (.tuple #[.int .i64 (bitN 0 farT sym), .int .i64 (bitE 0 farT sym)]) ∧ Below w.heap.size w w' := by
  have hl : (farT).length = 30 := rfl
  by_cases h : sym < ((0 : Nat) : Int) ∨ ((0 : Nat) : Int) + (farT).length ≤ sym
  · simp only [bitN, bitE, if_pos h]
    exact rFarBits_bad sym w (by omega)
  · simp only [bitN, bitE, if_neg h]
    exact rFarBits_ok (sym - ((0 : Nat) : Int)).toNat w (by omega) sym (by omega)
theorem rFarOf_any (sym extra : Int) (w : World) (h3 : -9223372036854775808 ≤ extra) (h4 : extra ≤ 9223372036854775807) :
    Calls Try.prog 16 #[.int .i64 sym, .int .i64 extra] w fun e w' => e = .returned (.tuple #[.int .i64 (numV 0 farT sym extra), .int .i64 (numE 0 farT sym extra)]) ∧ Below w.heap.size w w' := by
  have hl : (farT).length = 30 := rfl
  by_cases h : sym < ((0 : Nat) : Int) ∨ ((0 : Nat) : Int) + (farT).length ≤ sym
  · have hE : numE 0 farT sym extra = 90 := by unfold numE; rw [if_pos h]
    have hV : numV 0 farT sym extra = 0 := by unfold numV; rw [hE]; rfl
    rw [hE, hV]
    exact rFarOf_bad sym extra w (by omega)
  · exact rFarOf_ok (sym - ((0 : Nat) : Int)).toNat extra w (by omega) sym (by omega) h3 h4

set_option maxHeartbeats 1000000 in
theorem of_walk (sym extra : Int) (w : World) (h1 : -9223372036854775808 ≤ sym) (h2 : sym ≤ 9223372036854775807) (h3 : -9223372036854775808 ≤ extra) (h4 : extra ≤ 9223372036854775807) :
    Calls Try.prog 5 #[.int .i64 sym, .int .i64 extra] w fun e w' => e = .returned (.bool true) ∧ Below w.heap.size w w' := by
  go_enter Try.func5, Try.ntmps5
  go_wp2_with fail
  refine (LongOf_any sym extra _ h1 h2 h3 h4).mono ?_
  rintro e w1 ⟨rfl, hb1⟩
  have b1 := hb1
  go_wp2_with fail
  refine (rLongOf_any sym extra _ h3 h4).mono ?_
  rintro e w2 ⟨rfl, hb2⟩
  have b2 := b1.trans (hb2.mono b1.size)
  go_wp2_with fail
  refine (FarOf_any sym extra _ h1 h2 h3 h4).mono ?_
  rintro e w3 ⟨rfl, hb3⟩
  have b3 := b2.trans (hb3.mono b2.size)
  go_wp2_with fail
  refine (rFarOf_any sym extra _ h3 h4).mono ?_
  rintro e w4 ⟨rfl, hb4⟩
  have b4 := b3.trans (hb4.mono b3.size)
  go_wp2_with fail
  refine (LongBits_any sym _ h1 h2).mono ?_
  rintro e w5 ⟨rfl, hb5⟩
  have b5 := b4.trans (hb5.mono b4.size)
  go_wp2_with fail
  refine (rLongBits_any sym _).mono ?_
  rintro e w6 ⟨rfl, hb6⟩
  have b6 := b5.trans (hb6.mono b5.size)
  go_wp2_with fail
  refine (FarBits_any sym _ h1 h2).mono ?_
  rintro e w7 ⟨rfl, hb7⟩
  have b7 := b6.trans (hb7.mono b6.size)
  go_wp2_with fail
  refine (rFarBits_any sym _).mono ?_
  rintro e w8 ⟨rfl, hb8⟩
  have b8 := b7.trans (hb8.mono b7.size)
  clear hb1 hb2 hb3 hb4 hb5 hb6 hb7 hb8 b1 b2 b3 b4 b5 b6 b7
  generalize numE 257 longT sym extra = x1 at *
  generalize numV 257 longT sym extra = x2 at *
  generalize numE 0 farT sym extra = x3 at *
  generalize numV 0 farT sym extra = x4 at *
  generalize bitE 257 longT sym = x5 at *
  generalize bitN 257 longT sym = x6 at *
  generalize bitE 0 farT sym = x7 at *
  generalize bitN 0 farT sym = x8 at *
  go_wp2_with fail
  go_ret
  exact ⟨rfl, b8⟩
end Go.Proofs.Ytkeempohhpjenaa
