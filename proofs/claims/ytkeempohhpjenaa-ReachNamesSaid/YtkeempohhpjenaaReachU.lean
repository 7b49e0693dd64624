/-
  Walks: Long, Far, LongBits, FarBits, LongOf, FarOf.
-/
import Derived.Test.YtkeempohhpjenaaReachC
namespace Go.Proofs.Ytkeempohhpjenaa
open Go.RowKit

set_option maxHeartbeats 400000 in
theorem Long_any (n : Int) (w : World) (h1 : -9223372036854775808 ≤ n) (h2 : n ≤ 9223372036854775807) :
    Calls Try.prog 8 #[.int .i64 n] w fun e w' => 
      e = .returned (.tuple #[.int .i64 (tellT 257 longT n).1, .int .i64 (tellT 257 longT n).2.1, .int .i64 (tellT 257 longT n).2.2.1, .int .i64 (tellT 257 longT n).2.2.2]) ∧ Below w.heap.size w w' := by
  go_enter Try.func8, Try.ntmps8
  go_wp2_with fail
  refine (longs_any _).mono ?_
  rintro e w1 ⟨A1, c1, rfl, hown, hb1⟩
  go_wp2_with fail
  refine (tell_any 257 longT n A1 c1 _ (Sl.of_own hown) (by decide) (by decide) (by decide) h1 h2).mono ?_
  rintro e w2 ⟨rfl, hb2⟩
  have hb : Below w.heap.size w w2 := hb1.trans (hb2.mono hb1.size)
  generalize hr : tellT 257 longT n = r at *
  have Hr := Lib.hid hr; clear hr hown hb1 hb2
  go_wp2_with fail
  exact bodyPost_ret (v := .tuple #[.int .i64 r.1, .int .i64 r.2.1, .int .i64 r.2.2.1, .int .i64 r.2.2.2]) (by simp [results, Try.results8, go_sem]) rfl ⟨by rw [Hr.out], hb⟩

set_option maxHeartbeats 400000 in
theorem LongOf_any (sym extra : Int) (w : World) (h1 : -9223372036854775808 ≤ sym) (h2 : sym ≤ 9223372036854775807) (h3 : -9223372036854775808 ≤ extra) (h4 : extra ≤ 9223372036854775807) :
    Calls Try.prog 13 #[.int .i64 sym, .int .i64 extra] w fun e w' => 
      e = .returned (.tuple #[.int .i64 (numV 257 longT sym extra), .int .i64 (numE 257 longT sym extra)]) ∧ Below w.heap.size w w' := by
  go_enter Try.func13, Try.ntmps13
  go_wp2_with fail
  refine (longs_any _).mono ?_
  rintro e w1 ⟨A1, c1, rfl, hown, hb1⟩
  go_wp2_with fail
  refine (number_any 257 longT sym extra A1 c1 _ (Sl.of_own hown) (by decide) (by decide) (by decide) h1 h2 h3 h4).mono ?_
  rintro e w2 ⟨rfl, hb2⟩
  have hb : Below w.heap.size w w2 := hb1.trans (hb2.mono hb1.size)
  clear hown hb1 hb2
  go_wp2_with fail
  go_ret2
  exact ⟨rfl, hb⟩

set_option maxHeartbeats 400000 in
theorem LongBits_bad (sym : Int) (w : World) (h1 : -9223372036854775808 ≤ sym) (h2 : sym ≤ 9223372036854775807) (h : sym < 257 ∨ 285 < sym) :
    Calls Try.prog 17 #[.int .i64 sym] w fun e w' => e = .returned (.tuple #[.int .i64 0, .int .i64 90]) ∧ Below w.heap.size w w' := by
  have hx : sym < ((257 : Nat) : Int) ∨ ((257 : Nat) : Int) + (longT).length ≤ sym := by
    have : (longT).length = 29 := rfl
    omega
  have H := Lib.hid hx; clear hx h
  go_enter Try.func17, Try.ntmps17
  go_wp2_with fail
  refine (longs_any _).mono ?_
  rintro e w1 ⟨A1, c1, rfl, hown, hb1⟩
  go_wp2_with fail
  refine (symbol_no 257 longT sym A1 c1 _ (by decide) (by decide) h1 h2 H.out).mono ?_
  rintro e w2 ⟨rfl, hb2⟩
  have hb : Below w.heap.size w w2 := hb1.trans (hb2.mono hb1.size)
  clear hown hb1 hb2
  go_wp2_with fail
  go_ret2
  exact ⟨rfl, hb.alloc hb.size _⟩

set_option maxHeartbeats 400000 in
theorem LongBits_ok (i : Nat) (w : World) (hi : i < 29) (sym : Int) (hsym : sym = (257 + i : Int)) :
    Calls Try.prog 17 #[.int .i64 sym] w fun e w' => e = .returned (.tuple #[.int .i64 (rowT longT i).1, .int .i64 0]) ∧ Below w.heap.size w w' := by
  subst hsym
  go_enter Try.func17, Try.ntmps17
  go_wp2_with fail
  refine (longs_any _).mono ?_
  rintro e w1 ⟨A1, c1, rfl, hown, hb1⟩
  go_wp2_with fail
  refine (symbol_yes 257 i longT A1 c1 _ (Sl.of_own hown) (by decide) (by decide) hi _ (by simp)).mono ?_
  rintro e w2 ⟨rfl, hb2⟩
  have hb : Below w.heap.size w w2 := hb1.trans (hb2.mono hb1.size)
  generalize hr : rowT longT i = r at *
  have Hr := Lib.hid hr; clear hr hown hb1 hb2
  go_wp2_with fail
  go_ret2
  exact ⟨by rw [Hr.out]; rfl, hb.alloc hb.size _⟩

set_option maxHeartbeats 400000 in
theorem Far_any (n : Int) (w : World) (h1 : -9223372036854775808 ≤ n) (h2 : n ≤ 9223372036854775807) :
    Calls Try.prog 10 #[.int .i64 n] w fun e w' => 
      e = .returned (.tuple #[.int .i64 (tellT 0 farT n).1, .int .i64 (tellT 0 farT n).2.1, .int .i64 (tellT 0 farT n).2.2.1, .int .i64 (tellT 0 farT n).2.2.2]) ∧ Below w.heap.size w w' := by
  go_enter Try.func10, Try.ntmps10
  go_wp2_with fail
  refine (fars_any _).mono ?_
  rintro e w1 ⟨A1, c1, rfl, hown, hb1⟩
  go_wp2_with fail
  refine (tell_any 0 farT n A1 c1 _ (Sl.of_own hown) (by decide) (by decide) (by decide) h1 h2).mono ?_
  rintro e w2 ⟨rfl, hb2⟩
  have hb : Below w.heap.size w w2 := hb1.trans (hb2.mono hb1.size)
  generalize hr : tellT 0 farT n = r at *
  have Hr := Lib.hid hr; clear hr hown hb1 hb2
  go_wp2_with fail
  exact bodyPost_ret (v := .tuple #[.int .i64 r.1, .int .i64 r.2.1, .int .i64 r.2.2.1, .int .i64 r.2.2.2]) (by simp [results, Try.results10, go_sem]) rfl ⟨by rw [Hr.out], hb⟩

set_option maxHeartbeats 400000 in
theorem FarOf_any (sym extra : Int) (w : World) (h1 : -9223372036854775808 ≤ sym) (h2 : sym ≤ 9223372036854775807) (h3 : -9223372036854775808 ≤ extra) (h4 : extra ≤ 9223372036854775807) :
    Calls Try.prog 15 #[.int .i64 sym, .int .i64 extra] w fun e w' => 
      e = .returned (.tuple #[.int .i64 (numV 0 farT sym extra), .int .i64 (numE 0 farT sym extra)]) ∧ Below w.heap.size w w' := by
  go_enter Try.func15, Try.ntmps15
  go_wp2_with fail
  refine (fars_any _).mono ?_
  rintro e w1 ⟨A1, c1, rfl, hown, hb1⟩
  go_wp2_with fail
  refine (number_any 0 farT sym extra A1 c1 _ (Sl.of_own hown) (by decide) (by decide) (by decide) h1 h2 h3 h4).mono ?_
  rintro e w2 ⟨rfl, hb2⟩
  have hb : Below w.heap.size w w2 := hb1.trans (hb2.mono hb1.size)
  clear hown hb1 hb2
  go_wp2_with fail
  go_ret2
  exact ⟨rfl, hb⟩

set_option maxHeartbeats 400000 in
theorem FarBits_bad (sym : Int) (w : World) (h1 : -9223372036854775808 ≤ sym) (h2 : sym ≤ 9223372036854775807) (h : sym < 0 ∨ 29 < sym) :
    Calls Try.prog 19 #[.int .i64 sym] w fun e w' => e = .returned (.tuple #[.int .i64 0, .int .i64 90]) ∧ Below w.heap.size w w' := by
  have hx : sym < ((0 : Nat) : Int) ∨ ((0 : Nat) : Int) + (farT).length ≤ sym := by
    have : (farT).length = 30 := rfl
    omega
  have H := Lib.hid hx; clear hx h
  go_enter Try.func19, Try.ntmps19
  go_wp2_with fail
  refine (fars_any _).mono ?_
  rintro e w1 ⟨A1, c1, rfl, hown, hb1⟩
  go_wp2_with fail
  refine (symbol_no 0 farT sym A1 c1 _ (by decide) (by decide) h1 h2 H.out).mono ?_
  rintro e w2 ⟨rfl, hb2⟩
  have hb : Below w.heap.size w w2 := hb1.trans (hb2.mono hb1.size)
  clear hown hb1 hb2
  go_wp2_with fail
  go_ret2
  exact ⟨rfl, hb.alloc hb.size _⟩

set_option maxHeartbeats 400000 in
theorem FarBits_ok (i : Nat) (w : World) (hi : i < 30) (sym : Int) (hsym : sym = (i : Int)) :
    Calls Try.prog 19 #[.int .i64 sym] w fun e w' => e = .returned (.tuple #[.int .i64 (rowT farT i).1, .int .i64 0]) ∧ Below w.heap.size w w' := by
  subst hsym
  go_enter Try.func19, Try.ntmps19
  go_wp2_with fail
  refine (fars_any _).mono ?_
  rintro e w1 ⟨A1, c1, rfl, hown, hb1⟩
  go_wp2_with fail
  refine (symbol_yes 0 i farT A1 c1 _ (Sl.of_own hown) (by decide) (by decide) hi _ (by simp)).mono ?_
  rintro e w2 ⟨rfl, hb2⟩
  have hb : Below w.heap.size w w2 := hb1.trans (hb2.mono hb1.size)
  generalize hr : rowT farT i = r at *
  have Hr := Lib.hid hr; clear hr hown hb1 hb2
  go_wp2_with fail
  go_ret2
  exact ⟨by rw [Hr.out]; rfl, hb.alloc hb.size _⟩
end Go.Proofs.Ytkeempohhpjenaa
