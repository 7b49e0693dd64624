/-
  ReachBack and ReachRises and ReachNames, walked.
-/
import Derived.Test.YtkeempohhpjenaaReachLawsB
namespace Go.Proofs.Ytkeempohhpjenaa
open Go.RowKit

theorem LongOf_is (sym extra v : Int) (w : World) (hE : numE 257 longT sym extra = 0) (hV : numV 257 longT sym extra = v) (h1 : -9223372036854775808 ≤ sym) (h2 : sym ≤ 9223372036854775807) (h3 : -9223372036854775808 ≤ extra) (h4 : extra ≤ 9223372036854775807) :
    Calls Try.prog 13 #[.int .i64 sym, .int .i64 extra] w fun e w' => e = .returned (.tuple #[.int .i64 v, .int .i64 0]) ∧ Below w.heap.size w w' := by
  have := LongOf_any sym extra w h1 h2 h3 h4
  rwa [hE, hV] at this
theorem LongOf_no (sym extra : Int) (E : Nat) (w : World) (hE : numE 257 longT sym extra = E) (h0 : E ≠ 0) (h1 : -9223372036854775808 ≤ sym) (h2 : sym ≤ 9223372036854775807) (h3 : -9223372036854775808 ≤ extra) (h4 : extra ≤ 9223372036854775807) :
    Calls Try.prog 13 #[.int .i64 sym, .int .i64 extra] w fun e w' => e = .returned (.tuple #[.int .i64 0, .int .i64 E]) ∧ Below w.heap.size w w' := by
  have := LongOf_any sym extra w h1 h2 h3 h4
  have hV : numV 257 longT sym extra = 0 := by unfold numV; rw [if_neg (by omega)]
  rwa [hE, hV] at this
theorem LongBits_is (i b : Nat) (w : World) (hi : i < 29) (hb : (rowT longT i).1 = b) (sym : Int) (hs : sym = 257 + i) :
    Calls Try.prog 17 #[.int .i64 sym] w fun e w' => e = .returned (.tuple #[.int .i64 b, .int .i64 0]) ∧ Below w.heap.size w w' := by
  have := LongBits_ok i w hi sym hs
  rwa [hb] at this
theorem Long_is (n : Int) (a b : Nat) (c s : Int) (w : World) (h : tellT 257 longT n = (a, b, c, 0)) (hs : s = a) (h1 : -9223372036854775808 ≤ n) (h2 : n ≤ 9223372036854775807) :
    Calls Try.prog 8 #[.int .i64 n] w fun e w' => e = .returned (.tuple #[.int .i64 s, .int .i64 b, .int .i64 c, .int .i64 0]) ∧ Below w.heap.size w w' := by
  have := Long_any n w h1 h2
  rw [h] at this
  rw [hs]
  exact this

theorem FarOf_is (sym extra v : Int) (w : World) (hE : numE 0 farT sym extra = 0) (hV : numV 0 farT sym extra = v) (h1 : -9223372036854775808 ≤ sym) (h2 : sym ≤ 9223372036854775807) (h3 : -9223372036854775808 ≤ extra) (h4 : extra ≤ 9223372036854775807) :
    Calls Try.prog 15 #[.int .i64 sym, .int .i64 extra] w fun e w' => e = .returned (.tuple #[.int .i64 v, .int .i64 0]) ∧ Below w.heap.size w w' := by
  have := FarOf_any sym extra w h1 h2 h3 h4
  rwa [hE, hV] at this
theorem FarOf_no (sym extra : Int) (E : Nat) (w : World) (hE : numE 0 farT sym extra = E) (h0 : E ≠ 0) (h1 : -9223372036854775808 ≤ sym) (h2 : sym ≤ 9223372036854775807) (h3 : -9223372036854775808 ≤ extra) (h4 : extra ≤ 9223372036854775807) :
    Calls Try.prog 15 #[.int .i64 sym, .int .i64 extra] w fun e w' => e = .returned (.tuple #[.int .i64 0, .int .i64 E]) ∧ Below w.heap.size w w' := by
  have := FarOf_any sym extra w h1 h2 h3 h4
  have hV : numV 0 farT sym extra = 0 := by unfold numV; rw [if_neg (by omega)]
  rwa [hE, hV] at this
theorem FarBits_is (i b : Nat) (w : World) (hi : i < 30) (hb : (rowT farT i).1 = b) (sym : Int) (hs : sym = i) :
    Calls Try.prog 19 #[.int .i64 sym] w fun e w' => e = .returned (.tuple #[.int .i64 b, .int .i64 0]) ∧ Below w.heap.size w w' := by
  have := FarBits_ok i w hi sym hs
  rwa [hb] at this
theorem Far_is (n : Int) (a b : Nat) (c s : Int) (w : World) (h : tellT 0 farT n = (a, b, c, 0)) (hs : s = a) (h1 : -9223372036854775808 ≤ n) (h2 : n ≤ 9223372036854775807) :
    Calls Try.prog 10 #[.int .i64 n] w fun e w' => e = .returned (.tuple #[.int .i64 s, .int .i64 b, .int .i64 c, .int .i64 0]) ∧ Below w.heap.size w w' := by
  have := Far_any n w h1 h2
  rw [h] at this
  rw [hs]
  exact this

set_option maxHeartbeats 2000000 in
set_option maxRecDepth 100000 in
theorem back_walk (n sym extra : Int) (w : World) (h1 : -9223372036854775808 ≤ n) (h2 : n ≤ 9223372036854775807) (h3 : -9223372036854775808 ≤ sym) (h4 : sym ≤ 9223372036854775807) (h5 : -9223372036854775808 ≤ extra) (h6 : extra ≤ 9223372036854775807) :
    Calls Try.prog 7 #[.int .i64 n, .int .i64 sym, .int .i64 extra] w fun e w' => e = .returned (.bool true) ∧ Below w.heap.size w w' := by
  have T1 := Lib.hid (tell_back rising_long 257 n)
  have T2 := Lib.hid (tell_back rising_far 0 n)
  have T3 := Lib.hid (num_back rising_long 257 sym extra)
  have T4 := Lib.hid (num_back rising_far 0 sym extra)
  have l1 : longT.length = 29 := rfl
  have l2 : farT.length = 30 := rfl
  have l3 : ∀ i, i < 29 → (rowT longT i).1 ≤ 13 ∧ lst longT i ≤ 100000 ∧ mny longT i ≤ 100000 := by decide
  have l4 : ∀ i, i < 30 → (rowT farT i).1 ≤ 13 ∧ lst farT i ≤ 100000 ∧ mny farT i ≤ 100000 := by decide
  have L := Lib.hid (And.intro l1 (And.intro l2 (And.intro l3 l4)))
  clear l1 l2 l3 l4
  go_enter Try.func7, Try.ntmps7
  go_wp2_with fail
  refine (alive_any _).mono ?_
  rintro e w0 ⟨rfl, b0⟩
  go_wp2_with fail
  refine (Long_any n _ h1 h2).mono ?_
  rintro e w1 ⟨rfl, hb1⟩
  have b1 := b0.trans (hb1.mono b0.size)
  clear b0 hb1
  go_upto_if 45 with (fail)
  go_cut [7, 8, 9, 10, 11] (fun s7 _s8 _s9 _s10 _s11 wx => s7 = .bool true ∧ Below w.heap.size w wx)
  case first =>
    by_cases he : (tellT 257 longT n).2.2.2 = 0
    · obtain ⟨i, hi, ht, hE, hV, hx0, hx1⟩ := T1.out he
      rw [ht]
      have hi' : i < 29 := by rw [← L.out.1]; exact hi
      obtain ⟨m1, m2, m3⟩ := L.out.2.2.1 i hi'
      have hp := pow2_le _ _ m1
      generalize hxx : n - (lst longT i : Int) = x at *
      generalize hrb : (rowT longT i).1 = rb at *
      obtain ⟨P, hP1, hP2⟩ : ∃ P : Nat, (2 : Int) ^ rb = (P : Int) ∧ 2 ^ rb = P := ⟨2 ^ rb, by simp, rfl⟩
      rw [hP2] at hp hx1
      have hw1 := IntWalk.i64_in (P : Int) (by omega)
      have c2 := fun w => LongOf_is (257 + i) x n w hE hV (by omega) (by omega) (by omega) (by omega)
      have c3 := fun w => LongBits_is i rb w hi' hrb (257 + i) rfl
      have C2 := Lib.hid c2; have C3 := Lib.hid c3
      clear hE hV ht hxx he hrb hP2 c2 c3
      go_wp2_with fail
      refine (C2.out _).mono ?_
      rintro e w2 ⟨rfl, hb2⟩
      have b2 := b1.trans (hb2.mono b1.size)
      clear hb2
      go_wp2_with fail
      refine (C3.out _).mono ?_
      rintro e w3 ⟨rfl, hb3⟩
      have b3 := b2.trans (hb3.mono b2.size)
      clear hb3 b2
      go_wp2_with fail
      go_meet
      exact ⟨rfl, b3⟩
    · have hef : (((tellT 257 longT n).2.2.2 : Int) == 0) = false := by rw [beq_eq_false_iff_ne]; omega
      generalize tellT 257 longT n = r at *
      go_wp2_with fail
      go_meet
      exact ⟨rfl, b1⟩
  case rest =>
    obtain ⟨rfl, bc⟩ := hcut
    clear b1
    go_wp2_with fail
    refine (Far_any n _ h1 h2).mono ?_
    rintro e w5 ⟨rfl, hb5⟩
    have b5 := bc.trans (hb5.mono bc.size)
    clear bc hb5
    go_upto_if 92 with (fail)
    go_cut [7, 16, 17, 18, 19] (fun s7 _s16 _s17 _s18 _s19 wx => s7 = .bool true ∧ Below w.heap.size w wx)
    case first =>
      by_cases he : (tellT 0 farT n).2.2.2 = 0
      · obtain ⟨i, hi, ht, hE, hV, hx0, hx1⟩ := T2.out he
        rw [ht]
        have hi' : i < 30 := by rw [← L.out.2.1]; exact hi
        obtain ⟨m1, m2, m3⟩ := L.out.2.2.2 i hi'
        have hp := pow2_le _ _ m1
        generalize hxx : n - (lst farT i : Int) = x at *
        generalize hrb : (rowT farT i).1 = rb at *
        obtain ⟨P, hP1, hP2⟩ : ∃ P : Nat, (2 : Int) ^ rb = (P : Int) ∧ 2 ^ rb = P := ⟨2 ^ rb, by simp, rfl⟩
        rw [hP2] at hp hx1
        have hw1 := IntWalk.i64_in (P : Int) (by omega)
        have c2 := fun w => FarOf_is (i) x n w (by simpa using hE) (by simpa using hV) (by omega) (by omega) (by omega) (by omega)
        have c3 := fun w => FarBits_is i rb w hi' hrb (i) rfl
        have C2 := Lib.hid c2; have C3 := Lib.hid c3
        clear hE hV ht hxx he hrb hP2 c2 c3
        rw [Nat.zero_add]
        go_wp2_with fail
        refine (C2.out _).mono ?_
        rintro e w2 ⟨rfl, hb2⟩
        have b2 := b5.trans (hb2.mono b5.size)
        clear hb2
        go_wp2_with fail
        refine (C3.out _).mono ?_
        rintro e w3 ⟨rfl, hb3⟩
        have b3 := b2.trans (hb3.mono b2.size)
        clear hb3 b2
        go_wp2_with fail
        go_meet
        exact ⟨rfl, b3⟩
      · have hef : (((tellT 0 farT n).2.2.2 : Int) == 0) = false := by rw [beq_eq_false_iff_ne]; omega
        generalize tellT 0 farT n = r at *
        go_wp2_with fail
        go_meet
        exact ⟨rfl, b5⟩
    case rest =>
      obtain ⟨rfl, bc⟩ := hcut
      clear b5
      by_cases hE : numE 257 longT sym extra = 0
      · obtain ⟨i, hi, hs, ht, hv, hx0, hx1⟩ := T3.out hE
        have hi' : i < 29 := by rw [← L.out.1]; exact hi
        obtain ⟨m1, m2, m3⟩ := L.out.2.2.1 i hi'
        generalize hV : numV 257 longT sym extra = v at *
        have c1 := fun w => LongOf_is sym extra v w hE hV h3 h4 h5 h6
        have c2 := fun w => Long_is v _ _ extra sym w ht (by omega) (by omega) (by omega)
        have C1 := Lib.hid c1; have C2 := Lib.hid c2
        clear hs ht hv hE hV c1 c2
        go_wp2_with fail
        refine (C1.out _).mono ?_
        rintro e w7 ⟨rfl, hb7⟩
        have b7 := bc.trans (hb7.mono bc.size)
        clear hb7
        go_wp2_with fail
        refine (C2.out _).mono ?_
        rintro e w8 ⟨rfl, hb8⟩
        have b8 := b7.trans (hb8.mono b7.size)
        clear hb8
        generalize rowT longT i = rr at *
        clear hi hi' hx0 hx1 m1 m2 m3
        by_cases hE : numE 0 farT sym extra = 0
        · obtain ⟨i, hi, hs, ht, hv, hx0, hx1⟩ := T4.out hE
          have hi' : i < 30 := by rw [← L.out.2.1]; exact hi
          obtain ⟨m1, m2, m3⟩ := L.out.2.2.2 i hi'
          generalize hV : numV 0 farT sym extra = v at *
          have c1 := fun w => FarOf_is sym extra v w hE hV h3 h4 h5 h6
          have c2 := fun w => Far_is v _ _ extra sym w ht (by omega) (by omega) (by omega)
          have D1 := Lib.hid c1; have D2 := Lib.hid c2
          clear hs ht hv hE hV c1 c2
          go_wp2_with fail
          refine (D1.out _).mono ?_
          rintro e v7 ⟨rfl, hb7⟩
          have a7 := b8.trans (hb7.mono b8.size)
          clear hb7
          go_wp2_with fail
          refine (D2.out _).mono ?_
          rintro e v8 ⟨rfl, hb8⟩
          have a8 := a7.trans (hb8.mono a7.size)
          clear hb8
          go_wp2_with fail
          go_ret
          exact ⟨rfl, a8⟩
        · generalize hE' : numE 0 farT sym extra = E at *
          have hEf : ((E : Int) != 0) = true := by rw [bne_iff_ne]; omega
          have c1 := fun w => FarOf_no sym extra E w hE' hE h3 h4 h5 h6
          have D1 := Lib.hid c1
          clear hE hE' c1
          go_wp2_with fail
          refine (D1.out _).mono ?_
          rintro e v7 ⟨rfl, hb7⟩
          have a7 := b8.trans (hb7.mono b8.size)
          clear hb7
          go_wp2_with fail
          go_ret
          exact ⟨rfl, a7⟩
      · generalize hE' : numE 257 longT sym extra = E at *
        have hEf : ((E : Int) == 0) = false := by rw [beq_eq_false_iff_ne]; omega
        have c1 := fun w => LongOf_no sym extra E w hE' hE h3 h4 h5 h6
        have C1 := Lib.hid c1
        clear hE hE' c1
        go_wp2_with fail
        refine (C1.out _).mono ?_
        rintro e w7 ⟨rfl, hb7⟩
        have b7 := bc.trans (hb7.mono bc.size)
        clear hb7
        by_cases hE : numE 0 farT sym extra = 0
        · obtain ⟨i, hi, hs, ht, hv, hx0, hx1⟩ := T4.out hE
          have hi' : i < 30 := by rw [← L.out.2.1]; exact hi
          obtain ⟨m1, m2, m3⟩ := L.out.2.2.2 i hi'
          generalize hV : numV 0 farT sym extra = v at *
          have c1 := fun w => FarOf_is sym extra v w hE hV h3 h4 h5 h6
          have c2 := fun w => Far_is v _ _ extra sym w ht (by omega) (by omega) (by omega)
          have D1 := Lib.hid c1; have D2 := Lib.hid c2
          clear hs ht hv hE hV c1 c2
          go_wp2_with fail
          refine (D1.out _).mono ?_
          rintro e v7 ⟨rfl, hb7⟩
          have a7 := b7.trans (hb7.mono b7.size)
          clear hb7
          go_wp2_with fail
          refine (D2.out _).mono ?_
          rintro e v8 ⟨rfl, hb8⟩
          have a8 := a7.trans (hb8.mono a7.size)
          clear hb8
          go_wp2_with fail
          go_ret
          exact ⟨rfl, a8⟩
        · generalize hE' : numE 0 farT sym extra = E at *
          have hEf : ((E : Int) != 0) = true := by rw [bne_iff_ne]; omega
          have c1 := fun w => FarOf_no sym extra E w hE' hE h3 h4 h5 h6
          have D1 := Lib.hid c1
          clear hE hE' c1
          go_wp2_with fail
          refine (D1.out _).mono ?_
          rintro e v7 ⟨rfl, hb7⟩
          have a7 := b7.trans (hb7.mono b7.size)
          clear hb7
          go_wp2_with fail
          go_ret
          exact ⟨rfl, a7⟩
end Go.Proofs.Ytkeempohhpjenaa
