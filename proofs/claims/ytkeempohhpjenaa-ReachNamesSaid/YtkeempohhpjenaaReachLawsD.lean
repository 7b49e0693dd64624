/-
  ReachRises and ReachNames, walked.
-/
import Derived.Test.YtkeempohhpjenaaReachLawsC
namespace Go.Proofs.Ytkeempohhpjenaa
open Go.RowKit

theorem rises_long (n m : Int) (r s : Nat × Nat × Int × Nat) (hr : tellT 257 longT n = r) (hs : tellT 257 longT m = s) (h1 : r.2.2.2 = 0) (h2 : s.2.2.2 = 0) (h : n < m) :
    r.1 ≤ s.1 ∧ (m < 258 → r.2.1 ≤ s.2.1) ∧ (r.1 = s.1 → r.2.2.1 < s.2.2.1) := by
  subst hr hs
  obtain ⟨i, j, hij, hj, e1, e2, hlt⟩ := tell_rises rising_long 257 n m h1 h2 h
  rw [e1, e2]
  have hb : ∀ j, j < 29 → (j < 28 → ∀ i, i ≤ j → (rowT longT i).1 ≤ (rowT longT j).1) := by decide
  have hl : longT.length = 29 := rfl
  refine ⟨by dsimp only; omega, fun hm => ?_, fun he => ?_⟩
  · dsimp only
    by_cases hj28 : j < 28
    · exact hb j (by omega) hj28 i hij
    · obtain rfl : j = 28 := by omega
      have l28 : lst longT 28 = 258 := rfl
      have : (tellT 257 longT m).2.2.1 = m - lst longT 28 := by rw [e2]
      -- m is at least 258
      have h0 : ¬ (m < lst longT 0 ∨ (endT longT : Int) ≤ m) := fun ho => by rw [tell_out rising_long 257 m ho] at h2; cases h2
      obtain ⟨k, hk, k1, k2, _, k4⟩ := tell_in rising_long 257 m (by omega) (by omega)
      rw [e2] at k4
      injection k4 with k4 _
      have : k = 28 := by omega
      subst this
      omega
  · dsimp only at he ⊢
    obtain rfl : i = j := by omega
    omega

theorem rises_far (n m : Int) (r s : Nat × Nat × Int × Nat) (hr : tellT 0 farT n = r) (hs : tellT 0 farT m = s) (h1 : r.2.2.2 = 0) (h2 : s.2.2.2 = 0) (h : n < m) :
    r.1 ≤ s.1 ∧ r.2.1 ≤ s.2.1 ∧ (r.1 < s.1 ∨ r.2.2.1 < s.2.2.1) := by
  subst hr hs
  obtain ⟨i, j, hij, hj, e1, e2, hlt⟩ := tell_rises rising_far 0 n m h1 h2 h
  rw [e1, e2]
  have hb : ∀ j, j < 30 → ∀ i, i ≤ j → (rowT farT i).1 ≤ (rowT farT j).1 := by decide
  have hl : farT.length = 30 := rfl
  refine ⟨by dsimp only; omega, hb j (by omega) i hij, ?_⟩
  dsimp only
  by_cases he : i = j
  · subst he; exact .inr (by omega)
  · exact .inl (by omega)

set_option maxHeartbeats 2000000 in
set_option maxRecDepth 100000 in
theorem rises_walk (n m : Int) (w : World) (h1 : -9223372036854775808 ≤ n) (h2 : n ≤ 9223372036854775807) (h3 : -9223372036854775808 ≤ m) (h4 : m ≤ 9223372036854775807) :
    Calls Try.prog 4 #[.int .i64 n, .int .i64 m] w fun e w' => e = .returned (.bool true) ∧ Below w.heap.size w w' := by
  go_enter Try.func4, Try.ntmps4
  go_wp2_with fail
  refine (alive_any _).mono ?_
  rintro e w0 ⟨rfl, b0⟩
  go_wp2_with fail
  refine (Long_any n _ h1 h2).mono ?_
  rintro e w1 ⟨rfl, hb1⟩
  have b1 := b0.trans (hb1.mono b0.size)
  clear b0 hb1
  go_wp2_with fail
  refine (Long_any m _ h3 h4).mono ?_
  rintro e w2 ⟨rfl, hb2⟩
  have b2 := b1.trans (hb2.mono b1.size)
  clear b1 hb2
  have F := Lib.hid (fun a b c => rises_long n m _ _ rfl rfl a b c)
  generalize tellT 257 longT n = r at *
  generalize tellT 257 longT m = s at *
  obtain ⟨a, b, x, e⟩ := r
  obtain ⟨c, d, y, f⟩ := s
  go_upto_region 4 with (fail)
  go_cut [71] (fun s71 wx => s71 = .bool false ∧ Below w.heap.size w wx)
  case first =>
    by_cases he : e = 0
    · subst he
      by_cases hf : f = 0
      · subst hf
        by_cases hnm : n < m
        · obtain ⟨f1, f2, f3⟩ := F.out rfl rfl hnm
          try dsimp only at f1 f2 f3
          clear F
          by_cases hm : m < 258
          · have f2 := f2 hm
            by_cases hac : a = c
            · have f3 := f3 hac
              subst hac
              go_wp2_with fail
              go_meet
              exact ⟨by first | rfl | (simp; done) | (simp; omega), b2⟩
            · have hac' : ((a : Int) == (c : Int)) = false := by rw [beq_eq_false_iff_ne]; omega
              have hac2 : a < c := by omega
              clear f3
              go_wp2_with fail
              go_meet
              exact ⟨by first | rfl | (simp; done) | (simp; omega), b2⟩
          · clear f2
            by_cases hac : a = c
            · have f3 := f3 hac
              subst hac
              go_wp2_with fail
              go_meet
              exact ⟨by first | rfl | (simp; done) | (simp; omega), b2⟩
            · have hac' : ((a : Int) == (c : Int)) = false := by rw [beq_eq_false_iff_ne]; omega
              have hac2 : a < c := by omega
              clear f3
              go_wp2_with fail
              go_meet
              exact ⟨by first | rfl | (simp; done) | (simp; omega), b2⟩
        · clear F
          go_wp2_with fail
          go_meet
          exact ⟨by first | rfl | (simp; done) | (simp; omega), b2⟩
      · have hf' : ((f : Int) == 0) = false := by rw [beq_eq_false_iff_ne]; omega
        clear F
        go_wp2_with fail
        go_meet
        exact ⟨by first | rfl | (simp; done) | (simp; omega), b2⟩
    · have he' : ((e : Int) == 0) = false := by rw [beq_eq_false_iff_ne]; omega
      clear F
      go_wp2_with fail
      go_meet
      exact ⟨by first | rfl | (simp; done) | (simp; omega), b2⟩
  case rest =>
    obtain ⟨rfl, bc⟩ := hcut
    clear F b2
    go_wp2_with fail
    refine (Far_any n _ h1 h2).mono ?_
    rintro e w3 ⟨rfl, hb3⟩
    have b3 := bc.trans (hb3.mono bc.size)
    clear bc hb3
    go_wp2_with fail
    refine (Far_any m _ h3 h4).mono ?_
    rintro e w4 ⟨rfl, hb4⟩
    have b4 := b3.trans (hb4.mono b3.size)
    clear b3 hb4
    have F := Lib.hid (fun a b c => rises_far n m _ _ rfl rfl a b c)
    generalize tellT 0 farT n = r at *
    generalize tellT 0 farT m = s at *
    obtain ⟨a, b, x, e⟩ := r
    obtain ⟨c, d, y, f⟩ := s
    by_cases he : e = 0
    · subst he
      by_cases hf : f = 0
      · subst hf
        by_cases hnm : n < m
        · obtain ⟨f1, f2, f3⟩ := F.out rfl rfl hnm
          try dsimp only at f1 f2 f3
          clear F
          by_cases hac : a < c
          · clear f3
            go_wp2_with fail
            go_ret
            exact ⟨rfl, b4⟩
          · have f3 : x < y := by omega
            go_wp2_with fail
            go_ret
            exact ⟨rfl, b4⟩
        · clear F
          go_wp2_with fail
          go_ret
          exact ⟨rfl, b4⟩
      · have hf' : ((f : Int) != 0) = true := by rw [bne_iff_ne]; omega
        clear F
        go_wp2_with fail
        go_ret
        exact ⟨rfl, b4⟩
    · have he' : ((e : Int) != 0) = true := by rw [bne_iff_ne]; omega
      clear F
      go_wp2_with fail
      go_ret
      exact ⟨rfl, b4⟩

theorem Long_no (n : Int) (w : World) (h : tellT 257 longT n = (0, 0, 0, 2)) (h1 : -9223372036854775808 ≤ n) (h2 : n ≤ 9223372036854775807) :
    Calls Try.prog 8 #[.int .i64 n] w fun e w' => e = .returned (.tuple #[.int .i64 0, .int .i64 0, .int .i64 0, .int .i64 2]) ∧ Below w.heap.size w w' := by
  have := Long_any n w h1 h2
  rw [h] at this
  exact this

theorem Far_no (n : Int) (w : World) (h : tellT 0 farT n = (0, 0, 0, 2)) (h1 : -9223372036854775808 ≤ n) (h2 : n ≤ 9223372036854775807) :
    Calls Try.prog 10 #[.int .i64 n] w fun e w' => e = .returned (.tuple #[.int .i64 0, .int .i64 0, .int .i64 0, .int .i64 2]) ∧ Below w.heap.size w w' := by
  have := Far_any n w h1 h2
  rw [h] at this
  exact this

set_option maxHeartbeats 2000000 in
set_option maxRecDepth 100000 in
theorem names_walk (w : World) :
    Calls Try.prog 6 #[] w fun e w' => e = .returned (.bool true) ∧ Below w.heap.size w w' := by
  go_enter Try.func6, Try.ntmps6
  go_wp2_with fail
  refine (long_yes 3 257 0 0 _ (by omega) (by omega) _ rfl (by decide) (by decide) (by decide) (by decide)).mono ?_
  rintro e w1 ⟨rfl, hb1⟩
  have b1 := hb1
  go_wp2_with fail
  refine (long_yes 257 284 5 30 _ (by omega) (by omega) _ rfl (by decide) (by decide) (by decide) (by decide)).mono ?_
  rintro e w2 ⟨rfl, hb2⟩
  have b2 := b1.trans (hb2.mono b1.size)
  clear b1 hb2
  go_wp2_with fail
  refine (long_yes 258 285 0 0 _ (by omega) (by omega) _ rfl (by decide) (by decide) (by decide) (by decide)).mono ?_
  rintro e w3 ⟨rfl, hb3⟩
  have b3 := b2.trans (hb3.mono b2.size)
  clear b2 hb3
  go_wp2_with fail
  refine (far_yes 1 0 0 0 _ (by omega) (by omega) _ rfl (by decide) (by decide) (by decide) (by decide)).mono ?_
  rintro e w4 ⟨rfl, hb4⟩
  have b4 := b3.trans (hb4.mono b3.size)
  clear b3 hb4
  go_wp2_with fail
  refine (far_yes 32768 29 13 8191 _ (by omega) (by omega) _ rfl (by decide) (by decide) (by decide) (by decide)).mono ?_
  rintro e w5 ⟨rfl, hb5⟩
  have b5 := b4.trans (hb5.mono b4.size)
  clear b4 hb5
  go_wp2_with fail
  refine (LongOf_is 265 1 12 _ (by decide) (by decide) (by omega) (by omega) (by omega) (by omega)).mono ?_
  rintro e w6 ⟨rfl, hb6⟩
  have b6 := b5.trans (hb6.mono b5.size)
  clear b5 hb6
  go_wp2_with fail
  refine (LongOf_no 284 31 90 _ (by decide) (by decide) (by omega) (by omega) (by omega) (by omega)).mono ?_
  rintro e w7 ⟨rfl, hb7⟩
  have b7 := b6.trans (hb7.mono b6.size)
  clear b6 hb7
  go_wp2_with fail
  refine (LongOf_no 265 2 2 _ (by decide) (by decide) (by omega) (by omega) (by omega) (by omega)).mono ?_
  rintro e w8 ⟨rfl, hb8⟩
  have b8 := b7.trans (hb8.mono b7.size)
  clear b7 hb8
  go_wp2_with fail
  refine (LongOf_no 256 0 90 _ (by decide) (by decide) (by omega) (by omega) (by omega) (by omega)).mono ?_
  rintro e w9 ⟨rfl, hb9⟩
  have b9 := b8.trans (hb9.mono b8.size)
  clear b8 hb9
  go_wp2_with fail
  refine (FarOf_is 4 0 5 _ (by decide) (by decide) (by omega) (by omega) (by omega) (by omega)).mono ?_
  rintro e w10 ⟨rfl, hb10⟩
  have b10 := b9.trans (hb10.mono b9.size)
  clear b9 hb10
  go_wp2_with fail
  refine (FarOf_no 30 0 90 _ (by decide) (by decide) (by omega) (by omega) (by omega) (by omega)).mono ?_
  rintro e w11 ⟨rfl, hb11⟩
  have b11 := b10.trans (hb11.mono b10.size)
  clear b10 hb11
  go_wp2_with fail
  refine (FarBits_is 29 13 _ (by decide) (by decide) 29 rfl).mono ?_
  rintro e w12 ⟨rfl, hb12⟩
  have b12 := b11.trans (hb12.mono b11.size)
  clear b11 hb12
  go_wp2_with fail
  refine (Long_no 2 _ (by decide) (by omega) (by omega)).mono ?_
  rintro e w13 ⟨rfl, hb13⟩
  have b13 := b12.trans (hb13.mono b12.size)
  clear b12 hb13
  go_wp2_with fail
  refine (Far_no 0 _ (by decide) (by omega) (by omega)).mono ?_
  rintro e w14 ⟨rfl, hb14⟩
  have b14 := b13.trans (hb14.mono b13.size)
  clear b13 hb14
  go_wp2_with fail
  refine (alive_any _).mono ?_
  rintro e w15 ⟨rfl, hb15⟩
  have b15 := b14.trans (hb15.mono b14.size)
  clear b14 hb15
  go_wp2_with fail
  go_ret
  exact ⟨rfl, b15⟩
end Go.Proofs.Ytkeempohhpjenaa
