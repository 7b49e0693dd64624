/-
  Walks: the reference's LongOf and FarOf.
-/
import Derived.Test.YtkeempohhpjenaaReachS
namespace Go.Proofs.Ytkeempohhpjenaa
open Go.RowKit

set_option maxHeartbeats 1600000 in
set_option maxRecDepth 100000 in
theorem rLongOf_ok (i : Nat) (extra : Int) (w : World) (hi : i < 29) (sym : Int) (hsym : sym = 257 + i) (h3 : -9223372036854775808 ≤ extra) (h4 : extra ≤ 9223372036854775807) :
    Calls Try.prog 14 #[.int .i64 sym, .int .i64 extra] w fun e w' => e = .returned (.tuple #[.int .i64 (numV 257 longT sym extra), .int .i64 (numE 257 longT sym extra)]) ∧ Below w.heap.size w w' := by
  have hn : ¬ (sym < ((257 : Nat) : Int) ∨ ((257 : Nat) : Int) + (longT).length ≤ sym) := by
    have : (longT).length = 29 := rfl
    omega
  have ei : (sym - ((257 : Nat) : Int)).toNat = i := by omega
  have hE : numE 257 longT sym extra = if extra < 0 ∨ ((2 ^ (rowT longT i).1 : Nat) : Int) ≤ extra then 2 else if ((rowT longT i).2.2 : Int) ≤ extra then 90 else 0 := by simp only [numE, if_neg hn, ei]
  have hV : numV 257 longT sym extra = if numE 257 longT sym extra = 0 then (rowT longT i).2.1 + extra else 0 := by simp only [numV, ei]
  have hrow : (rowT longT i).1 ≤ 20 ∧ (rowT longT i).2.1 ≤ 100000 ∧ ((rowT longT i).2.2 = 2 ^ (rowT longT i).1 ∨ i = 27 ∧ (rowT longT i).1 = 5 ∧ (rowT longT i).2.2 = 31) := by
    have : ∀ k, k < 29 → (rowT longT k).1 ≤ 20 ∧ (rowT longT k).2.1 ≤ 100000 ∧ ((rowT longT k).2.2 = 2 ^ (rowT longT k).1 ∨ k = 27 ∧ (rowT longT k).1 = 5 ∧ (rowT longT k).2.2 = 31) := by decide
    exact this i hi
  have e1 : ((257 : Int) + i - 257) = i := by omega
  have hsy := fun w => rLongBits_ok i w hi sym hsym
  generalize numE 257 longT sym extra = E at *
  generalize numV 257 longT sym extra = V at *
  have hrd := rowT longT i
  generalize hr : rowT longT i = r at *
  have Hr := Lib.hid hr; clear hr hrd
  obtain ⟨rb, rl, rm⟩ := r
  dsimp only at hrow hE hV hsy
  obtain ⟨hr1, hr2, hr3⟩ := hrow
  have HS := Lib.hid hsy
  clear hsy hn ei
  subst hsym
  by_cases ha : extra < 0
  · obtain rfl : E = 2 := by rw [hE]; simp [ha]
    obtain rfl : V = 0 := by rw [hV]; simp
    clear hE hV hr3
    go_enter Try.func14, Try.ntmps14
    go_wp2_with fail
    refine (HS.out _).mono ?_
    rintro e w1 ⟨rfl, hb1⟩
    go_wp2_with fail
    go_ret2
    exact ⟨rfl, hb1⟩
  · have hp : 2 ^ rb ≤ 2 ^ 20 := pow2_le _ _ hr1
    generalize hP : 2 ^ rb = P at *
    have HP := Lib.hid hP; clear hP
    by_cases hb : (P : Int) ≤ extra
    · obtain rfl : E = 2 := by rw [hE]; simp [hb]
      obtain rfl : V = 0 := by rw [hV]; simp
      clear hE hV hr3
      go_enter Try.func14, Try.ntmps14
      go_wp2_with fail
      refine (HS.out _).mono ?_
      rintro e w1 ⟨rfl, hb1⟩
      go_wp2_with fail
      refine (rpower_any rb _ (by omega)).mono ?_
      rintro e w2 ⟨rfl, rfl⟩
      rw [HP.out]
      go_wp2_with fail
      go_ret2
      exact ⟨rfl, hb1⟩
    · have hp2 : 0 < P := by rw [← HP.out]; exact Nat.two_pow_pos _
      by_cases hc : (rm : Int) ≤ extra
      · obtain rfl : E = 90 := by rw [hE]; simp [ha, hb, hc]
        obtain rfl : V = 0 := by rw [hV]; simp
        have h27 : i = 27 ∧ extra = 31 := by
          have h9 := HP.out
          rcases hr3 with h | ⟨rfl, h5, h31⟩
          · omega
          · subst h5; omega
        obtain ⟨rfl, rfl⟩ := h27
        clear hE hV hr3
        go_enter Try.func14, Try.ntmps14
        go_wp2_with fail
        refine (HS.out _).mono ?_
        rintro e w1 ⟨rfl, hb1⟩
        go_wp2_with fail
        refine (rpower_any rb _ (by omega)).mono ?_
        rintro e w2 ⟨rfl, rfl⟩
        rw [HP.out]
        go_wp2_with fail
        go_ret2
        exact ⟨rfl, hb1⟩
      · by_cases h27 : i = 27
        · subst h27
          have h31 : (extra == 31) = false := by
            rw [beq_eq_false_iff_ne]
            rcases hr3 with h | ⟨_, h5, h31⟩
            · have : rowT longT 27 = (5, 227, 31) := rfl
              rw [Hr.out] at this
              injection this with _ this
              injection this with _ this
              omega
            · omega
          obtain rfl : E = 0 := by rw [hE]; simp [ha, hb, hc]
          obtain rfl : V = rl + extra := by rw [hV]; simp
          clear hE hV hr3
          go_enter Try.func14, Try.ntmps14
          go_wp2_with fail
          refine (HS.out _).mono ?_
          rintro e w1 ⟨rfl, hb1⟩
          go_wp2_with fail
          refine (rpower_any rb _ (by omega)).mono ?_
          rintro e w2 ⟨rfl, rfl⟩
          rw [HP.out]
          go_wp2_with fail
          refine (rlongs_any _).mono ?_
          rintro e w3 ⟨rfl, hb3⟩
          have hb0 : Below w.heap.size w w3 := hb1.trans (hb3.mono hb1.size)
          clear hb1 hb3
          go_wp2_with (first
         | (refine wpList_store_new2 rfl _ _ _ rfl _ (leastsV longT) rfl rfl (by simp) _ _ _ (by kernel_rfl) rfl (by kernel_rfl) ?_)
         | (refine wpList_store_new rfl _ _ _ rfl _ (bitsV longT) rfl rfl (by simp) _ _ (by kernel_rfl) rfl (by kernel_rfl) ?_
            have hb2 : Below w.heap.size w ((w3.alloc (.cells (leastsV longT) 43)).alloc (.cells (bitsV longT) 43)) := (hb0.alloc hb0.size _).alloc (by have := hb0.size; simp; omega) _
            have L : Blk ((w3.alloc (.cells (leastsV longT) 43)).alloc (.cells (bitsV longT) 43)) w3.heap.size 43 (leastsV longT) := (Blk.new w3 _ _).alloc _
            generalize (w3.alloc (.cells (leastsV longT) 43)).alloc (.cells (bitsV longT) 43) = W at *
            have hd := (L.cell 27).trans (leastsV_at longT 27 (by decide))
            rw [Hr.out] at hd
            dsimp only at hd
            clear L hb0))
          go_ret2
          exact ⟨rfl, hb2⟩
        · have h31 : ((257 : Int) + i == 284) = false := by rw [beq_eq_false_iff_ne]; omega
          obtain rfl : E = 0 := by rw [hE]; simp [ha, hb, hc]
          obtain rfl : V = rl + extra := by rw [hV]; simp
          clear hE hV hr3
          go_enter Try.func14, Try.ntmps14
          go_wp2_with fail
          refine (HS.out _).mono ?_
          rintro e w1 ⟨rfl, hb1⟩
          go_wp2_with fail
          refine (rpower_any rb _ (by omega)).mono ?_
          rintro e w2 ⟨rfl, rfl⟩
          rw [HP.out]
          go_wp2_with fail
          refine (rlongs_any _).mono ?_
          rintro e w3 ⟨rfl, hb3⟩
          have hb0 : Below w.heap.size w w3 := hb1.trans (hb3.mono hb1.size)
          clear hb1 hb3
          go_wp2_with (first
         | (refine wpList_store_new2 rfl _ _ _ rfl _ (leastsV longT) rfl rfl (by simp) _ _ _ (by kernel_rfl) rfl (by kernel_rfl) ?_)
         | (refine wpList_store_new rfl _ _ _ rfl _ (bitsV longT) rfl rfl (by simp) _ _ (by kernel_rfl) rfl (by kernel_rfl) ?_
            have hb2 : Below w.heap.size w ((w3.alloc (.cells (leastsV longT) 43)).alloc (.cells (bitsV longT) 43)) := (hb0.alloc hb0.size _).alloc (by have := hb0.size; simp; omega) _
            have L : Blk ((w3.alloc (.cells (leastsV longT) 43)).alloc (.cells (bitsV longT) 43)) w3.heap.size 43 (leastsV longT) := (Blk.new w3 _ _).alloc _
            generalize (w3.alloc (.cells (leastsV longT) 43)).alloc (.cells (bitsV longT) 43) = W at *
            have hd := (L.cell i).trans (leastsV_at longT i hi)
            rw [Hr.out] at hd
            dsimp only at hd
            clear L hb0))
          go_ret2
          exact ⟨rfl, hb2⟩


set_option maxHeartbeats 1600000 in
set_option maxRecDepth 100000 in
theorem rFarOf_ok (i : Nat) (extra : Int) (w : World) (hi : i < 30) (sym : Int) (hsym : sym = i) (h3 : -9223372036854775808 ≤ extra) (h4 : extra ≤ 9223372036854775807) :
    Calls Try.prog 16 #[.int .i64 sym, .int .i64 extra] w fun e w' => e = .returned (.tuple #[.int .i64 (numV 0 farT sym extra), .int .i64 (numE 0 farT sym extra)]) ∧ Below w.heap.size w w' := by
  have hn : ¬ (sym < ((0 : Nat) : Int) ∨ ((0 : Nat) : Int) + (farT).length ≤ sym) := by
    have : (farT).length = 30 := rfl
    omega
  have ei : (sym - ((0 : Nat) : Int)).toNat = i := by omega
  have hE : numE 0 farT sym extra = if extra < 0 ∨ ((2 ^ (rowT farT i).1 : Nat) : Int) ≤ extra then 2 else if ((rowT farT i).2.2 : Int) ≤ extra then 90 else 0 := by simp only [numE, if_neg hn, ei]
  have hV : numV 0 farT sym extra = if numE 0 farT sym extra = 0 then (rowT farT i).2.1 + extra else 0 := by simp only [numV, ei]
  have hrow : (rowT farT i).1 ≤ 20 ∧ (rowT farT i).2.1 ≤ 100000 ∧ (rowT farT i).2.2 = 2 ^ (rowT farT i).1 := by
    have : ∀ k, k < 30 → (rowT farT k).1 ≤ 20 ∧ (rowT farT k).2.1 ≤ 100000 ∧ (rowT farT k).2.2 = 2 ^ (rowT farT k).1 := by decide
    exact this i hi
  have hsy := fun w => rFarBits_ok i w hi sym hsym
  generalize numE 0 farT sym extra = E at *
  generalize numV 0 farT sym extra = V at *
  have hrd := rowT farT i
  generalize hr : rowT farT i = r at *
  have Hr := Lib.hid hr; clear hr hrd
  obtain ⟨rb, rl, rm⟩ := r
  dsimp only at hrow hE hV hsy
  obtain ⟨hr1, hr2, hr3⟩ := hrow
  have HS := Lib.hid hsy
  clear hsy hn ei
  subst hsym
  by_cases ha : extra < 0
  · obtain rfl : E = 2 := by rw [hE]; simp [ha]
    obtain rfl : V = 0 := by rw [hV]; simp
    clear hE hV hr3
    go_enter Try.func16, Try.ntmps16
    go_wp2_with fail
    refine (HS.out _).mono ?_
    rintro e w1 ⟨rfl, hb1⟩
    go_wp2_with fail
    go_ret2
    exact ⟨rfl, hb1⟩
  · have hp : 2 ^ rb ≤ 2 ^ 20 := pow2_le _ _ hr1
    generalize hP : 2 ^ rb = P at *
    have HP := Lib.hid hP; clear hP
    by_cases hb : (P : Int) ≤ extra
    · obtain rfl : E = 2 := by rw [hE]; simp [hb]
      obtain rfl : V = 0 := by rw [hV]; simp
      clear hE hV hr3
      go_enter Try.func16, Try.ntmps16
      go_wp2_with fail
      refine (HS.out _).mono ?_
      rintro e w1 ⟨rfl, hb1⟩
      go_wp2_with fail
      refine (rpower_any rb _ (by omega)).mono ?_
      rintro e w2 ⟨rfl, rfl⟩
      rw [HP.out]
      go_wp2_with fail
      go_ret2
      exact ⟨rfl, hb1⟩
    · have hp2 : 0 < P := by rw [← HP.out]; exact Nat.two_pow_pos _
      have hc : ¬ (rm : Int) ≤ extra := by have := HP.out; omega
      obtain rfl : E = 0 := by rw [hE]; simp [ha, hb, hc]
      obtain rfl : V = rl + extra := by rw [hV]; simp
      clear hE hV hr3
      go_enter Try.func16, Try.ntmps16
      go_wp2_with fail
      refine (HS.out _).mono ?_
      rintro e w1 ⟨rfl, hb1⟩
      go_wp2_with fail
      refine (rpower_any rb _ (by omega)).mono ?_
      rintro e w2 ⟨rfl, rfl⟩
      rw [HP.out]
      go_wp2_with fail
      refine (rfars_any _).mono ?_
      rintro e w3 ⟨rfl, hb3⟩
      have hb0 : Below w.heap.size w w3 := hb1.trans (hb3.mono hb1.size)
      clear hb1 hb3
      go_wp2_with (first
    | (refine wpList_store_new2 rfl _ _ _ rfl _ (leastsV farT) rfl rfl (by simp) _ _ _ (by kernel_rfl) rfl (by kernel_rfl) ?_)
    | (refine wpList_store_new rfl _ _ _ rfl _ (bitsV farT) rfl rfl (by simp) _ _ (by kernel_rfl) rfl (by kernel_rfl) ?_
       have hb2 : Below w.heap.size w ((w3.alloc (.cells (leastsV farT) 46)).alloc (.cells (bitsV farT) 46)) := (hb0.alloc hb0.size _).alloc (by have := hb0.size; simp; omega) _
       have L : Blk ((w3.alloc (.cells (leastsV farT) 46)).alloc (.cells (bitsV farT) 46)) w3.heap.size 46 (leastsV farT) := (Blk.new w3 _ _).alloc _
       generalize (w3.alloc (.cells (leastsV farT) 46)).alloc (.cells (bitsV farT) 46) = W at *
       have hd := (L.cell i).trans (leastsV_at farT i hi)
       rw [Hr.out] at hd
       dsimp only at hd
       clear L hb0))
      go_ret2
      exact ⟨rfl, hb2⟩

end Go.Proofs.Ytkeempohhpjenaa
