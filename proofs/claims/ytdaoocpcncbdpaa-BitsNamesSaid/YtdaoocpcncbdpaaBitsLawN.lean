/-
  BitsNames, walked.
-/
import Derived.Test.YtdaoocpcncbdpaaBitsLawT
import Derived.Test.YtdaoocpcncbdpaaBitsLawK
namespace Go.Proofs.Ytdaoocpcncbdpaa
open Go.RowKit

set_option maxHeartbeats 2000000 in
set_option maxRecDepth 100000 in
theorem names_walk (w : World) : Calls Try.prog 9 #[] w fun e w' => e = .returned (.bool true) ∧ Below w.heap.size w w' := by
  have ht := two_bytes w (some ⟨w.heap.size, 0, none⟩) 181 3 5 (by simp) (by omega) (by omega)
  obtain ⟨W, hW⟩ : ∃ W, W = w.alloc (.cells #[.int .u8 ((181 : Nat) : Int), .int .u8 ((3 : Nat) : Int)] 5) := ⟨_, rfl⟩
  rw [← hW] at ht
  have T1 := take_is (some ⟨w.heap.size, 0, none⟩) 2 [181, 3] 0 3 W 5 0 (by decide +kernel) (by decide +kernel) ht (by simp) (by omega) (by omega)
  have T2 := take_is (some ⟨w.heap.size, 0, none⟩) 2 [181, 3] 16 0 W 0 0 (by decide +kernel) (by decide +kernel) ht (by simp) (by omega) (by omega)
  have T3 := take_is (some ⟨w.heap.size, 0, none⟩) 2 [181, 3] 9 8 W 0 10 (by decide +kernel) (by decide +kernel) ht (by simp) (by omega) (by omega)
  have T4 := take_is (some ⟨w.heap.size, 0, none⟩) 2 [181, 3] (-1) 1 W 0 2 (by decide +kernel) (by decide +kernel) ht (by simp) (by omega) (by omega)
  have T5 := take_is (some ⟨w.heap.size, 0, none⟩) 2 [181, 3] 0 33 W 0 2 (by decide +kernel) (by decide +kernel) ht (by simp) (by omega) (by omega)
  have hbW : Below w.heap.size w W := by subst hW; exact (Below.refl _ _).alloc (Nat.le_refl _) _
  obtain ⟨m2, hm2⟩ : ∃ m, m = [29, 0] := ⟨_, rfl⟩
  have q1 : mayB m2 (10 : Nat) = true := by subst hm2; decide
  have q2 : (2 : Nat) = m2.length := by subst hm2; rfl
  have HA := Lib.hid fun A c w hl hA => align_ok A c m2 10 w hl hA (by omega) q1
  have q3 : putE m2 (10 : Nat) 4 (2 : Int) = 2 := by subst hm2; decide +kernel
  have HP := Lib.hid fun A c w hl => put_no A c m2 (10 : Nat) 4 2 w 2 q3 (by omega) hl (by omega) (by omega) (by omega) (by omega) (by omega) (by omega)
  have HT1 := Lib.hid fun w => turn_is 1 3 w 4 (by decide +kernel) (by decide +kernel) (by omega)
  have HT2 := Lib.hid fun w => turn_no 2 1 w (by decide +kernel) (by omega) (by omega) (by omega)
  have HC := Lib.hid fun w => check_is none 0 [] 1 w 8 (by decide +kernel) Bs.nil_ (by simp) (by omega) (by omega)
  have H := Lib.hid (And.intro q2 (And.intro hm2 (And.intro T1 (And.intro T2 (And.intro T3 (And.intro T4 T5))))))
  have HW := Lib.hid hW
  clear q1 q2 q3 hm2 T1 T2 T3 T4 T5 ht hW
  go_enter Try.func9, Try.ntmps9
  go_wp2_with fail
  simp only [show w.alloc (.cells #[.int .u8 181, .int .u8 3] 5) = W from HW.out.symm]
  refine H.out.2.2.1.mono ?_
  rintro e w1 ⟨rfl, rfl⟩
  go_wp2_with fail
  refine H.out.2.2.2.1.mono ?_
  rintro e w1 ⟨rfl, rfl⟩
  go_wp2_with fail
  refine H.out.2.2.2.2.1.mono ?_
  rintro e w1 ⟨rfl, rfl⟩
  go_wp2_with fail
  refine H.out.2.2.2.2.2.1.mono ?_
  rintro e w1 ⟨rfl, rfl⟩
  go_wp2_with fail
  refine H.out.2.2.2.2.2.2.mono ?_
  rintro e w1 ⟨rfl, rfl⟩
  go_wp2_with fail
  refine (ten_any _).mono ?_
  rintro e w1 ⟨hb1, A1, d1, rfl, hown1⟩
  have b1 := hbW.trans (hb1.mono hbW.size)
  rw [← H.out.2.1] at hown1
  rw [H.out.1] at hown1 ⊢
  have x1 : Bs w1 A1 m2 := Bs.of_own hown1 (by rw [H.out.2.1]; simp)
  have HN1 := Lib.hid (own_nil hown1)
  clear hb1 hown1
  go_wp2_with fail
  refine (HA.out A1 d1 _ (x1.alloc _) HN1.out).mono ?_
  rintro e w2 ⟨hb2, A2, d2, rfl, hown2⟩
  obtain ⟨b2, z2, k2⟩ := box1 hb2
  have b3 := b1.trans (b2.mono b1.size)
  have x2 := x1.below b2
  have c2 := Blk.cells k2
  clear hb2 hown2
  go_wp2_with fail
  refine (HT1.out _).mono ?_
  rintro e w3 ⟨rfl, rfl⟩
  go_wp2_with fail
  refine (HT2.out _).mono ?_
  rintro e w3 ⟨rfl, rfl⟩
  go_wp2_with fail
  refine (HP.out A1 d1 _ (x2.alloc _)).mono ?_
  rintro e w4 ⟨hb4, A4, d4, rfl, hown4⟩
  obtain ⟨b4, z4, k4⟩ := box1 hb4
  have b5 := b3.trans (b4.mono b3.size)
  have c4 := Blk.cells k4
  clear hb4 hown4
  go_wp2_with fail
  refine (alive_any _).mono ?_
  rintro e w6 ⟨rfl, hb6⟩
  obtain ⟨b6, z6, k6⟩ := box1 hb6
  have b7 := b5.trans (b6.mono b5.size)
  have e16 : 8 * (m2.length : Int) = 16 := by have := H.out.1; omega
  have k7 := Blk.below (Blk.alloc k4 (.cells #[.slice A4 0 d4, .int .i64 0] 33)) hb6 (by simp; omega)
  have c7 := Blk.cells k7
  go_wp2_with fail
  refine (HC.out _).mono ?_
  rintro e w8 ⟨rfl, hb8⟩
  go_wp2_with fail
  go_ret
  exact ⟨rfl, b7.trans (hb8.mono b7.size)⟩
end Go.Proofs.Ytdaoocpcncbdpaa
