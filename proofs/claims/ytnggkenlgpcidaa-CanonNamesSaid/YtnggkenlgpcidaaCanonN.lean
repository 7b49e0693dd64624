/-
  The law CanonNames, walked.
-/
import Derived.Test.YtnggkenlgpcidaaCanonD
namespace Go.Proofs.Ytnggkenlgpcidaa
open Go.RowKit

theorem check_is (A : Option Addr) (c nl : Nat) (l : List Nat) (m : Int) (E : Nat) (w : World) (hE : canE l m = E) (hnl : nl = l.length) (hm : l.length ≤ 1001) (h1 : -9223372036854775808 ≤ m) (h2 : m ≤ 9223372036854775807) (hl : Bs w A l) :
    Calls Try.prog 10 #[.slice A nl c, .int .i64 m] w fun e w' => e = .returned (.int .i64 (E : Int)) ∧ w = w' := by
  subst hnl hE
  exact check_any A c l m w hl hm h1 h2
theorem names_are : (canE [0, 1, 0] 15 = 0 ∧ codesL [0, 1, 0] = [(0, 0), (0, 1), (0, 0)]) ∧ (canE [0, 0] 15 = 0 ∧ codesL [0, 0] = [(0, 0), (0, 0)]) ∧ (canE [1, 1] 15 = 0 ∧ codesL [1, 1] = [(0, 1), (1, 1)]) := by decide +kernel
theorem names_E : canE [1, 1, 1] 15 = 30 ∧ canE [2, 2] 15 = 31 ∧ canE [2] 15 = 31 ∧ canE [16] 15 = 2 ∧ canE [] 0 = 2 ∧ canE (List.replicate 321 0) 15 = 4 ∧ canE [] 15 = 0 := by decide +kernel

set_option maxHeartbeats 4000000 in
set_option maxRecDepth 100000 in
theorem canon_names_walk (w : World) : Calls Try.prog 3 #[] w fun e w' => e = .returned (.bool true) ∧ Below w.heap.size w w' := by
  have mk321 := fun W => run_make1 (P := Try.prog) elem_u8 (z := .int .u8 0) (by kernel_rfl) rfl 321 321 rfl (by omega) (by omega) W
  have R321 := Lib.hid fun (w : World) g hg => Rd.new' w (zeros (.int .u8 0) 321) 5 (u8s (List.replicate 321 0)) g hg (by rw [zeros_list, u8s_zeros])
  have A1 := Lib.hid fun A B c d w hl hB => are_any A B c d 3 3 [0, 1, 0] [(0, 0), (0, 1), (0, 0)] w hl hB rfl rfl (by simp) names_are.1.1 names_are.1.2
  have A2 := Lib.hid fun A B c d w hl hB => are_any A B c d 2 2 [0, 0] [(0, 0), (0, 0)] w hl hB rfl rfl (by simp) names_are.2.1.1 names_are.2.1.2
  have A3 := Lib.hid fun A B c d w hl hB => are_any A B c d 2 2 [1, 1] [(0, 1), (1, 1)] w hl hB rfl rfl (by simp) names_are.2.2.1 names_are.2.2.2
  have C1 := Lib.hid fun A c w hl => check_is A c 3 [1, 1, 1] 15 30 w names_E.1 rfl (by simp) (by omega) (by omega) hl
  have C2 := Lib.hid fun A c w hl => check_is A c 2 [2, 2] 15 31 w names_E.2.1 rfl (by simp) (by omega) (by omega) hl
  have C3 := Lib.hid fun A c w hl => check_is A c 1 [2] 15 31 w names_E.2.2.1 rfl (by simp) (by omega) (by omega) hl
  have C4 := Lib.hid fun A c w hl => check_is A c 1 [16] 15 2 w names_E.2.2.2.1 rfl (by simp) (by omega) (by omega) hl
  have C5 := Lib.hid fun A c w hl => check_is A c 0 [] 0 2 w names_E.2.2.2.2.1 rfl (by simp) (by omega) (by omega) hl
  have C6 := Lib.hid fun A c w hl => check_is A c 321 (List.replicate 321 0) 15 4 w names_E.2.2.2.2.2.1 (by simp) (by simp) (by omega) (by omega) hl
  have C7 := Lib.hid fun A c w hl => check_is A c 0 [] 15 0 w names_E.2.2.2.2.2.2 rfl (by simp) (by omega) (by omega) hl
  have B0 := Lib.hid (by intro x hx; rw [List.eq_of_mem_replicate hx]; omega : ∀ x ∈ List.replicate 321 0, x < 256)
  go_enter Try.func3, Try.ntmps3
  go_wp2_with fail
  refine (A1.out _ _ _ _ _ ?_ ?_).mono ?_
  · exact rd_u8 ((Rd.new' _ _ _ (u8s [0, 1, 0]) _ rfl rfl).alloc _) (by simp)
  · exact Rd.new' _ _ _ _ _ (by simp) (by rfl)
  rintro e w1 ⟨rfl, hb1⟩
  obtain ⟨b1, _⟩ := box2 hb1
  clear hb1
  go_wp2_with fail
  refine (A2.out _ _ _ _ _ ?_ ?_).mono ?_
  · exact rd_u8 ((Rd.new' _ _ _ (u8s [0, 0]) _ rfl rfl).alloc _) (by simp)
  · exact Rd.new' _ _ _ _ _ (by simp) (by rfl)
  rintro e w2 ⟨rfl, hb2⟩
  obtain ⟨b2, _⟩ := box2 hb2
  replace b1 := b1.trans (b2.mono b1.size)
  clear hb2 b2
  go_wp2_with fail
  refine (A3.out _ _ _ _ _ ?_ ?_).mono ?_
  · exact rd_u8 ((Rd.new' _ _ _ (u8s [1, 1]) _ rfl rfl).alloc _) (by simp)
  · exact Rd.new' _ _ _ _ _ (by simp) (by rfl)
  rintro e w3 ⟨rfl, hb3⟩
  obtain ⟨b3, _⟩ := box2 hb3
  replace b1 := b1.trans (b3.mono b1.size)
  clear hb3 b3
  go_wp2_with fail
  refine (C1.out _ _ _ ?_).mono ?_
  · exact rd_u8 (Rd.new' _ _ _ (u8s [1, 1, 1]) _ (by simp) rfl) (by simp)
  rintro e w4 ⟨rfl, rfl⟩
  go_wp2_with fail
  refine (C2.out _ _ _ ?_).mono ?_
  · exact rd_u8 (Rd.new' _ _ _ (u8s [2, 2]) _ (by simp) rfl) (by simp)
  rintro e w5 ⟨rfl, rfl⟩
  go_wp2_with fail
  refine (C3.out _ _ _ ?_).mono ?_
  · exact rd_u8 (Rd.new' _ _ _ (u8s [2]) _ (by simp) rfl) (by simp)
  rintro e w6 ⟨rfl, rfl⟩
  go_wp2_with fail
  refine (C4.out _ _ _ ?_).mono ?_
  · exact rd_u8 (Rd.new' _ _ _ (u8s [16]) _ (by simp) rfl) (by simp)
  rintro e w7 ⟨rfl, rfl⟩
  go_wp2_with fail
  refine (canon_alive_any _).mono ?_
  rintro e w8 ⟨rfl, hb8⟩
  have b8 := ((((b1.alloc b1.size _).alloc (by have := b1.size; simp; omega) _).alloc (by have := b1.size; simp; omega) _).alloc (by have := b1.size; simp; omega) _).trans (hb8.mono (by have := b1.size; simp; omega))
  go_wp2_with fail
  refine (C5.out _ _ _ ?_).mono ?_
  · exact Bs.nil_
  rintro e w9 ⟨rfl, rfl⟩
  go_wp2_with fail
  refine (C6.out _ _ _ ?_).mono ?_
  · exact rd_u8 (R321.out _ _ (by simp)) B0.out
  rintro e w10 ⟨rfl, rfl⟩
  go_wp2_with fail
  refine (C7.out _ _ _ ?_).mono ?_
  · exact Bs.nil_
  rintro e w11 ⟨rfl, rfl⟩
  go_wp2_with fail
  go_ret
  exact ⟨rfl, b8.alloc b8.size _⟩
end Go.Proofs.Ytnggkenlgpcidaa
