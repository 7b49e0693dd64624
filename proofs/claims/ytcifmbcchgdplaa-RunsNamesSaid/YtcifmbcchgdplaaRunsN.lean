/-
  The law RunsNames, walked.
-/
import Derived.Test.YtcifmbcchgdplaaRunsH
namespace Go.Proofs.Ytcifmbcchgdplaa
open Go.RowKit

theorem str_is (A : Option Addr) (c nl : Nat) (l : List (Int × Int)) (n : Int) (w : World) (x : List Nat) (E : Nat) (hnl : nl = l.length) (hx : strL l n = (x, E)) (hl : Rd w A (runV l)) (hm : l.length ≤ 1000) (hr : ∀ r ∈ l, -9223372036854775808 ≤ r.1 ∧ r.1 ≤ 9223372036854775807 ∧ -9223372036854775808 ≤ r.2 ∧ r.2 ≤ 9223372036854775807)
    (hn1 : -9223372036854775808 ≤ n) (hn2 : n ≤ 9223372036854775807) : Calls Try.prog 13 #[.slice A nl c, .int .i64 n] w fun e w' => ∃ B d, e = .returned (.tuple #[.slice B x.length d, .int .i64 (E : Int)]) ∧ Builds w w' 5 1 B x.length d (u8s x) := by
  subst hnl
  have := str_all A c l n w hl hm hr hn1 hn2
  rw [hx] at this
  exact this
theorem sq_is (A : Option Addr) (c nl : Nat) (l : List Nat) (w : World) (x : List (Int × Int)) (E : Nat) (hnl : nl = l.length) (hx : sq l = x) (hE : sqE l = E) (hl : Bs w A l) (hm : l.length ≤ 1000) :
    Calls Try.prog 8 #[.slice A nl c] w fun e w' => ∃ B d, e = .returned (.tuple #[.slice B x.length d, .int .i64 (E : Int)]) ∧ Below w.heap.size w w' := by
  subst hnl hx hE
  exact (sq_any A c l w hl hm).mono fun e w' ⟨B, d, h1, h2⟩ => ⟨B, d, h1, h2.1⟩

theorem sq_12 : sqE (List.replicate 12 0) = 0 ∧ sq (List.replicate 12 0) = [(18, 1)] := by decide +kernel
theorem sq_139 : sqE (List.replicate 139 0) = 0 ∧ sq (List.replicate 139 0) = [(18, 127), (0, 0)] := by decide +kernel
theorem sq_321 : sqE (List.replicate 321 0) = 4 := by decide +kernel

set_option maxHeartbeats 4000000 in
set_option maxRecDepth 100000 in
theorem names_walk (w : World) : Calls Try.prog 5 #[] w fun e w' => e = .returned (.bool true) ∧ Below w.heap.size w w' := by
  have mk12 := fun W => run_make1 (P := Try.prog) elem_u8 (z := .int .u8 0) (by kernel_rfl) rfl 12 12 rfl (by omega) (by omega) W
  have mk139 := fun W => run_make1 (P := Try.prog) elem_u8 (z := .int .u8 0) (by kernel_rfl) rfl 139 139 rfl (by omega) (by omega) W
  have mk321 := fun W => run_make1 (P := Try.prog) elem_u8 (z := .int .u8 0) (by kernel_rfl) rfl 321 321 rfl (by omega) (by omega) W
  have R12 := Lib.hid fun (w : World) g hg => Rd.new' w (zeros (.int .u8 0) 12) 5 (u8s (List.replicate 12 0)) g hg (by rw [zeros_list, u8s_zeros])
  have R139 := Lib.hid fun (w : World) g hg => Rd.new' w (zeros (.int .u8 0) 139) 5 (u8s (List.replicate 139 0)) g hg (by rw [zeros_list, u8s_zeros])
  have R321 := Lib.hid fun (w : World) g hg => Rd.new' w (zeros (.int .u8 0) 321) 5 (u8s (List.replicate 321 0)) g hg (by rw [zeros_list, u8s_zeros])
  have I12 := Lib.hid fun A B c d w hl hB => is_any A B c d 12 1 (List.replicate 12 0) [(18, 1)] w hl hB (by simp) rfl (by simp) sq_12.1 sq_12.2
  have I139 := Lib.hid fun A B c d w hl hB => is_any A B c d 139 2 (List.replicate 139 0) [(18, 127), (0, 0)] w hl hB (by simp) rfl (by simp) sq_139.1 sq_139.2
  have Q321 := Lib.hid fun A c w hl => sq_is A c 321 (List.replicate 321 0) w [] 4 (by simp) (by unfold sq; rw [sq_321]; rfl) sq_321 hl (by simp)
  have Q16 := Lib.hid fun A c w hl => sq_is A c 1 [16] w [] 2 rfl (by decide) (by decide) hl (by simp)
  have S4 := Lib.hid fun A c w hl => str_is A c 2 [(5, 0), (16, 0)] 4 w [5, 5, 5, 5] 0 rfl (by decide) hl (by simp) (by simp) (by omega) (by omega)
  have S5 := Lib.hid fun A c w hl => str_is A c 2 [(5, 0), (16, 0)] 5 w [] 100 rfl (by decide) hl (by simp) (by simp) (by omega) (by omega)
  have S16 := Lib.hid fun A c w hl => str_is A c 1 [(16, 0)] 3 w [] 100 rfl (by decide) hl (by simp) (by simp) (by omega) (by omega)
  have S19 := Lib.hid fun A c w hl => str_is A c 1 [(19, 0)] 3 w [] 8 rfl (by decide) hl (by simp) (by simp) (by omega) (by omega)
  have B0 := Lib.hid (fun (n : Nat) => (by intro x hx; rw [List.eq_of_mem_replicate hx]; omega : ∀ x ∈ List.replicate n 0, x < 256))
  go_enter Try.func5, Try.ntmps5
  go_wp2_with fail
  refine (I12.out _ _ _ _ _ ?_ ?_).mono ?_
  · exact rd_u8 ((R12.out _ _ rfl).alloc _) (B0.out _)
  · exact Rd.new' _ _ _ _ _ (by simp) (by rfl)
  rintro e w1 ⟨rfl, hb1⟩
  obtain ⟨b1, _⟩ := box2 hb1
  clear hb1
  go_wp2_with fail
  refine (I139.out _ _ _ _ _ ?_ ?_).mono ?_
  · exact rd_u8 ((R139.out _ _ rfl).alloc _) (B0.out _)
  · exact Rd.new' _ _ _ _ _ (by simp) (by rfl)
  rintro e w2 ⟨rfl, hb2⟩
  obtain ⟨b2, _⟩ := box2 hb2
  replace b2 := b1.trans (b2.mono b1.size)
  clear hb2 b1
  go_wp2_with fail
  have hL := Rd.new w2 #[.int .i64 5, .int .i64 0, .int .i64 16, .int .i64 0] 42 (runV [(5, 0), (16, 0)]) rfl
  refine (S4.out _ _ _ ?_).mono ?_
  · exact hL
  rintro e w3 ⟨B3, d3, rfl, hB3⟩
  replace hL := hL.below hB3.1
  have b3 := (b2.alloc b2.size _).trans (hB3.1.mono (by have := b2.size; simp; omega))
  go_wp2_with fail
  refine (S5.out _ _ _ ?_).mono ?_
  · exact hL
  rintro e w4 ⟨B4, d4, rfl, hB4⟩
  have b4 := b3.trans (hB4.1.mono b3.size)
  have r4 := hB3.rd.below hB4.1
  clear hL
  go_wp2_with fail
  refine (S16.out _ _ _ ?_).mono ?_
  · exact Rd.new _ _ _ _ (by rfl)
  rintro e w5 ⟨B5, d5, rfl, hB5⟩
  have b5 := (b4.alloc b4.size _).trans (hB5.1.mono (by have := b4.size; simp; omega))
  have r5 := (r4.alloc _).below hB5.1
  go_wp2_with fail
  refine (S19.out _ _ _ ?_).mono ?_
  · exact Rd.new _ _ _ _ (by rfl)
  rintro e w6 ⟨B6, d6, rfl, hB6⟩
  have b6 := (b5.alloc b5.size _).trans (hB6.1.mono (by have := b5.size; simp; omega))
  have r6 := (r5.alloc _).below hB6.1
  go_wp2_with fail
  refine (bits_any 18 _ (by omega) (by omega)).mono ?_
  rintro e w7 ⟨he, rfl⟩
  replace he : e = .returned (.tuple #[.int .i64 7, .int .i64 0]) := he
  subst he
  go_wp2_with fail
  refine (Q16.out _ _ _ ?_).mono ?_
  · exact rd_u8 (Rd.new _ _ _ (u8s [16]) (by rfl)) (by simp)
  rintro e w8 ⟨B8, d8, rfl, hb8⟩
  have b8 := (b6.alloc b6.size _).trans (hb8.mono (by have := b6.size; simp; omega))
  have r8 := (r6.alloc _).below hb8
  go_wp2_with fail
  refine (Q321.out _ _ _ ?_).mono ?_
  · exact rd_u8 (R321.out _ _ rfl) (B0.out _)
  rintro e w9 ⟨B9, d9, rfl, hb9⟩
  have b9 := (b8.alloc b8.size _).trans (hb9.mono (by have := b8.size; simp; omega))
  have r9 := (r8.alloc _).below hb9
  go_wp2_with fail
  refine (bits_any 19 _ (by omega) (by omega)).mono ?_
  rintro e w10 ⟨he, rfl⟩
  replace he : e = .returned (.tuple #[.int .i64 0, .int .i64 2]) := he
  subst he
  go_wp2_with fail
  refine (alive_any _).mono ?_
  rintro e w11 ⟨rfl, hb11⟩
  have b11 := b9.trans (hb11.mono b9.size)
  have r11 := r9.below hb11
  have hcv := conv_bytes (P := Try.prog) w11 22 5 Try.underlying22 Try.underlying5 9 Try.underlying9 B3 [5, 5, 5, 5] d3 (rd_u8 r11 (by simp)) (fun h => List.map_eq_nil_iff.1 (r11.2 h))
  rw [show str [5, 5, 5, 5] = ⟨#[5, 5, 5, 5]⟩ from rfl, show [5, 5, 5, 5].length = 4 from rfl] at hcv
  go_wp2_with fail
  go_ret
  exact ⟨rfl, b11⟩
end Go.Proofs.Ytcifmbcchgdplaa
