/-
  Walks: the law BuildNames.
-/
import Derived.Test.YtolcekbldpdmpaaBuildE
namespace Go.Proofs.Ytolcekbldpdmpaa
open Go.RowKit

theorem len_no (F : Option Addr) (nf cF : Nat) (fr : List Int) (most : Int) (E : Nat) (w : World) (hF : Rd w F (ints fr)) (hn : nf = fr.length) (hs : nf ≤ 1000000) (h1 : -9223372036854775808 ≤ most) (h2 : most ≤ 9223372036854775807) (hE : askE fr most = E) (h0 : E ≠ 0) :
    Calls Try.prog 9 #[.slice F nf cF, .int .i64 most] w fun e w' => e = .returned (.tuple #[.slice none 0 0, .int .i64 (E : Int)]) ∧ Below w.heap.size w w' := by
  refine (lengths_is F nf cF fr most w hF hn hs h1 h2).mono ?_
  rintro e w' (⟨_, he, hb⟩ | ⟨he, _⟩)
  · rw [hE] at he; exact ⟨he, hb⟩
  · omega

theorem items5 : Items [1, 1, 2, 4, 8] [0, 1, 2, 3, 4] := items_of_dec (by decide) (by decide) (by decide)
theorem items3 : Items [1, 1, 1] [0, 1, 2] := items_of_dec (by decide) (by decide) (by decide)
theorem items1 : Items [0, 7, 0] [1] := items_of_dec (by decide) (by decide) (by decide)
theorem items0 : Items [] [] := items_of_dec (by decide) (by decide) (by decide)
theorem made_ints (n : Nat) : (madeCells (Value.int .i64 0).cells (n * 1)).toList = ints (List.replicate n 0) := by rw [Nat.mul_one, made_zeros _ rfl, zeros_list]; simp [ints]

set_option maxRecDepth 100000 in
set_option maxHeartbeats 4000000 in
theorem law_bnames (w : World) : Calls Try.prog 3 #[] w fun e w' => e = .returned (.bool true) ∧ Below w.heap.size w w' := by
  have Q1 := Lib.hid (fun F cF (wx : World) (h : Rd wx F (ints [1, 1, 2, 4, 8])) => is_any F 5 cF [1, 1, 2, 4, 8] 3 [3, 3, 3, 3, 1] wx h rfl (by omega) (by decide +kernel) (fun ys h => outL_of h items5 (by decide +kernel)) (by decide))
  have Q2 := Lib.hid (fun F cF (wx : World) (h : Rd wx F (ints [1, 1, 1])) => is_any F 3 cF [1, 1, 1] 15 [2, 2, 1] wx h rfl (by omega) (by decide +kernel) (fun ys h => outL_of h items3 (by decide +kernel)) (by decide))
  have Q3 := Lib.hid (fun F cF (wx : World) (h : Rd wx F (ints [0, 7, 0])) => is_any F 3 cF [0, 7, 0] 15 [0, 1, 0] wx h rfl (by omega) (by decide +kernel) (fun ys h => outL_of h items1 (by decide +kernel)) (by decide))
  have Q4 := Lib.hid (fun (wx : World) => is_any none 0 0 [] 15 [] wx Rd.nil_ rfl (by omega) (by decide +kernel) (fun ys h => outL_of h items0 (by decide +kernel)) (by decide))
  have Q5 := Lib.hid (fun F cF (wx : World) (h : Rd wx F (ints [1, 1, 1])) => len_no F 3 cF [1, 1, 1] 1 4 wx h rfl (by omega) (by omega) (by omega) (by decide +kernel) (by omega))
  have Q6 := Lib.hid (fun F cF (wx : World) (h : Rd wx F (ints [-1])) => len_no F 1 cF [-1] 15 2 wx h rfl (by omega) (by omega) (by omega) (by decide +kernel) (by omega))
  have Q7 := Lib.hid (fun F cF (wx : World) (h : Rd wx F (ints [1073741825])) => len_no F 1 cF [1073741825] 15 2 wx h rfl (by omega) (by omega) (by omega) (by decide +kernel) (by omega))
  have Q8 := Lib.hid (fun (wx : World) => len_no none 0 0 [] 16 2 wx Rd.nil_ rfl (by omega) (by omega) (by omega) (by decide +kernel) (by omega))
  have Q9 := Lib.hid (fun F cF (wx : World) (h : Rd wx F (ints (List.replicate 321 0))) => len_no F 321 cF (List.replicate 321 0) 15 4 wx h (by simp) (by omega) (by omega) (by omega) (by decide +kernel) (by omega))
  have HV := Lib.hid balive_any
  go_enter Try.func3, Try.ntmps3
  go_wp2_with fail
  refine (Q1.out _ _ _ (Rd.new' _ _ _ (ints [1, 1, 2, 4, 8]) _ rfl rfl)).mono ?_
  rintro e w1 ⟨rfl, h1⟩
  have b1 := (box1 h1).1
  clear h1
  go_wp2_with fail
  refine (Q2.out _ _ _ (Rd.new' _ _ _ (ints [1, 1, 1]) _ rfl rfl)).mono ?_
  rintro e w2 ⟨rfl, h2⟩
  have b2 := b1.trans ((box1 h2).1.mono b1.size)
  clear h2 b1
  go_wp2_with fail
  refine (Q3.out _ _ _ (Rd.new' _ _ _ (ints [0, 7, 0]) _ rfl rfl)).mono ?_
  rintro e w3 ⟨rfl, h3⟩
  have b3 := b2.trans ((box1 h3).1.mono b2.size)
  clear h3 b2
  go_wp2_with fail
  refine (Q4.out _).mono ?_
  rintro e w4 ⟨rfl, h4⟩
  have b4 := b3.trans (h4.mono b3.size)
  clear h4 b3
  go_wp2_with fail
  refine (Q5.out _ _ _ (Rd.new' _ _ _ (ints [1, 1, 1]) _ rfl rfl)).mono ?_
  rintro e w5 ⟨rfl, h5⟩
  have b5 := b4.trans ((box1 h5).1.mono b4.size)
  clear h5 b4
  go_wp2_with fail
  refine (Q6.out _ _ _ (Rd.new' _ _ _ (ints [-1]) _ rfl rfl)).mono ?_
  rintro e w6 ⟨rfl, h6⟩
  have b6 := b5.trans ((box1 h6).1.mono b5.size)
  clear h6 b5
  go_wp2_with fail
  refine (Q7.out _ _ _ (Rd.new' _ _ _ (ints [1073741825]) _ rfl rfl)).mono ?_
  rintro e w7 ⟨rfl, h7⟩
  have b7 := b6.trans ((box1 h7).1.mono b6.size)
  clear h7 b6
  go_wp2_with fail
  refine (Q8.out _).mono ?_
  rintro e w8 ⟨rfl, h8⟩
  have b8 := b7.trans (h8.mono b7.size)
  clear h8 b7
  go_wp2_with (at_make; refine makes elem_num (z := .int .i64 0) (by kernel_rfl) rfl _ _ rfl 321 rfl rfl rfl (by omega) (by omega) (ints (List.replicate 321 0)) (made_ints 321) ?_; intro w9 hM)
  have b9 := b8.trans (hM.1.mono b8.size)
  refine (Q9.out _ _ _ hM.rd).mono ?_
  rintro e w10 ⟨rfl, h10⟩
  have b10 := b9.trans (h10.mono b9.size)
  clear h10 b9 b8 hM
  go_wp2_with fail
  refine (HV.out _).mono ?_
  rintro e w11 ⟨rfl, h11⟩
  have b11 := b10.trans (h11.mono b10.size)
  clear h11 b10
  go_wp2_with fail
  go_ret
  exact ⟨rfl, b11⟩
end Go.Proofs.Ytolcekbldpdmpaa
