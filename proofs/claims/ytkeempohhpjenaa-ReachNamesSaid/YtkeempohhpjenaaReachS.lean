/-
  Walks: the reference's Long and Far.
-/
import Derived.Test.YtkeempohhpjenaaReachR
namespace Go.Proofs.Ytkeempohhpjenaa
open Go.RowKit

set_option maxHeartbeats 400000 in
theorem rpower_any (n : Nat) (w : World) (hn : n ≤ 32) :
    Calls Try.prog 29 #[.int .i64 n] w fun e w' => e = .returned (.int .i64 ((2 ^ n : Nat) : Int)) ∧ w = w' := by
  go_enter Try.func29, Try.ntmps29
  go_wp2
  go_loop [3, 4] (fun p i => ∃ k : Nat, k ≤ n ∧ i = .int .i64 k ∧ p = .int .i64 ((2 ^ k : Nat) : Int)) (fun _ i => n - (intOf i).toNat)
  case atStart => exact ⟨0, by omega, rfl, rfl⟩
  case round =>
    obtain ⟨k, hk, rfl, rfl⟩ := hrel
    by_cases hlt : k < n
    · have hp : 2 ^ k ≤ 2 ^ 31 := Nat.pow_le_pow_right (by omega) (by omega)
      generalize hq : 2 ^ k = q at *
      have Hq := Lib.hid hq; clear hq
      go_wp2
      go_round
      case rel => exact ⟨k + 1, by omega, by go_num, by rw [Nat.pow_succ, Hq.out]; go_num⟩
      case measure => simp [intOf]; omega
    · go_wp2
      go_ret
      exact ⟨ret_int (by rw [show n = k by omega]), rfl⟩

theorem rlong_bad (n : Int) (w : World) (h : n < 3 ∨ 258 < n) :
    Calls Try.prog 9 #[.int .i64 n] w fun e w' => e = .returned (.tuple #[.int .i64 0, .int .i64 0, .int .i64 0, .int .i64 2]) ∧ Below w.heap.size w w' := by
  by_cases ha : n < 3
  · clear h
    go_enter Try.func9, Try.ntmps9
    go_wp2_with fail
    exact bodyPost_ret (v := .tuple #[.int .i64 0, .int .i64 0, .int .i64 0, .int .i64 2]) (by simp [results, Try.results9, go_sem]) rfl ⟨rfl, Below.refl _ _⟩
  · have hb : 258 < n := by omega
    clear h
    go_enter Try.func9, Try.ntmps9
    go_wp2_with fail
    exact bodyPost_ret (v := .tuple #[.int .i64 0, .int .i64 0, .int .i64 0, .int .i64 2]) (by simp [results, Try.results9, go_sem]) rfl ⟨rfl, Below.refl _ _⟩

set_option maxHeartbeats 400000 in
set_option maxRecDepth 100000 in
theorem rlong_ok (n : Int) (w : World) (h1 : 3 ≤ n) (h2 : n ≤ 258) :
    Calls Try.prog 9 #[.int .i64 n] w fun e w' => e = .returned (.tuple #[.int .i64 (257 + lastLe longT n 29 : Nat), .int .i64 (rowT longT (lastLe longT n 29)).1, .int .i64 (n - (rowT longT (lastLe longT n 29)).2.1), .int .i64 0]) ∧ Below w.heap.size w w' := by
  go_enter Try.func9, Try.ntmps9
  go_wp2_with fail
  refine (rlongs_any _).mono ?_
  rintro e w1 ⟨rfl, hb1⟩
  go_wp2_with (first
    | (refine wpList_store_new2 rfl _ _ _ rfl _ (leastsV longT) rfl rfl (by simp) _ _ _ (by kernel_rfl) rfl (by kernel_rfl) ?_)
    | (refine wpList_store_new rfl _ _ _ rfl _ (bitsV longT) rfl rfl (by simp) _ _ (by kernel_rfl) rfl (by kernel_rfl) ?_))
  have hb2 : Below w.heap.size w ((w1.alloc (.cells (leastsV longT) 43)).alloc (.cells (bitsV longT) 43)) := (hb1.alloc hb1.size _).alloc (by have := hb1.size; simp; omega) _
  have L : Blk ((w1.alloc (.cells (leastsV longT) 43)).alloc (.cells (bitsV longT) 43)) w1.heap.size 43 (leastsV longT) := (Blk.new w1 _ _).alloc _
  have R : Blk ((w1.alloc (.cells (leastsV longT) 43)).alloc (.cells (bitsV longT) 43)) (w1.heap.size + 1) 43 (bitsV longT) := Blk.new' _ _ _ _ (by simp)
  generalize (w1.alloc (.cells (leastsV longT) 43)).alloc (.cells (bitsV longT) 43) = W at *
  clear hb1
  go_loop [8, 9] (fun a i => ∃ k : Nat, k ≤ 29 ∧ i = .int .i64 k ∧ a = .int .i64 (lastLe longT n k : Nat)) (fun _ i => 29 - (intOf i).toNat)
  case atStart => exact ⟨0, by omega, rfl, rfl⟩
  case round =>
    obtain ⟨k, hk, rfl, rfl⟩ := hrel
    by_cases hlt : k < 29
    · have hc := (L.cell k).trans (leastsV_at longT k hlt)
      have hrow : (rowT longT k).2.1 ≤ 100000 := by
        have : ∀ k, k < 29 → (rowT longT k).2.1 ≤ 100000 := by decide
        exact this k hlt
      have hll : lastLe longT n (k + 1) = if ((rowT longT k).2.1 : Int) ≤ n then k else lastLe longT n k := rfl
      by_cases hle : ((rowT longT k).2.1 : Int) ≤ n
      · rw [if_pos hle] at hll
        have HL := Lib.hid hll; clear hll
        go_wp2_with fail
        go_round
        case rel => exact ⟨k + 1, by omega, by go_num, by rw [HL.out]⟩
        case measure => simp [intOf]; omega
      · rw [if_neg hle] at hll
        have HL := Lib.hid hll; clear hll
        go_wp2_with fail
        go_round
        case rel => exact ⟨k + 1, by omega, by go_num, by rw [HL.out]⟩
        case measure => simp [intOf]; omega
    · obtain rfl : k = 29 := by omega
      have hl := lastLe_lt longT n 29 29 (by omega) (by omega)
      have hrow : ∀ k, k < 29 → (rowT longT k).2.1 ≤ 100000 := by decide
      have hrow2 := hrow _ hl
      clear hrow
      have hc := (L.cell (lastLe longT n 29)).trans (leastsV_at longT _ hl)
      have hd := (R.cell (lastLe longT n 29)).trans (bitsV_at longT _ hl)
      generalize hm : lastLe longT n 29 = m at *
      have Hm := Lib.hid hm; clear hm
      clear L R
      go_wp2_with fail
      go_quiet (fail)
      go_wp2_with fail
      refine bodyPost_ret (v := .tuple #[.int .i64 (257 + (m : Int)), .int .i64 (rowT longT m).1, .int .i64 (n - (rowT longT m).2.1), .int .i64 0]) (by simp [results, Try.results9, go_sem]) rfl ⟨by rw [Hm.out]; simp, below_drewN hb2 _⟩

theorem rfar_bad (n : Int) (w : World) (h : n < 1 ∨ 32768 < n) :
    Calls Try.prog 11 #[.int .i64 n] w fun e w' => e = .returned (.tuple #[.int .i64 0, .int .i64 0, .int .i64 0, .int .i64 2]) ∧ Below w.heap.size w w' := by
  by_cases ha : n < 1
  · clear h
    go_enter Try.func11, Try.ntmps11
    go_wp2_with fail
    exact bodyPost_ret (v := .tuple #[.int .i64 0, .int .i64 0, .int .i64 0, .int .i64 2]) (by simp [results, Try.results11, go_sem]) rfl ⟨rfl, Below.refl _ _⟩
  · have hb : 32768 < n := by omega
    clear h
    go_enter Try.func11, Try.ntmps11
    go_wp2_with fail
    exact bodyPost_ret (v := .tuple #[.int .i64 0, .int .i64 0, .int .i64 0, .int .i64 2]) (by simp [results, Try.results11, go_sem]) rfl ⟨rfl, Below.refl _ _⟩

set_option maxHeartbeats 400000 in
set_option maxRecDepth 100000 in
theorem rfar_ok (n : Int) (w : World) (h1 : 1 ≤ n) (h2 : n ≤ 32768) :
    Calls Try.prog 11 #[.int .i64 n] w fun e w' => e = .returned (.tuple #[.int .i64 (0 + lastLe farT n 30 : Nat), .int .i64 (rowT farT (lastLe farT n 30)).1, .int .i64 (n - (rowT farT (lastLe farT n 30)).2.1), .int .i64 0]) ∧ Below w.heap.size w w' := by
  go_enter Try.func11, Try.ntmps11
  go_wp2_with fail
  refine (rfars_any _).mono ?_
  rintro e w1 ⟨rfl, hb1⟩
  go_wp2_with (first
    | (refine wpList_store_new2 rfl _ _ _ rfl _ (leastsV farT) rfl rfl (by simp) _ _ _ (by kernel_rfl) rfl (by kernel_rfl) ?_)
    | (refine wpList_store_new rfl _ _ _ rfl _ (bitsV farT) rfl rfl (by simp) _ _ (by kernel_rfl) rfl (by kernel_rfl) ?_))
  have hb2 : Below w.heap.size w ((w1.alloc (.cells (leastsV farT) 46)).alloc (.cells (bitsV farT) 46)) := (hb1.alloc hb1.size _).alloc (by have := hb1.size; simp; omega) _
  have L : Blk ((w1.alloc (.cells (leastsV farT) 46)).alloc (.cells (bitsV farT) 46)) w1.heap.size 46 (leastsV farT) := (Blk.new w1 _ _).alloc _
  have R : Blk ((w1.alloc (.cells (leastsV farT) 46)).alloc (.cells (bitsV farT) 46)) (w1.heap.size + 1) 46 (bitsV farT) := Blk.new' _ _ _ _ (by simp)
  generalize (w1.alloc (.cells (leastsV farT) 46)).alloc (.cells (bitsV farT) 46) = W at *
  clear hb1
  go_loop [8, 9] (fun a i => ∃ k : Nat, k ≤ 30 ∧ i = .int .i64 k ∧ a = .int .i64 (lastLe farT n k : Nat)) (fun _ i => 30 - (intOf i).toNat)
  case atStart => exact ⟨0, by omega, rfl, rfl⟩
  case round =>
    obtain ⟨k, hk, rfl, rfl⟩ := hrel
    by_cases hlt : k < 30
    · have hc := (L.cell k).trans (leastsV_at farT k hlt)
      have hrow : (rowT farT k).2.1 ≤ 100000 := by
        have : ∀ k, k < 30 → (rowT farT k).2.1 ≤ 100000 := by decide
        exact this k hlt
      have hll : lastLe farT n (k + 1) = if ((rowT farT k).2.1 : Int) ≤ n then k else lastLe farT n k := rfl
      by_cases hle : ((rowT farT k).2.1 : Int) ≤ n
      · rw [if_pos hle] at hll
        have HL := Lib.hid hll; clear hll
        go_wp2_with fail
        go_round
        case rel => exact ⟨k + 1, by omega, by go_num, by rw [HL.out]⟩
        case measure => simp [intOf]; omega
      · rw [if_neg hle] at hll
        have HL := Lib.hid hll; clear hll
        go_wp2_with fail
        go_round
        case rel => exact ⟨k + 1, by omega, by go_num, by rw [HL.out]⟩
        case measure => simp [intOf]; omega
    · obtain rfl : k = 30 := by omega
      have hl := lastLe_lt farT n 30 30 (by omega) (by omega)
      have hrow : ∀ k, k < 30 → (rowT farT k).2.1 ≤ 100000 := by decide
      have hrow2 := hrow _ hl
      clear hrow
      have hc := (L.cell (lastLe farT n 30)).trans (leastsV_at farT _ hl)
      have hd := (R.cell (lastLe farT n 30)).trans (bitsV_at farT _ hl)
      generalize hm : lastLe farT n 30 = m at *
      have Hm := Lib.hid hm; clear hm
      clear L R
      go_wp2_with fail
      go_quiet (fail)
      go_wp2_with fail
      refine bodyPost_ret (v := .tuple #[.int .i64 ((m : Int)), .int .i64 (rowT farT m).1, .int .i64 (n - (rowT farT m).2.1), .int .i64 0]) (by simp [results, Try.results11, go_sem]) rfl ⟨by rw [Hm.out]; simp, below_drewN hb2 _⟩

theorem rLongBits_bad (sym : Int) (w : World) (h : sym < 257 ∨ 285 < sym) :
    Calls Try.prog 18 #[.int .i64 sym] w fun e w' => e = .returned (.tuple #[.int .i64 0, .int .i64 90]) ∧ Below w.heap.size w w' := by
  by_cases ha : sym < 257
  · clear h
    go_enter Try.func18, Try.ntmps18
    go_wp2_with fail
    go_ret2
    exact ⟨rfl, Below.refl _ _⟩
  · have hb : 285 < sym := by omega
    clear h
    go_enter Try.func18, Try.ntmps18
    go_wp2_with fail
    go_ret2
    exact ⟨rfl, Below.refl _ _⟩

set_option maxHeartbeats 400000 in
set_option maxRecDepth 100000 in
theorem rLongBits_ok (i : Nat) (w : World) (hi : i < 29) (sym : Int) (hsym : sym = 257 + i) :
    Calls Try.prog 18 #[.int .i64 sym] w fun e w' => e = .returned (.tuple #[.int .i64 (rowT longT i).1, .int .i64 0]) ∧ Below w.heap.size w w' := by
  subst hsym
  have e1 : ((257 : Int) + i - 257) = i := by omega
  go_enter Try.func18, Try.ntmps18
  go_wp2_with fail
  refine (rlongs_any _).mono ?_
  rintro e w1 ⟨rfl, hb1⟩
  go_wp2_with (first
    | (refine wpList_store_new2 rfl _ _ _ rfl _ (leastsV longT) rfl rfl (by simp) _ _ _ (by kernel_rfl) rfl (by kernel_rfl) ?_)
    | (refine wpList_store_new rfl _ _ _ rfl _ (bitsV longT) rfl rfl (by simp) _ _ (by kernel_rfl) rfl (by kernel_rfl) ?_
       have hb2 : Below w.heap.size w ((w1.alloc (.cells (leastsV longT) 43)).alloc (.cells (bitsV longT) 43)) := (hb1.alloc hb1.size _).alloc (by have := hb1.size; simp; omega) _
       have L : Blk ((w1.alloc (.cells (leastsV longT) 43)).alloc (.cells (bitsV longT) 43)) w1.heap.size 43 (leastsV longT) := (Blk.new w1 _ _).alloc _
       have R : Blk ((w1.alloc (.cells (leastsV longT) 43)).alloc (.cells (bitsV longT) 43)) (w1.heap.size + 1) 43 (bitsV longT) := Blk.new' _ _ _ _ (by simp)
       generalize (w1.alloc (.cells (leastsV longT) 43)).alloc (.cells (bitsV longT) 43) = W at *
       have hd := (R.cell i).trans (bitsV_at longT i hi)
       clear L R hb1))
  go_ret2
  exact ⟨rfl, hb2⟩

theorem rLongOf_bad (sym extra : Int) (w : World) (h : sym < 257 ∨ 285 < sym) :
    Calls Try.prog 14 #[.int .i64 sym, .int .i64 extra] w fun e w' => e = .returned (.tuple #[.int .i64 0, .int .i64 90]) ∧ Below w.heap.size w w' := by
  have H := Lib.hid h; clear h
  go_enter Try.func14, Try.ntmps14
  go_wp2_with fail
  refine (rLongBits_bad sym _ H.out).mono ?_
  rintro e w1 ⟨rfl, hb1⟩
  go_wp2_with fail
  go_ret2
  exact ⟨rfl, hb1⟩

theorem rFarBits_bad (sym : Int) (w : World) (h : sym < 0 ∨ 29 < sym) :
    Calls Try.prog 20 #[.int .i64 sym] w fun e w' => e = .returned (.tuple #[.int .i64 0, .int .i64 90]) ∧ Below w.heap.size w w' := by
  by_cases ha : sym < 0
  · clear h
    go_enter Try.func20, Try.ntmps20
    go_wp2_with fail
    go_ret2
    exact ⟨rfl, Below.refl _ _⟩
  · have hb : 29 < sym := by omega
    clear h
    go_enter Try.func20, Try.ntmps20
    go_wp2_with fail
    go_ret2
    exact ⟨rfl, Below.refl _ _⟩

set_option maxHeartbeats 400000 in
set_option maxRecDepth 100000 in
theorem rFarBits_ok (i : Nat) (w : World) (hi : i < 30) (sym : Int) (hsym : sym = i) :
    Calls Try.prog 20 #[.int .i64 sym] w fun e w' => e = .returned (.tuple #[.int .i64 (rowT farT i).1, .int .i64 0]) ∧ Below w.heap.size w w' := by
  subst hsym
  go_enter Try.func20, Try.ntmps20
  go_wp2_with fail
  refine (rfars_any _).mono ?_
  rintro e w1 ⟨rfl, hb1⟩
  go_wp2_with (first
    | (refine wpList_store_new2 rfl _ _ _ rfl _ (leastsV farT) rfl rfl (by simp) _ _ _ (by kernel_rfl) rfl (by kernel_rfl) ?_)
    | (refine wpList_store_new rfl _ _ _ rfl _ (bitsV farT) rfl rfl (by simp) _ _ (by kernel_rfl) rfl (by kernel_rfl) ?_
       have hb2 : Below w.heap.size w ((w1.alloc (.cells (leastsV farT) 46)).alloc (.cells (bitsV farT) 46)) := (hb1.alloc hb1.size _).alloc (by have := hb1.size; simp; omega) _
       have L : Blk ((w1.alloc (.cells (leastsV farT) 46)).alloc (.cells (bitsV farT) 46)) w1.heap.size 46 (leastsV farT) := (Blk.new w1 _ _).alloc _
       have R : Blk ((w1.alloc (.cells (leastsV farT) 46)).alloc (.cells (bitsV farT) 46)) (w1.heap.size + 1) 46 (bitsV farT) := Blk.new' _ _ _ _ (by simp)
       generalize (w1.alloc (.cells (leastsV farT) 46)).alloc (.cells (bitsV farT) 46) = W at *
       have hd := (R.cell i).trans (bitsV_at farT i hi)
       clear L R hb1))
  go_ret2
  exact ⟨rfl, hb2⟩

theorem rFarOf_bad (sym extra : Int) (w : World) (h : sym < 0 ∨ 29 < sym) :
    Calls Try.prog 16 #[.int .i64 sym, .int .i64 extra] w fun e w' => e = .returned (.tuple #[.int .i64 0, .int .i64 90]) ∧ Below w.heap.size w w' := by
  have H := Lib.hid h; clear h
  go_enter Try.func16, Try.ntmps16
  go_wp2_with fail
  refine (rFarBits_bad sym _ H.out).mono ?_
  rintro e w1 ⟨rfl, hb1⟩
  go_wp2_with fail
  go_ret2
  exact ⟨rfl, hb1⟩
end Go.Proofs.Ytkeempohhpjenaa
