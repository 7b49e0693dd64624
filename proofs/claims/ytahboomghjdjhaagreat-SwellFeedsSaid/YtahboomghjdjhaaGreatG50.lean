/-
  The document's windows.
-/
import Derived.Deep.RegionHeld3
import Derived.Test.YtahboomghjdjhaaGreatG27
import Derived.Test.YtahboomghjdjhaaGreatG37
import Derived.Test.YtahboomghjdjhaaGreatG42
import Derived.Test.YtahboomghjdjhaaGreatG45
import Derived.Test.YtahboomghjdjhaaGreatG48
import Derived.Test.YtahboomghjdjhaaGreatG49
import Derived.Test.YtahboomghjdjhaaGreatGSwFb
namespace Go.Proofs.YtahboomghjdjhaaGreat
open Go.RowKit

theorem win_size : (Tryz.prog.info? 30).map (·.size) = some 2 := by kernel_rfl

set_option maxRecDepth 100000 in
set_option maxHeartbeats 2000000 in
/-- A window, in new memory. -/
theorem wtwin06_any (s : Int) (A : Option Addr) (n c : Nat) (l : List Nat) (w : World) (hl : Rd w A (u8s l)) (hn : n = l.length) (hm : n ≤ 1000000) :
    Calls Tryz.prog 14 #[.agg #[.int .i64 s, .slice A n c]] w fun e w' => ∃ B d, e = .returned (.agg #[.int .i64 s, .slice B n d]) ∧ Builds w w' 5 1 B n d (u8s l) := by
  have HN := Lib.hid hn
  clear hn
  have hb0 : Below w.heap.size w ((w.alloc (.cells #[.int .i64 s, .slice A n c] 30)).alloc (.cells #[.int .i64 0, .slice none 0 0] 30)) := ((Below.refl _ _).alloc (Nat.le_refl _) _).alloc (by simp) _
  have k1 : Blk ((w.alloc (.cells #[.int .i64 s, .slice A n c] 30)).alloc (.cells #[.int .i64 0, .slice none 0 0] 30)) w.heap.size 30 #[.int .i64 s, .slice A n c] := Blk.alloc (Blk.new _ _ _) _
  have k2 : Blk ((w.alloc (.cells #[.int .i64 s, .slice A n c] 30)).alloc (.cells #[.int .i64 0, .slice none 0 0] 30)) (w.heap.size + 1) 30 #[.int .i64 0, .slice none 0 0] := Blk.new' _ _ _ _ (by simp)
  have hl0 := hl.below hb0
  clear hl
  go_enter Tryz.func14, Tryz.ntmps14
  go_upto_region 1 with fail
  change Code.wp _ _ _ _ ((w.alloc (.cells #[.int .i64 s, .slice A n c] 30)).alloc (.cells #[.int .i64 0, .slice none 0 0] 30))
  generalize (w.alloc (.cells #[.int .i64 s, .slice A n c] 30)).alloc (.cells #[.int .i64 0, .slice none 0 0] 30) = w1 at *
  have ct1 := Blk.cells k1
  have ct2 := Blk.cells k2
  have fx2 := Blk.frozens k2
  have HK := Lib.hid (And.intro k1 (And.intro k2 (And.intro hb0 hl0)))
  have HS := Lib.hid (fun wx (b : Below w1.heap.size w1 wx) => show (wx.cell? ⟨w.heap.size, 0, none⟩ = some (.int .i64 s) ∧ wx.cell? ⟨w.heap.size, 1, none⟩ = some (.slice A n c)) ∧ (∀ v0 v1, ((wx.setCell ⟨w.heap.size + 1, 0, none⟩ v0).setCell ⟨w.heap.size + 1, 1, none⟩ v1).cell? ⟨w.heap.size, 0, none⟩ = some (.int .i64 s) ∧ ((wx.setCell ⟨w.heap.size + 1, 0, none⟩ v0).setCell ⟨w.heap.size + 1, 1, none⟩ v1).cell? ⟨w.heap.size, 1, none⟩ = some (.slice A n c)) ∧ Blk wx (w.heap.size + 1) 30 #[.int .i64 0, .slice none 0 0] from by
    have kx := Blk.below k1 b (Blk.lt k1)
    exact ⟨⟨Blk.cell kx 0, Blk.cell kx 1⟩, fun v0 v1 => (by
      have ky := Blk.far (p := ⟨w.heap.size + 1, 1, none⟩) (Blk.far (p := ⟨w.heap.size + 1, 0, none⟩) kx (by simp) v0) (by simp) v1
      exact ⟨Blk.cell ky 0, Blk.cell ky 1⟩), Blk.below k2 b (Blk.lt k2)⟩)
  have s0 := (HS.out w1 (Below.refl _ _)).1
  clear k1 k2 hb0 hl0 ct1 ct2 fx2
  go_region_held3 (fun wx => wx.cell? ⟨w.heap.size, 0, none⟩ = some (.int .i64 s) ∧ wx.cell? ⟨w.heap.size, 1, none⟩ = some (.slice A n c)) (first | exact s0 | exact s1 | exact s2 _ _) (first
    | (refine step_grow selem_u8 rfl (.const (.slice none 0 0)) (.tmp 6) rfl rfl (Builds.nil' (W := w1) (by first | exact Below.refl _ _ | exact below_drewN' (Below.refl _ _) _ | exact Below.drew (Below.refl _ _)) _ _) rfl (by first | exact HK.out.2.2.2 | exact HK.out.2.2.2.drewN _ | exact HK.out.2.2.2.drew) (by rw [u8s_length, ← HN.out, Nat.mul_one]) (u8s_one _) n (by omega) (u8s l) rfl (by omega) (by omega) ?_; intro A6 c6 w6 hB6 hg6; have s1 := (HS.out _ hB6.1).1; have s2 := (HS.out _ hB6.1).2.1; have k6 := (HS.out _ hB6.1).2.2; have ct6 := Blk.cells k6; have fx6 := Blk.frozens k6))
  have k7 : Blk _ (w.heap.size + 1) 30 #[.int .i64 s, .slice A6 n c6] := Blk.set_ (Blk.set_ k6 0 (.int .i64 s)) 1 (.slice A6 n c6)
  have g7 := only_set (only_set (only_self w6 (w.heap.size + 1)) 0 (.int .i64 s)) 1 (.slice A6 n c6)
  go_wp2_with fail
  refine bodyPost_ret (results_cell_row Tryz.results14 _ _ (w.heap.size + 1) 30 _ (0, 0) _ rfl k7 Tryz.underlying30 rfl win_size) rfl ?_
  have hb6 := HK.out.2.2.1.trans (hB6.1.mono HK.out.2.2.1.size)
  exact ⟨A6, c6, rfl, Below.then_only hb6 g7 hb6.size (Nat.le_succ _), own_far_base (own_only hB6.2 k6 (by decide) g7) HK.out.2.2.1.size⟩
set_option maxRecDepth 100000 in
set_option maxHeartbeats 2000000 in
/-- Two windows. -/
theorem wsame06_any (s1 s2 : Int) (A B : Option Addr) (n1 c1 n2 c2 : Nat) (l1 l2 : List Nat) (w : World) (hA : Rd w A (u8s l1)) (hB : Rd w B (u8s l2)) (b1 : ∀ x ∈ l1, x < 256) (b2 : ∀ x ∈ l2, x < 256) (e1 : n1 = l1.length) (e2 : n2 = l2.length) :
    Calls Tryz.prog 23 #[.agg #[.int .i64 s1, .slice A n1 c1], .agg #[.int .i64 s2, .slice B n2 c2]] w fun e w' => e = .returned (.bool (decide (s1 = s2) && decide (l1 = l2))) ∧ Below w.heap.size w w' := by
  have hb0 : Below w.heap.size w ((w.alloc (.cells #[.int .i64 s1, .slice A n1 c1] 30)).alloc (.cells #[.int .i64 s2, .slice B n2 c2] 30)) := ((Below.refl _ _).alloc (Nat.le_refl _) _).alloc (by simp) _
  have k1 : Blk ((w.alloc (.cells #[.int .i64 s1, .slice A n1 c1] 30)).alloc (.cells #[.int .i64 s2, .slice B n2 c2] 30)) w.heap.size 30 #[.int .i64 s1, .slice A n1 c1] := Blk.alloc (Blk.new _ _ _) _
  have k2 : Blk ((w.alloc (.cells #[.int .i64 s1, .slice A n1 c1] 30)).alloc (.cells #[.int .i64 s2, .slice B n2 c2] 30)) (w.heap.size + 1) 30 #[.int .i64 s2, .slice B n2 c2] := Blk.new' _ _ _ _ (by simp)
  have hA0 := hA.below hb0
  have hB0 := hB.below hb0
  have HE := Lib.hid (And.intro e1 e2)
  clear hA hB e1 e2
  go_enter Tryz.func23, Tryz.ntmps23
  go_upto_region 1 with fail
  change Code.wp _ _ _ _ ((w.alloc (.cells #[.int .i64 s1, .slice A n1 c1] 30)).alloc (.cells #[.int .i64 s2, .slice B n2 c2] 30))
  generalize (w.alloc (.cells #[.int .i64 s1, .slice A n1 c1] 30)).alloc (.cells #[.int .i64 s2, .slice B n2 c2] 30) = w1 at *
  have ct1 := Blk.cells k1
  have ct2 := Blk.cells k2
  have hv1 := conv_bytes (P := Tryz.prog) w1 22 5 Tryz.underlying22 Tryz.underlying5 9 Tryz.underlying9 A l1 c1 (rd_u8 hA0 b1) (fun h => by have := hA0.2 h; simpa [u8s] using this)
  have hv2 := conv_bytes (P := Tryz.prog) w1 22 5 Tryz.underlying22 Tryz.underlying5 9 Tryz.underlying9 B l2 c2 (rd_u8 hB0 b2) (fun h => by have := hB0.2 h; simpa [u8s] using this)
  rw [← HE.out.1] at hv1
  rw [← HE.out.2] at hv2
  have HQ := Lib.hid (str_toList b1 b2)
  have hb1 := hb0
  clear k1 k2 hA0 hB0 hb0
  by_cases h1 : s1 = s2
  · subst h1
    go_wp2_with fail
    go_ret
    exact ⟨by rw [← HQ.out]; rfl, hb1⟩
  · have q1 : (s1 == s2) = false := beq_eq_false_iff_ne.2 h1
    have H1 := Lib.hid h1
    clear h1
    go_wp2_with fail
    go_ret
    exact ⟨by rw [decide_eq_false H1.out, Bool.false_and]; rfl, hb1⟩

set_option maxRecDepth 100000 in
set_option maxHeartbeats 2000000 in
/-- A window into which bytes went, in new memory. -/
theorem win06_any (s : Nat) (A B : Option Addr) (n1 c1 n2 c2 : Nat) (l b : List Nat) (w : World) (hA : Rd w A (u8s l)) (hB : Rd w B (u8s b)) (e1 : n1 = l.length) (e2 : n2 = b.length) (m1 : n1 ≤ 1000000) (m2 : n2 ≤ 1000000) :
    Calls Tryz.prog 36 #[.agg #[.int .i64 (s : Int), .slice A n1 c1], .slice B n2 c2] w fun e w' => Below w.heap.size w w' ∧ ∃ C d, e = .returned (.agg #[.int .i64 (s : Int), .slice C (lastL s (l ++ b)).length d]) ∧ (lastL s (l ++ b)).length ≤ d ∧ Rd w' C (u8s (lastL s (l ++ b))) ∧ (0 < (u8s (lastL s (l ++ b))).length → ∀ ad, C = some ad → w.heap.size ≤ ad.block) := by
  obtain ⟨N, hN⟩ : ∃ N, n1 + n2 = N := ⟨_, rfl⟩
  have hlen : (l ++ b).length = N := by rw [List.length_append]; omega
  have hNm : N ≤ 2000000 := by omega
  have HE := Lib.hid (And.intro e1 (And.intro e2 (And.intro hlen hN)))
  clear e1 e2 hlen hN
  have hb0 : Below w.heap.size w ((w.alloc (.cells #[.int .i64 (s : Int), .slice A n1 c1] 30)).alloc (.cells #[.int .i64 0, .slice none 0 0] 30)) := ((Below.refl _ _).alloc (Nat.le_refl _) _).alloc (by simp) _
  have k1 : Blk ((w.alloc (.cells #[.int .i64 (s : Int), .slice A n1 c1] 30)).alloc (.cells #[.int .i64 0, .slice none 0 0] 30)) w.heap.size 30 #[.int .i64 (s : Int), .slice A n1 c1] := Blk.alloc (Blk.new _ _ _) _
  have k2 : Blk ((w.alloc (.cells #[.int .i64 (s : Int), .slice A n1 c1] 30)).alloc (.cells #[.int .i64 0, .slice none 0 0] 30)) (w.heap.size + 1) 30 #[.int .i64 0, .slice none 0 0] := Blk.new' _ _ _ _ (by simp)
  have hA0 := hA.below hb0
  have hB0 := hB.below hb0
  clear hA hB
  go_enter Tryz.func36, Tryz.ntmps36
  go_upto_region 1 with fail
  change Code.wp _ _ _ _ ((w.alloc (.cells #[.int .i64 (s : Int), .slice A n1 c1] 30)).alloc (.cells #[.int .i64 0, .slice none 0 0] 30))
  generalize (w.alloc (.cells #[.int .i64 (s : Int), .slice A n1 c1] 30)).alloc (.cells #[.int .i64 0, .slice none 0 0] 30) = w1 at *
  have ct1 := Blk.cells k1
  go_upto_region 2 with (first
    | (refine grow selem_u8 rfl (.const (.slice none 0 0)) (.tmp 7) rfl rfl (Builds.nil' (W := w1) (Below.refl _ _) _ _) rfl hA0 (by rw [u8s_length, ← HE.out.1, Nat.mul_one]) (u8s_one _) n1 (by omega) (u8s l) rfl (by omega) (by omega) ?_; intro A2 c3 w2 hB2 hg2)
    | (refine grow selem_u8 rfl (.tmp 8) (.tmp 9) rfl rfl hB2 rfl (hB0.below hB2.1) (by rw [u8s_length, ← HE.out.2.1, Nat.mul_one]) (u8s_one _) N HE.out.2.2.2 (u8s (l ++ b)) (u8s_append _ _).symm (by omega) (by omega) ?_; intro A4 c4 w4 hB4 hg4))
  have k1a := Blk.below k1 hB4.1 (Blk.lt k1)
  have k2a := Blk.below k2 hB4.1 (Blk.lt k2)
  have hb4 := hb0.trans (hB4.1.mono hb0.size)
  have hO4 := hB4.2
  have HC := Lib.hid hB4.cap
  have H4 := Lib.hid (show 0 < (u8s (lastL s (l ++ b))).length → ∀ ad, A4 = some ad → w.heap.size ≤ ad.block from fun hn ad e => Nat.le_trans hb0.size (own_ge hB4.2 (by rw [u8s_length, lastL_length, HE.out.2.2.1] at hn; omega) ad e))
  clear k1 k2 ct1 hb0 hA0 hB0 hB2 hg2 hg4 hB4
  have ct1 := Blk.cells k1a
  have ct2 := Blk.cells k2a
  have fx2 := Blk.frozens k2a
  have done_ : ∀ (C : Option Addr) (m d : Nat), m = (lastL s (l ++ b)).length → m ≤ d → (∀ wx, Rd wx A4 (u8s (l ++ b)) → Rd wx C (u8s (lastL s (l ++ b)))) → (0 < (u8s (lastL s (l ++ b))).length → ∀ ad, C = some ad → w.heap.size ≤ ad.block) → Blk ((w4.setCell ⟨w.heap.size + 1, 0, none⟩ (.int .i64 (s : Int))).setCell ⟨w.heap.size + 1, 1, none⟩ (.slice C m d)) (w.heap.size + 1) 30 #[.int .i64 (s : Int), .slice C m d] ∧ (Below w.heap.size w ((w4.setCell ⟨w.heap.size + 1, 0, none⟩ (.int .i64 (s : Int))).setCell ⟨w.heap.size + 1, 1, none⟩ (.slice C m d)) ∧ ∃ C' d', Ending.returned (.agg #[.int .i64 (s : Int), .slice C m d]) = .returned (.agg #[.int .i64 (s : Int), .slice C' (lastL s (l ++ b)).length d']) ∧ (lastL s (l ++ b)).length ≤ d' ∧ Rd ((w4.setCell ⟨w.heap.size + 1, 0, none⟩ (.int .i64 (s : Int))).setCell ⟨w.heap.size + 1, 1, none⟩ (.slice C m d)) C' (u8s (lastL s (l ++ b))) ∧ (0 < (u8s (lastL s (l ++ b))).length → ∀ ad, C' = some ad → w.heap.size ≤ ad.block)) := fun C m d hm hd hr hC => by
    subst hm
    have k7 : Blk _ (w.heap.size + 1) 30 #[.int .i64 (s : Int), .slice C (lastL s (l ++ b)).length d] := Blk.set_ (Blk.set_ k2a 0 (.int .i64 (s : Int))) 1 (.slice C (lastL s (l ++ b)).length d)
    have g7 := only_set (only_set (only_self w4 (w.heap.size + 1)) 0 (.int .i64 (s : Int))) 1 (.slice C (lastL s (l ++ b)).length d)
    exact ⟨k7, Below.then_only hb4 g7 hb4.size (Nat.le_succ _), C, d, rfl, hd, hr _ (own_rd (own_only hO4 k2a (by decide) g7)), hC⟩
  have HD := Lib.hid done_
  clear done_
  by_cases h1 : (s : Int) < (N : Int)
  · have q1 : decide ((s : Int) < (N : Int)) = true := decide_eq_true h1
    go_upto_region 4 with (refine tailsB rfl (.tmp 16) (.tmp 21) rfl Tryz.underlying22 (by kernel_rfl) rfl rfl (N - s) (by omega) (by omega) HC.out ?_; intro A' hA' hAB)
    have hlast : lastL s (l ++ b) = (l ++ b).drop (N - s) := by unfold lastL; rw [HE.out.2.2.1]
    have hrd : ∀ wx, Rd wx A4 (u8s (l ++ b)) → Rd wx A' (u8s (lastL s (l ++ b))) := fun wx hr4 => by
      have := hA' _ _ hr4 (by rw [u8s_length, HE.out.2.2.1, Nat.mul_one])
      rw [Nat.mul_one] at this
      rw [hlast]
      unfold u8s at this ⊢
      rw [List.map_drop]
      exact this
    have hll : N - (N - s) = (lastL s (l ++ b)).length := by rw [hlast, List.length_drop, HE.out.2.2.1]
    obtain ⟨k7, hres⟩ := HD.out A' (N - (N - s)) (c4 - (N - s)) hll (by have := HC.out; omega) hrd (fun hn ad e => by obtain ⟨ad0, e0, hb⟩ := hAB ad e; rw [hb]; exact H4.out hn ad0 e0)
    clear hlast hrd hll hA' hAB
    go_wp2_with fail
    refine bodyPost_ret (results_cell_row Tryz.results36 _ _ (w.heap.size + 1) 30 _ (0, 0) _ rfl k7 Tryz.underlying30 rfl win_size) rfl ?_
    exact hres
  · have q1 : decide ((s : Int) < (N : Int)) = false := decide_eq_false h1
    have hlast : lastL s (l ++ b) = l ++ b := by unfold lastL; rw [HE.out.2.2.1, show N - s = 0 by omega, List.drop_zero]
    obtain ⟨k7, hres⟩ := HD.out A4 N c4 (by rw [hlast, HE.out.2.2.1]) HC.out (fun wx h => by rw [hlast]; exact h) H4.out
    clear hlast
    go_wp2_with fail
    refine bodyPost_ret (results_cell_row Tryz.results36 _ _ (w.heap.size + 1) 30 _ (0, 0) _ rfl k7 Tryz.underlying30 rfl win_size) rfl ?_
    exact hres

set_option maxRecDepth 100000 in
set_option maxHeartbeats 2000000 in
/-- A copy's bytes. -/
theorem copied06_any (A : Option Addr) (n c : Nat) (l : List Nat) (D M : Nat) (w : World) (hA : Rd w A (u8s l)) (hl : ∀ x ∈ l, x < 256) (hn : n = l.length) (hm : n ≤ 1000000) (hD : 1 ≤ D) (hDn : D ≤ n) (hM : M ≤ 100000) :
    Calls Tryz.prog 35 #[.slice A n c, .int .i64 (D : Int), .int .i64 (M : Int)] w fun e w' => Below w.heap.size w w' ∧ ∃ C d, e = .returned (.slice C M d) ∧ M ≤ d ∧ Rd w' C (u8s ((copyL l D M).drop l.length)) ∧ (0 < (u8s ((copyL l D M).drop l.length)).length → ∀ ad, C = some ad → w.heap.size ≤ ad.block) := by
  have HN := Lib.hid hn
  clear hn
  go_enter Tryz.func35, Tryz.ntmps35
  go_wp2_with (refine grow selem_u8 rfl (.const (.slice none 0 0)) (.tmp 9) rfl rfl (Builds.nil' (W := w) (Below.refl _ _) _ _) rfl hA (by rw [u8s_length, ← HN.out, Nat.mul_one]) (u8s_one _) n (by omega) (u8s l) rfl (by omega) (by omega) ?_; intro A2 c3 w2 hB2 hg2)
  clear hg2
  go_loopg [7, 8] M (fun gk va vi wr => ∃ (i m d : Nat) (B : Option Addr), i ≤ M ∧ gk = M - i ∧ vi = .int .i64 (i : Int) ∧ m = n + i ∧ va = .slice B m d ∧ Builds w wr 5 1 B m d (u8s (copyL l D i)))
  case atStart => exact ⟨0, n, c3, A2, by omega, by omega, rfl, rfl, rfl, hB2⟩
  case round =>
    obtain ⟨i, m, d, B, hi, hgk, rfl, hmi, rfl, hB⟩ := hrel
    have hlen : (copyL l D i).length = m := by rw [copyL_length]; have := HN.out; omega
    have hbytes := copyL_bytes hl D i
    have hm9 : m ≤ 1100000 := by omega
    have hDm : D ≤ m := by omega
    have hml : n ≤ m := by omega
    have HI := Lib.hid (And.intro hi (And.intro hgk hmi))
    clear hi hgk hmi
    by_cases hlt : i < M
    · obtain ⟨g, rfl, hg0, hg1⟩ := hB.at_ (by omega)
      have hcell := hB.rd.at_ (by rw [u8s_length]; omega)
      obtain ⟨b', o', hbo, hcl⟩ := hcell
      injection hbo with hbo
      injection hbo with e1 e2 _
      subst e1 e2
      have hc1 := hcl (m - D) _ (u8s_get (copyL l D i) (m - D) (by omega))
      rw [Nat.zero_add] at hc1
      have hx := nth_lt hbytes (by omega) (m - D)
      obtain ⟨x, hX⟩ : ∃ x, nth (copyL l D i) (m - D) = x := ⟨_, rfl⟩
      rw [hX] at hc1 hx
      have HX := Lib.hid (And.intro hX hlen)
      have HB := Lib.hid (And.intro hB hbytes)
      have hw1 : IntKind.i64.wrap ((m : Int) - (D : Int)) = ((m - D : Nat) : Int) := by rw [IntWalk.i64_in _ (by omega)]; omega
      clear hX hlen hcl hbytes hB hB2 hA
      go_wp2_with (refine grow selem_u8 rfl (.tmp 16) (.tmp 24) rfl rfl (HB.out.1.alloc _) rfl (Rd.new' _ _ _ (u8s [x]) _ (by simp) rfl) rfl (u8s_one _) (m + 1) rfl (u8s (copyL l D i ++ [x])) (u8s_append _ _).symm (by omega) (by omega) ?_; intro A4 c4 w4 hB4 hg4)
      go_roundg (M - (i + 1))
      case measure => have := HI.out; omega
      case rel =>
        refine ⟨i + 1, m + 1, c4, A4, by omega, rfl, by go_num, by have := HI.out.2.2; omega, rfl, ?_⟩
        have e : copyL l D (i + 1) = copyL l D i ++ [x] := by show copyL l D i ++ [nth (copyL l D i) ((copyL l D i).length - D)] = _; rw [HX.out.2, HX.out.1]
        rw [e]
        exact hB4
    · obtain rfl : i = M := by have := HI.out; omega
      have HC := Lib.hid hB.cap
      have HB := Lib.hid (And.intro hB hlen)
      clear hB hbytes hlen hB2 hA
      go_wp2_with (refine tailsB rfl (.tmp 26) (.tmp 28) rfl Tryz.underlying22 (by kernel_rfl) rfl rfl n (by omega) (by omega) HC.out ?_; intro A' hA' hAB)
      go_ret
      have h1 := hA' _ _ HB.out.1.rd (by rw [u8s_length, HB.out.2, Nat.mul_one])
      have h2 := HI.out.2.2
      refine ⟨HB.out.1.1, A', d - n, by rw [show m - n = i by omega]; rfl, by have := HC.out; omega, ?_, fun hl ad e => ?_⟩
      · rw [u8s_dropL, ← HN.out]
        rw [Nat.mul_one] at h1
        exact h1
      · obtain ⟨ad0, e0, hb⟩ := hAB ad e
        rw [hb]
        exact own_ge HB.out.1.2 (by rw [u8s_length, List.length_drop, HB.out.2] at hl; omega) ad0 e0
end Go.Proofs.YtahboomghjdjhaaGreat

/-
  The document's streams: New, May, Check.
-/
namespace Go.Proofs.YtahboomghjdjhaaGreat
open Go.RowKit

set_option maxRecDepth 100000 in
set_option maxHeartbeats 4000000 in
theorem rnew14_any (most : Int) (w : World) : Calls Tryz.prog 7 #[.int .i64 most] w fun r w' => NewRes w w' most r := by
  have hb0 : Below w.heap.size w (w.alloc (.cells (cellsOf 45 swZ) 32)) := (Below.refl _ _).alloc (Nat.le_refl _) _
  have k0 : Arr (w.alloc (.cells (cellsOf 45 swZ) 32)) w.heap.size 32 45 swZ := Blk.new _ _ _
  go_enter Tryz.func7, Tryz.ntmps7
  go_upto_region 1 with (fail)
  change Code.wp _ _ _ _ (w.alloc (.cells (cellsOf 45 swZ) 32))
  generalize w.alloc (.cells (cellsOf 45 swZ) 32) = w0 at *
  by_cases h1 : most < 0
  · have HR := Lib.hid (show ∀ w', Below w.heap.size w w' → NewRes w w' most (.returned (.tuple #[.agg (cellsOf 45 swZ), .int .i64 2])) from fun w' hb => ⟨hb, by rw [if_neg (by omega), if_neg (by omega)]; rfl⟩)
    have e1 : decide (most < 0) = true := decide_eq_true h1
    go_wp2_with (refine store_over rfl 32 (.tmp 2) (.tmp 10) (f := swZ) rfl rfl rfl k0 sw_size (fun i _ => swH_one _ _ _ _ _ _ _ _ _ _ _ _ _ i) ?_; intro w3 k3 g3)
    refine bodyPost_ret (results_two Tryz.results7 _ _ w.heap.size 32 _ _ _ rfl rfl k3 Tryz.underlying32 rfl (by rw [cellsOf_size]; exact sw_size)) rfl ?_
    exact HR.out _ (Below.then_only hb0 g3 hb0.size (Nat.le_refl _))
  · have e1 : decide (most < 0) = false := decide_eq_false h1
    by_cases h2 : 131072 < most
    · have HR := Lib.hid (show ∀ w', Below w.heap.size w w' → NewRes w w' most (.returned (.tuple #[.agg (cellsOf 45 swZ), .int .i64 2])) from fun w' hb => ⟨hb, by rw [if_neg (by omega), if_neg (by omega)]; rfl⟩)
      have e2 : decide (131072 < most) = true := decide_eq_true h2
      go_wp2_with (refine store_over rfl 32 (.tmp 2) (.tmp 10) (f := swZ) rfl rfl rfl k0 sw_size (fun i _ => swH_one _ _ _ _ _ _ _ _ _ _ _ _ _ i) ?_; intro w3 k3 g3)
      refine bodyPost_ret (results_two Tryz.results7 _ _ w.heap.size 32 _ _ _ rfl rfl k3 Tryz.underlying32 rfl (by rw [cellsOf_size]; exact sw_size)) rfl ?_
      exact HR.out _ (Below.then_only hb0 g3 hb0.size (Nat.le_refl _))
    · have HR := Lib.hid (show ∀ w', Below w.heap.size w w' → NewRes w w' most (.returned (.tuple #[.agg (cellsOf 45 (swN most)), .int .i64 0])) from fun w' hb => ⟨hb, by rw [if_pos (by omega), if_pos (by omega)]; rfl⟩)
      have e2 : decide (131072 < most) = false := decide_eq_false h2
      go_wp2_with (refine store_over rfl 32 (.tmp 2) (.tmp 13) (f := swN most) rfl rfl rfl k0 sw_size (fun i _ => swH_one _ _ _ _ _ _ _ _ _ _ _ _ _ i) ?_; intro w3 k3 g3)
      refine bodyPost_ret (results_two Tryz.results7 _ _ w.heap.size 32 _ _ _ rfl rfl k3 Tryz.underlying32 rfl (by rw [cellsOf_size]; exact sw_size)) rfl ?_
      exact HR.out _ (Below.then_only hb0 g3 hb0.size (Nat.le_refl _))

/-- May a stream be, limb by limb. -/
theorem ck_limbs (most made at0 size : Int) (nA nw : Nat) (over op ck zk : Bool) : (ckN most made at0 && (ckI nA at0 over op && (ckW size made nw && ((op && ck) || (!op && zk))))) = true ↔
    0 ≤ most ∧ most ≤ 131072 ∧ 0 ≤ made ∧ made ≤ most ∧ 0 ≤ at0 ∧ at0 ≤ 7 ∧ nA ≤ 600 ∧ (0 < nA ∨ at0 = 0) ∧ (over = true → op = false ∧ nA = 0) ∧ size = 32768 ∧ ((nw : Int) = if 32768 < made then 32768 else made) ∧ ((op = true ∧ ck = true) ∨ (op = false ∧ zk = true)) := by
  unfold ckN ckI ckW
  simp only [Bool.and_eq_true, Bool.or_eq_true, decide_eq_true_eq, Bool.not_eq_true']
  constructor
  · rintro ⟨⟨a1, a2, a3, a4, a5, a6⟩, ⟨b1, b2, b3⟩, ⟨c1, c2⟩, d⟩
    exact ⟨a1, a2, a3, a4, a5, a6, b1, b2, fun h => (by rcases b3 with h' | h'; (rw [h] at h'; cases h'); exact h'), c1, c2, d⟩
  · rintro ⟨a1, a2, a3, a4, a5, a6, b1, b2, b3, c1, c2, d⟩
    refine ⟨⟨a1, a2, a3, a4, a5, a6⟩, ⟨b1, b2, ?_⟩, ⟨c1, c2⟩, d⟩
    cases over
    · exact .inl rfl
    · exact .inr (b3 rfl)
set_option maxRecDepth 100000 in
set_option maxHeartbeats 8000000 in
theorem rmay14_any (s : Wv) (w : World) (hs : s.ok w) (hkind : s.bk.kind ≤ 255) :
    Calls Tryz.prog 20 #[.agg (cellsOf 45 s.F)] w fun r w' => r = .returned (.bool (ckS s)) ∧ Below w.heap.size w w' := by
  have hbk := hs.bk
  obtain ⟨most, made, A, nA, cA, lA, at0, bk, op, size, Bw, nw, cw, lw, over⟩ := s
  have HP := Lib.hid fun wx (h : Below w.heap.size w wx) => (show Calls Tryz.prog 31 #[.agg (cellsOf 37 bk.F)] wx _ from rck13_any bk.kind bk.last bk.left bk.f1 bk.C1 bk.m1 bk.d1 bk.x1 bk.f2 bk.C2 bk.m2 bk.d2 bk.x2 wx (hbk.r1.below h) hbk.l1 hbk.b1 (hbk.r2.below h) hbk.l2 hbk.b2 hkind)
  have HZ := Lib.hid fun wx (h : Below w.heap.size w wx) => (show Calls Tryz.prog 22 #[.agg (cellsOf 37 bk.F), .agg (cellsOf 37 zeroV.F)] wx _ from rsame13_any bk zeroV wx (hbk.below h) (zeroV_ok _))
  have hmA := hs.maxA
  have hmw := hs.maxw
  dsimp only at hmA hmw
  unfold ckS Wv.F
  dsimp only
  obtain ⟨ck, hck⟩ : ∃ c, ckB bk.kind bk.left bk.f1 bk.x1 bk.f2 bk.x2 = c := ⟨_, rfl⟩
  obtain ⟨zk, hzk⟩ : ∃ c, sameV bk zeroV = c := ⟨_, rfl⟩
  have hO : ckO op bk = ((op && ck) || (!op && zk)) := by unfold ckO; rw [hck, hzk]
  rw [hck] at HP
  rw [hzk] at HZ
  rw [hO]
  unfold CkdRes at HP
  obtain ⟨K, hK⟩ : ∃ K, bk.F = K := ⟨_, rfl⟩
  rw [hK] at HP HZ
  rw [hK]
  clear hck hzk hK hs hbk hO hkind
  have HI := Lib.hid (ck_limbs most made at0 size nA nw over op ck zk)
  obtain ⟨RR, hRR⟩ : ∃ R, (ckN most made at0 && (ckI nA at0 over op && (ckW size made nw && ((op && ck) || (!op && zk))))) = R := ⟨_, rfl⟩
  rw [hRR] at HI
  rw [hRR]
  clear hRR
  have hbw : Below w.heap.size w (w.alloc (.cells (cellsOf 45 (swH most made (.slice A nA cA) at0 K op size (.slice Bw nw cw) over)) 32)) := (Below.refl _ _).alloc (Nat.le_refl _) _
  have k0 : Arr (w.alloc (.cells (cellsOf 45 (swH most made (.slice A nA cA) at0 K op size (.slice Bw nw cw) over)) 32)) w.heap.size 32 45 (swH most made (.slice A nA cA) at0 K op size (.slice Bw nw cw) over) := Blk.new _ _ _
  go_enter Tryz.func20, Tryz.ntmps20
  go_upto_region 1 with (fail)
  change Code.wp _ _ _ _ (w.alloc (.cells (cellsOf 45 (swH most made (.slice A nA cA) at0 K op size (.slice Bw nw cw) over)) 32))
  generalize w.alloc (.cells (cellsOf 45 (swH most made (.slice A nA cA) at0 K op size (.slice Bw nw cw) over)) 32) = w0 at *
  have c0 : w0.cell? ⟨w.heap.size, 0, none⟩ = some (.int .i64 most) := Arr.cell k0 0 (by omega)
  have c1 : w0.cell? ⟨w.heap.size, 1, none⟩ = some (.int .i64 made) := Arr.cell k0 1 (by omega)
  have c2 : w0.cell? ⟨w.heap.size, 2, none⟩ = some (.slice A nA cA) := Arr.cell k0 2 (by omega)
  have c3 : w0.cell? ⟨w.heap.size, 3, none⟩ = some (.int .i64 at0) := Arr.cell k0 3 (by omega)
  have c41 : w0.cell? ⟨w.heap.size, 41, none⟩ = some (.bool op) := Arr.cell k0 41 (by omega)
  have c42 : w0.cell? ⟨w.heap.size, 42, none⟩ = some (.int .i64 size) := Arr.cell k0 42 (by omega)
  have c43 : w0.cell? ⟨w.heap.size, 43, none⟩ = some (.slice Bw nw cw) := Arr.cell k0 43 (by omega)
  have c44 : w0.cell? ⟨w.heap.size, 44, none⟩ = some (.bool over) := Arr.cell k0 44 (by omega)
  by_cases h1 : most < 0
  · have HR := Lib.hid (show RR = false from Bool.eq_false_iff.2 fun e => by have := HI.out.1 e; omega)
    have q1 : decide (most < 0) = true := decide_eq_true h1
    go_wp2_with fail
    go_ret
    exact ⟨by rw [HR.out] <;> rfl, hbw⟩
  have q1 : decide (most < 0) = false := decide_eq_false h1
  by_cases h2 : 131072 < most
  · have HR := Lib.hid (show RR = false from Bool.eq_false_iff.2 fun e => by have := HI.out.1 e; omega)
    have q2 : decide (131072 < most) = true := decide_eq_true h2
    go_wp2_with fail
    go_ret
    exact ⟨by rw [HR.out] <;> rfl, hbw⟩
  have q2 : decide (131072 < most) = false := decide_eq_false h2
  by_cases h3 : made < 0
  · have HR := Lib.hid (show RR = false from Bool.eq_false_iff.2 fun e => by have := HI.out.1 e; omega)
    have q3 : decide (made < 0) = true := decide_eq_true h3
    go_wp2_with fail
    go_ret
    exact ⟨by rw [HR.out] <;> rfl, hbw⟩
  have q3 : decide (made < 0) = false := decide_eq_false h3
  by_cases h4 : most < made
  · have HR := Lib.hid (show RR = false from Bool.eq_false_iff.2 fun e => by have := HI.out.1 e; omega)
    have q4 : decide (most < made) = true := decide_eq_true h4
    go_wp2_with fail
    go_ret
    exact ⟨by rw [HR.out] <;> rfl, hbw⟩
  have q4 : decide (most < made) = false := decide_eq_false h4
  by_cases h5 : at0 < 0
  · have HR := Lib.hid (show RR = false from Bool.eq_false_iff.2 fun e => by have := HI.out.1 e; omega)
    have q5 : decide (at0 < 0) = true := decide_eq_true h5
    go_wp2_with fail
    go_ret
    exact ⟨by rw [HR.out] <;> rfl, hbw⟩
  have q5 : decide (at0 < 0) = false := decide_eq_false h5
  by_cases h6 : 7 < at0
  · have HR := Lib.hid (show RR = false from Bool.eq_false_iff.2 fun e => by have := HI.out.1 e; omega)
    have q6 : decide (7 < at0) = true := decide_eq_true h6
    go_wp2_with fail
    go_ret
    exact ⟨by rw [HR.out] <;> rfl, hbw⟩
  have q6 : decide (7 < at0) = false := decide_eq_false h6
  by_cases h7 : 600 < nA
  · have HR := Lib.hid (show RR = false from Bool.eq_false_iff.2 fun e => by have := HI.out.1 e; omega)
    have q7 : decide ((600 : Int) < (nA : Int)) = true := decide_eq_true (by omega)
    go_wp2_with fail
    go_ret
    exact ⟨by rw [HR.out] <;> rfl, hbw⟩
  have q7 : decide ((600 : Int) < (nA : Int)) = false := decide_eq_false (by omega)
  by_cases h8 : nA = 0 ∧ at0 ≠ 0
  · have HR := Lib.hid (show RR = false from Bool.eq_false_iff.2 fun e => by have := HI.out.1 e; omega)
    have q8 : ((nA : Int) == 0) = true := by rw [beq_iff_eq]; omega
    have q9 : (at0 != 0) = true := by rw [bne_iff_ne]; exact h8.2
    go_wp2_with fail
    go_ret
    exact ⟨by rw [HR.out] <;> rfl, hbw⟩
  have q8 : ((nA : Int) == 0) = false ∨ (((nA : Int) == 0) = true ∧ (at0 != 0) = false) := by
    by_cases e : nA = 0
    · right; refine ⟨by rw [beq_iff_eq]; omega, ?_⟩; rw [bne_eq_false_iff_eq]; exact Classical.not_not.1 fun e' => h8 ⟨e, e'⟩
    · left; rw [beq_eq_false_iff_ne]; omega
  have HC := Lib.hid (show (0 < nA ∨ at0 = 0) by omega)
  rcases q8 with q8 | ⟨q8, q9⟩
  · skip
    go_upto_region 3 with fail
    by_cases h9 : size ≠ 32768
    · have HR := Lib.hid (show RR = false from Bool.eq_false_iff.2 fun e => by have := HI.out.1 e; omega)
      have r1 : (size != 32768) = true := by rw [bne_iff_ne]; exact h9
      go_wp2_with fail
      go_ret
      exact ⟨by rw [HR.out] <;> rfl, hbw⟩
    have r1 : (size != 32768) = false := by rw [bne_eq_false_iff_eq]; exact Classical.not_not.1 h9
    by_cases h10 : 32768 < made
    · have z1 : ¬ made ≤ 32768 := by omega
      have z2 : min made 32768 = 32768 := by omega
      by_cases h11 : (nw : Int) ≠ 32768
      · have HR := Lib.hid (show RR = false from Bool.eq_false_iff.2 fun e => by have := HI.out.1 e; rw [if_pos h10] at this; exact h11 this.2.2.2.2.2.2.2.2.2.2.1)
        have r2 : ((nw : Int) != 32768) = true := by rw [bne_iff_ne]; exact h11
        go_wp2_with fail
        go_ret
        exact ⟨by rw [HR.out] <;> rfl, hbw⟩
      have r2 : ((nw : Int) != 32768) = false := by rw [bne_eq_false_iff_eq]; exact Classical.not_not.1 h11
      have HW := Lib.hid (show (nw : Int) = if 32768 < made then 32768 else made by rw [if_pos h10]; exact Classical.not_not.1 h11)
      have HS := Lib.hid (Classical.not_not.1 h9)
      cases over with
      | false =>
        cases op with
        | true =>
          have HR := Lib.hid (show RR = ck from Bool.eq_iff_iff.2 ⟨fun e => (by rcases (HI.out.1 e).2.2.2.2.2.2.2.2.2.2.2 with ⟨_, h⟩ | ⟨h, _⟩; exact h; cases h), fun e => HI.out.2 ⟨by omega, by omega, by omega, by omega, by omega, by omega, by omega, HC.out, fun e => (by cases e), HS.out, HW.out, .inl ⟨rfl, e⟩⟩⟩)
          go_upto_region 6 with fail
          cases ck with
          | true =>
            go_wp2_with (first
              | (go_at_call 31; refine (HP.out _ hbw).mono ?_; rintro e w2 ⟨rfl, h2⟩; have hh2 := hbw.trans (h2.mono hbw.size))
              | (refine load_sub rfl 28 (.tmp 80) rfl rfl k0 37 (by omega) Tryz.underlying28 rfl bk_size K (fun i hi => swH_bk _ _ _ _ _ _ _ _ _ i hi) ?_))
            go_ret
            exact ⟨by rw [HR.out] <;> rfl, hh2⟩
          | false =>
            go_wp2_with (first
              | (go_at_call 31; refine (HP.out _ hbw).mono ?_; rintro e w2 ⟨rfl, h2⟩; have hh2 := hbw.trans (h2.mono hbw.size))
              | (refine load_sub rfl 28 (.tmp 80) rfl rfl k0 37 (by omega) Tryz.underlying28 rfl bk_size K (fun i hi => swH_bk _ _ _ _ _ _ _ _ _ i hi) ?_))
            go_ret
            exact ⟨by rw [HR.out] <;> rfl, hh2⟩
        | false =>
          have HR := Lib.hid (show RR = zk from Bool.eq_iff_iff.2 ⟨fun e => (by rcases (HI.out.1 e).2.2.2.2.2.2.2.2.2.2.2 with ⟨h, _⟩ | ⟨_, h⟩; cases h; exact h), fun e => HI.out.2 ⟨by omega, by omega, by omega, by omega, by omega, by omega, by omega, HC.out, fun e => (by cases e), HS.out, HW.out, .inr ⟨rfl, e⟩⟩⟩)
          go_upto_region 7 with fail
          go_wp2_with (first
            | (go_at_call 22; refine (HZ.out _ hbw).mono ?_; rintro e w2 ⟨rfl, h2⟩; have hh2 := hbw.trans (h2.mono hbw.size))
            | (refine load_sub rfl 28 (.tmp 84) rfl rfl k0 37 (by omega) Tryz.underlying28 rfl bk_size K (fun i hi => swH_bk _ _ _ _ _ _ _ _ _ i hi) ?_)
            | (refine wpList_build_to rfl _ _ rfl (cellsOf 37 zeroV.F) (by kernel_rfl) ?_))
          go_ret
          exact ⟨by rw [HR.out] <;> rfl, hh2⟩
      | true =>
        cases op with
        | true =>
          have HR := Lib.hid (show RR = false from Bool.eq_false_iff.2 fun e => by have := (HI.out.1 e).2.2.2.2.2.2.2.2.1 rfl; cases this.1)
          go_wp2_with fail
          go_ret
          exact ⟨by rw [HR.out] <;> rfl, hbw⟩
        | false =>
          by_cases h12 : 0 < nA
          · have HR := Lib.hid (show RR = false from Bool.eq_false_iff.2 fun e => by have := (HI.out.1 e).2.2.2.2.2.2.2.2.1 rfl; omega)
            have r3 : decide ((0 : Int) < (nA : Int)) = true := decide_eq_true (by omega)
            go_wp2_with fail
            go_ret
            exact ⟨by rw [HR.out] <;> rfl, hbw⟩
          have r3 : decide ((0 : Int) < (nA : Int)) = false := decide_eq_false (by omega)
          have HR := Lib.hid (show RR = zk from Bool.eq_iff_iff.2 ⟨fun e => (by rcases (HI.out.1 e).2.2.2.2.2.2.2.2.2.2.2 with ⟨h, _⟩ | ⟨_, h⟩; cases h; exact h), fun e => HI.out.2 ⟨by omega, by omega, by omega, by omega, by omega, by omega, by omega, HC.out, fun _ => ⟨rfl, (by omega)⟩, HS.out, HW.out, .inr ⟨rfl, e⟩⟩⟩)
          go_upto_region 7 with fail
          go_wp2_with (first
            | (go_at_call 22; refine (HZ.out _ hbw).mono ?_; rintro e w2 ⟨rfl, h2⟩; have hh2 := hbw.trans (h2.mono hbw.size))
            | (refine load_sub rfl 28 (.tmp 84) rfl rfl k0 37 (by omega) Tryz.underlying28 rfl bk_size K (fun i hi => swH_bk _ _ _ _ _ _ _ _ _ i hi) ?_)
            | (refine wpList_build_to rfl _ _ rfl (cellsOf 37 zeroV.F) (by kernel_rfl) ?_))
          go_ret
          exact ⟨by rw [HR.out] <;> rfl, hh2⟩
    · have z1 : made ≤ 32768 := by omega
      have z2 : min made 32768 = made := by omega
      by_cases h11 : (nw : Int) ≠ made
      · have HR := Lib.hid (show RR = false from Bool.eq_false_iff.2 fun e => by have := HI.out.1 e; rw [if_neg h10] at this; exact h11 this.2.2.2.2.2.2.2.2.2.2.1)
        have r2 : ((nw : Int) != made) = true := by rw [bne_iff_ne]; exact h11
        go_wp2_with fail
        go_ret
        exact ⟨by rw [HR.out] <;> rfl, hbw⟩
      have r2 : ((nw : Int) != made) = false := by rw [bne_eq_false_iff_eq]; exact Classical.not_not.1 h11
      have HW := Lib.hid (show (nw : Int) = if 32768 < made then 32768 else made by rw [if_neg h10]; exact Classical.not_not.1 h11)
      have HS := Lib.hid (Classical.not_not.1 h9)
      cases over with
      | false =>
        cases op with
        | true =>
          have HR := Lib.hid (show RR = ck from Bool.eq_iff_iff.2 ⟨fun e => (by rcases (HI.out.1 e).2.2.2.2.2.2.2.2.2.2.2 with ⟨_, h⟩ | ⟨h, _⟩; exact h; cases h), fun e => HI.out.2 ⟨by omega, by omega, by omega, by omega, by omega, by omega, by omega, HC.out, fun e => (by cases e), HS.out, HW.out, .inl ⟨rfl, e⟩⟩⟩)
          go_upto_region 6 with fail
          cases ck with
          | true =>
            go_wp2_with (first
              | (go_at_call 31; refine (HP.out _ hbw).mono ?_; rintro e w2 ⟨rfl, h2⟩; have hh2 := hbw.trans (h2.mono hbw.size))
              | (refine load_sub rfl 28 (.tmp 80) rfl rfl k0 37 (by omega) Tryz.underlying28 rfl bk_size K (fun i hi => swH_bk _ _ _ _ _ _ _ _ _ i hi) ?_))
            go_ret
            exact ⟨by rw [HR.out] <;> rfl, hh2⟩
          | false =>
            go_wp2_with (first
              | (go_at_call 31; refine (HP.out _ hbw).mono ?_; rintro e w2 ⟨rfl, h2⟩; have hh2 := hbw.trans (h2.mono hbw.size))
              | (refine load_sub rfl 28 (.tmp 80) rfl rfl k0 37 (by omega) Tryz.underlying28 rfl bk_size K (fun i hi => swH_bk _ _ _ _ _ _ _ _ _ i hi) ?_))
            go_ret
            exact ⟨by rw [HR.out] <;> rfl, hh2⟩
        | false =>
          have HR := Lib.hid (show RR = zk from Bool.eq_iff_iff.2 ⟨fun e => (by rcases (HI.out.1 e).2.2.2.2.2.2.2.2.2.2.2 with ⟨h, _⟩ | ⟨_, h⟩; cases h; exact h), fun e => HI.out.2 ⟨by omega, by omega, by omega, by omega, by omega, by omega, by omega, HC.out, fun e => (by cases e), HS.out, HW.out, .inr ⟨rfl, e⟩⟩⟩)
          go_upto_region 7 with fail
          go_wp2_with (first
            | (go_at_call 22; refine (HZ.out _ hbw).mono ?_; rintro e w2 ⟨rfl, h2⟩; have hh2 := hbw.trans (h2.mono hbw.size))
            | (refine load_sub rfl 28 (.tmp 84) rfl rfl k0 37 (by omega) Tryz.underlying28 rfl bk_size K (fun i hi => swH_bk _ _ _ _ _ _ _ _ _ i hi) ?_)
            | (refine wpList_build_to rfl _ _ rfl (cellsOf 37 zeroV.F) (by kernel_rfl) ?_))
          go_ret
          exact ⟨by rw [HR.out] <;> rfl, hh2⟩
      | true =>
        cases op with
        | true =>
          have HR := Lib.hid (show RR = false from Bool.eq_false_iff.2 fun e => by have := (HI.out.1 e).2.2.2.2.2.2.2.2.1 rfl; cases this.1)
          go_wp2_with fail
          go_ret
          exact ⟨by rw [HR.out] <;> rfl, hbw⟩
        | false =>
          by_cases h12 : 0 < nA
          · have HR := Lib.hid (show RR = false from Bool.eq_false_iff.2 fun e => by have := (HI.out.1 e).2.2.2.2.2.2.2.2.1 rfl; omega)
            have r3 : decide ((0 : Int) < (nA : Int)) = true := decide_eq_true (by omega)
            go_wp2_with fail
            go_ret
            exact ⟨by rw [HR.out] <;> rfl, hbw⟩
          have r3 : decide ((0 : Int) < (nA : Int)) = false := decide_eq_false (by omega)
          have HR := Lib.hid (show RR = zk from Bool.eq_iff_iff.2 ⟨fun e => (by rcases (HI.out.1 e).2.2.2.2.2.2.2.2.2.2.2 with ⟨h, _⟩ | ⟨_, h⟩; cases h; exact h), fun e => HI.out.2 ⟨by omega, by omega, by omega, by omega, by omega, by omega, by omega, HC.out, fun _ => ⟨rfl, (by omega)⟩, HS.out, HW.out, .inr ⟨rfl, e⟩⟩⟩)
          go_upto_region 7 with fail
          go_wp2_with (first
            | (go_at_call 22; refine (HZ.out _ hbw).mono ?_; rintro e w2 ⟨rfl, h2⟩; have hh2 := hbw.trans (h2.mono hbw.size))
            | (refine load_sub rfl 28 (.tmp 84) rfl rfl k0 37 (by omega) Tryz.underlying28 rfl bk_size K (fun i hi => swH_bk _ _ _ _ _ _ _ _ _ i hi) ?_)
            | (refine wpList_build_to rfl _ _ rfl (cellsOf 37 zeroV.F) (by kernel_rfl) ?_))
          go_ret
          exact ⟨by rw [HR.out] <;> rfl, hh2⟩
  · skip
    go_upto_region 3 with fail
    by_cases h9 : size ≠ 32768
    · have HR := Lib.hid (show RR = false from Bool.eq_false_iff.2 fun e => by have := HI.out.1 e; omega)
      have r1 : (size != 32768) = true := by rw [bne_iff_ne]; exact h9
      go_wp2_with fail
      go_ret
      exact ⟨by rw [HR.out] <;> rfl, hbw⟩
    have r1 : (size != 32768) = false := by rw [bne_eq_false_iff_eq]; exact Classical.not_not.1 h9
    by_cases h10 : 32768 < made
    · have z1 : ¬ made ≤ 32768 := by omega
      have z2 : min made 32768 = 32768 := by omega
      by_cases h11 : (nw : Int) ≠ 32768
      · have HR := Lib.hid (show RR = false from Bool.eq_false_iff.2 fun e => by have := HI.out.1 e; rw [if_pos h10] at this; exact h11 this.2.2.2.2.2.2.2.2.2.2.1)
        have r2 : ((nw : Int) != 32768) = true := by rw [bne_iff_ne]; exact h11
        go_wp2_with fail
        go_ret
        exact ⟨by rw [HR.out] <;> rfl, hbw⟩
      have r2 : ((nw : Int) != 32768) = false := by rw [bne_eq_false_iff_eq]; exact Classical.not_not.1 h11
      have HW := Lib.hid (show (nw : Int) = if 32768 < made then 32768 else made by rw [if_pos h10]; exact Classical.not_not.1 h11)
      have HS := Lib.hid (Classical.not_not.1 h9)
      cases over with
      | false =>
        cases op with
        | true =>
          have HR := Lib.hid (show RR = ck from Bool.eq_iff_iff.2 ⟨fun e => (by rcases (HI.out.1 e).2.2.2.2.2.2.2.2.2.2.2 with ⟨_, h⟩ | ⟨h, _⟩; exact h; cases h), fun e => HI.out.2 ⟨by omega, by omega, by omega, by omega, by omega, by omega, by omega, HC.out, fun e => (by cases e), HS.out, HW.out, .inl ⟨rfl, e⟩⟩⟩)
          go_upto_region 6 with fail
          cases ck with
          | true =>
            go_wp2_with (first
              | (go_at_call 31; refine (HP.out _ hbw).mono ?_; rintro e w2 ⟨rfl, h2⟩; have hh2 := hbw.trans (h2.mono hbw.size))
              | (refine load_sub rfl 28 (.tmp 80) rfl rfl k0 37 (by omega) Tryz.underlying28 rfl bk_size K (fun i hi => swH_bk _ _ _ _ _ _ _ _ _ i hi) ?_))
            go_ret
            exact ⟨by rw [HR.out] <;> rfl, hh2⟩
          | false =>
            go_wp2_with (first
              | (go_at_call 31; refine (HP.out _ hbw).mono ?_; rintro e w2 ⟨rfl, h2⟩; have hh2 := hbw.trans (h2.mono hbw.size))
              | (refine load_sub rfl 28 (.tmp 80) rfl rfl k0 37 (by omega) Tryz.underlying28 rfl bk_size K (fun i hi => swH_bk _ _ _ _ _ _ _ _ _ i hi) ?_))
            go_ret
            exact ⟨by rw [HR.out] <;> rfl, hh2⟩
        | false =>
          have HR := Lib.hid (show RR = zk from Bool.eq_iff_iff.2 ⟨fun e => (by rcases (HI.out.1 e).2.2.2.2.2.2.2.2.2.2.2 with ⟨h, _⟩ | ⟨_, h⟩; cases h; exact h), fun e => HI.out.2 ⟨by omega, by omega, by omega, by omega, by omega, by omega, by omega, HC.out, fun e => (by cases e), HS.out, HW.out, .inr ⟨rfl, e⟩⟩⟩)
          go_upto_region 7 with fail
          go_wp2_with (first
            | (go_at_call 22; refine (HZ.out _ hbw).mono ?_; rintro e w2 ⟨rfl, h2⟩; have hh2 := hbw.trans (h2.mono hbw.size))
            | (refine load_sub rfl 28 (.tmp 84) rfl rfl k0 37 (by omega) Tryz.underlying28 rfl bk_size K (fun i hi => swH_bk _ _ _ _ _ _ _ _ _ i hi) ?_)
            | (refine wpList_build_to rfl _ _ rfl (cellsOf 37 zeroV.F) (by kernel_rfl) ?_))
          go_ret
          exact ⟨by rw [HR.out] <;> rfl, hh2⟩
      | true =>
        cases op with
        | true =>
          have HR := Lib.hid (show RR = false from Bool.eq_false_iff.2 fun e => by have := (HI.out.1 e).2.2.2.2.2.2.2.2.1 rfl; cases this.1)
          go_wp2_with fail
          go_ret
          exact ⟨by rw [HR.out] <;> rfl, hbw⟩
        | false =>
          by_cases h12 : 0 < nA
          · have HR := Lib.hid (show RR = false from Bool.eq_false_iff.2 fun e => by have := (HI.out.1 e).2.2.2.2.2.2.2.2.1 rfl; omega)
            have r3 : decide ((0 : Int) < (nA : Int)) = true := decide_eq_true (by omega)
            go_wp2_with fail
            go_ret
            exact ⟨by rw [HR.out] <;> rfl, hbw⟩
          have r3 : decide ((0 : Int) < (nA : Int)) = false := decide_eq_false (by omega)
          have HR := Lib.hid (show RR = zk from Bool.eq_iff_iff.2 ⟨fun e => (by rcases (HI.out.1 e).2.2.2.2.2.2.2.2.2.2.2 with ⟨h, _⟩ | ⟨_, h⟩; cases h; exact h), fun e => HI.out.2 ⟨by omega, by omega, by omega, by omega, by omega, by omega, by omega, HC.out, fun _ => ⟨rfl, (by omega)⟩, HS.out, HW.out, .inr ⟨rfl, e⟩⟩⟩)
          go_upto_region 7 with fail
          go_wp2_with (first
            | (go_at_call 22; refine (HZ.out _ hbw).mono ?_; rintro e w2 ⟨rfl, h2⟩; have hh2 := hbw.trans (h2.mono hbw.size))
            | (refine load_sub rfl 28 (.tmp 84) rfl rfl k0 37 (by omega) Tryz.underlying28 rfl bk_size K (fun i hi => swH_bk _ _ _ _ _ _ _ _ _ i hi) ?_)
            | (refine wpList_build_to rfl _ _ rfl (cellsOf 37 zeroV.F) (by kernel_rfl) ?_))
          go_ret
          exact ⟨by rw [HR.out] <;> rfl, hh2⟩
    · have z1 : made ≤ 32768 := by omega
      have z2 : min made 32768 = made := by omega
      by_cases h11 : (nw : Int) ≠ made
      · have HR := Lib.hid (show RR = false from Bool.eq_false_iff.2 fun e => by have := HI.out.1 e; rw [if_neg h10] at this; exact h11 this.2.2.2.2.2.2.2.2.2.2.1)
        have r2 : ((nw : Int) != made) = true := by rw [bne_iff_ne]; exact h11
        go_wp2_with fail
        go_ret
        exact ⟨by rw [HR.out] <;> rfl, hbw⟩
      have r2 : ((nw : Int) != made) = false := by rw [bne_eq_false_iff_eq]; exact Classical.not_not.1 h11
      have HW := Lib.hid (show (nw : Int) = if 32768 < made then 32768 else made by rw [if_neg h10]; exact Classical.not_not.1 h11)
      have HS := Lib.hid (Classical.not_not.1 h9)
      cases over with
      | false =>
        cases op with
        | true =>
          have HR := Lib.hid (show RR = ck from Bool.eq_iff_iff.2 ⟨fun e => (by rcases (HI.out.1 e).2.2.2.2.2.2.2.2.2.2.2 with ⟨_, h⟩ | ⟨h, _⟩; exact h; cases h), fun e => HI.out.2 ⟨by omega, by omega, by omega, by omega, by omega, by omega, by omega, HC.out, fun e => (by cases e), HS.out, HW.out, .inl ⟨rfl, e⟩⟩⟩)
          go_upto_region 6 with fail
          cases ck with
          | true =>
            go_wp2_with (first
              | (go_at_call 31; refine (HP.out _ hbw).mono ?_; rintro e w2 ⟨rfl, h2⟩; have hh2 := hbw.trans (h2.mono hbw.size))
              | (refine load_sub rfl 28 (.tmp 80) rfl rfl k0 37 (by omega) Tryz.underlying28 rfl bk_size K (fun i hi => swH_bk _ _ _ _ _ _ _ _ _ i hi) ?_))
            go_ret
            exact ⟨by rw [HR.out] <;> rfl, hh2⟩
          | false =>
            go_wp2_with (first
              | (go_at_call 31; refine (HP.out _ hbw).mono ?_; rintro e w2 ⟨rfl, h2⟩; have hh2 := hbw.trans (h2.mono hbw.size))
              | (refine load_sub rfl 28 (.tmp 80) rfl rfl k0 37 (by omega) Tryz.underlying28 rfl bk_size K (fun i hi => swH_bk _ _ _ _ _ _ _ _ _ i hi) ?_))
            go_ret
            exact ⟨by rw [HR.out] <;> rfl, hh2⟩
        | false =>
          have HR := Lib.hid (show RR = zk from Bool.eq_iff_iff.2 ⟨fun e => (by rcases (HI.out.1 e).2.2.2.2.2.2.2.2.2.2.2 with ⟨h, _⟩ | ⟨_, h⟩; cases h; exact h), fun e => HI.out.2 ⟨by omega, by omega, by omega, by omega, by omega, by omega, by omega, HC.out, fun e => (by cases e), HS.out, HW.out, .inr ⟨rfl, e⟩⟩⟩)
          go_upto_region 7 with fail
          go_wp2_with (first
            | (go_at_call 22; refine (HZ.out _ hbw).mono ?_; rintro e w2 ⟨rfl, h2⟩; have hh2 := hbw.trans (h2.mono hbw.size))
            | (refine load_sub rfl 28 (.tmp 84) rfl rfl k0 37 (by omega) Tryz.underlying28 rfl bk_size K (fun i hi => swH_bk _ _ _ _ _ _ _ _ _ i hi) ?_)
            | (refine wpList_build_to rfl _ _ rfl (cellsOf 37 zeroV.F) (by kernel_rfl) ?_))
          go_ret
          exact ⟨by rw [HR.out] <;> rfl, hh2⟩
      | true =>
        cases op with
        | true =>
          have HR := Lib.hid (show RR = false from Bool.eq_false_iff.2 fun e => by have := (HI.out.1 e).2.2.2.2.2.2.2.2.1 rfl; cases this.1)
          go_wp2_with fail
          go_ret
          exact ⟨by rw [HR.out] <;> rfl, hbw⟩
        | false =>
          by_cases h12 : 0 < nA
          · have HR := Lib.hid (show RR = false from Bool.eq_false_iff.2 fun e => by have := (HI.out.1 e).2.2.2.2.2.2.2.2.1 rfl; omega)
            have r3 : decide ((0 : Int) < (nA : Int)) = true := decide_eq_true (by omega)
            go_wp2_with fail
            go_ret
            exact ⟨by rw [HR.out] <;> rfl, hbw⟩
          have r3 : decide ((0 : Int) < (nA : Int)) = false := decide_eq_false (by omega)
          have HR := Lib.hid (show RR = zk from Bool.eq_iff_iff.2 ⟨fun e => (by rcases (HI.out.1 e).2.2.2.2.2.2.2.2.2.2.2 with ⟨h, _⟩ | ⟨_, h⟩; cases h; exact h), fun e => HI.out.2 ⟨by omega, by omega, by omega, by omega, by omega, by omega, by omega, HC.out, fun _ => ⟨rfl, (by omega)⟩, HS.out, HW.out, .inr ⟨rfl, e⟩⟩⟩)
          go_upto_region 7 with fail
          go_wp2_with (first
            | (go_at_call 22; refine (HZ.out _ hbw).mono ?_; rintro e w2 ⟨rfl, h2⟩; have hh2 := hbw.trans (h2.mono hbw.size))
            | (refine load_sub rfl 28 (.tmp 84) rfl rfl k0 37 (by omega) Tryz.underlying28 rfl bk_size K (fun i hi => swH_bk _ _ _ _ _ _ _ _ _ i hi) ?_)
            | (refine wpList_build_to rfl _ _ rfl (cellsOf 37 zeroV.F) (by kernel_rfl) ?_))
          go_ret
          exact ⟨by rw [HR.out] <;> rfl, hh2⟩

set_option maxRecDepth 100000 in
set_option maxHeartbeats 2000000 in
theorem rcheck14_any (s : Wv) (w : World) (hs : s.ok w) (hkind : s.bk.kind ≤ 255) :
    Calls Tryz.prog 12 #[.agg (cellsOf 45 s.F)] w fun r w' => CkdRes w w' (ckS s) r := by
  have hbw : Below w.heap.size w (w.alloc (.cells (cellsOf 45 s.F) 32)) := (Below.refl _ _).alloc (Nat.le_refl _) _
  have k0 : Arr (w.alloc (.cells (cellsOf 45 s.F) 32)) w.heap.size 32 45 s.F := Blk.new _ _ _
  have HM := Lib.hid (rmay14_any s _ (hs.below hbw) hkind)
  clear hs
  obtain ⟨b, hb⟩ : ∃ b, ckS s = b := ⟨_, rfl⟩
  rw [hb] at HM
  rw [hb]
  generalize s.F = F at *
  clear hb
  go_enter Tryz.func12, Tryz.ntmps12
  cases b with
  | true =>
    go_wp2_with (first
      | (refine load_arr rfl 32 (.tmp 1) rfl rfl k0 Tryz.underlying32 rfl sw_size ?_)
      | (go_at_call 20; refine HM.out.mono ?_; rintro e w2 ⟨rfl, h2⟩))
    go_ret
    exact CkdRes.mk' 0 (by rfl) rfl (hbw.trans (h2.mono hbw.size))
  | false =>
    go_wp2_with (first
      | (refine load_arr rfl 32 (.tmp 1) rfl rfl k0 Tryz.underlying32 rfl sw_size ?_)
      | (go_at_call 20; refine HM.out.mono ?_; rintro e w2 ⟨rfl, h2⟩))
    go_ret
    exact CkdRes.mk' 8 (by rfl) rfl (hbw.trans (h2.mono hbw.size))
end Go.Proofs.YtahboomghjdjhaaGreat

/-
  The document's streams: Same.
-/
namespace Go.Proofs.YtahboomghjdjhaaGreat
open Go.RowKit

set_option maxRecDepth 100000 in
set_option maxHeartbeats 8000000 in
theorem rsame14_any (a b : Wv) (w : World) (ha : a.ok w) (hb : b.ok w) :
    Calls Tryz.prog 10 #[.agg (cellsOf 45 a.F), .agg (cellsOf 45 b.F)] w fun r w' => r = .returned (.bool (sameW a b)) ∧ Below w.heap.size w w' := by
  have HC1 := Lib.hid fun wx (h : Below w.heap.size w wx) => conv_bytes (P := Tryz.prog) wx 22 5 Tryz.underlying22 Tryz.underlying5 9 Tryz.underlying9 a.A a.lA a.cA (rd_u8 (ha.rA.below h) ha.bA) (fun e => by have := (ha.rA.below h).2 e; simpa [u8s] using this)
  have HC2 := Lib.hid fun wx (h : Below w.heap.size w wx) => conv_bytes (P := Tryz.prog) wx 22 5 Tryz.underlying22 Tryz.underlying5 9 Tryz.underlying9 b.A b.lA b.cA (rd_u8 (hb.rA.below h) hb.bA) (fun e => by have := (hb.rA.below h).2 e; simpa [u8s] using this)
  rw [← ha.lenA] at HC1
  rw [← hb.lenA] at HC2
  have HW := Lib.hid fun wx (h : Below w.heap.size w wx) => wsame06_any a.size b.size a.Bw b.Bw a.nw a.cw b.nw b.cw a.lw b.lw wx (ha.rw_.below h) (hb.rw_.below h) ha.bw hb.bw ha.lenw hb.lenw
  have HB := Lib.hid fun wx (h : Below w.heap.size w wx) => rsame13_any a.bk b.bk wx (ha.bk.below h) (hb.bk.below h)
  have hqS := str_toList ha.bA hb.bA
  clear ha hb
  obtain ⟨ma, da, A, nA, cA, lA, ta, ka, oa, za, Aw, nw, cw, lw, va⟩ := a
  obtain ⟨mb, db, B, nB, cB, lB, tb, kb, ob, zb, Bw, mw, dw, kw, vb⟩ := b
  dsimp only at HC1 HC2 HW HB hqS
  obtain ⟨RR, hRR⟩ : ∃ R, sameW ⟨ma, da, A, nA, cA, lA, ta, ka, oa, za, Aw, nw, cw, lw, va⟩ ⟨mb, db, B, nB, cB, lB, tb, kb, ob, zb, Bw, mw, dw, kw, vb⟩ = R := ⟨_, rfl⟩
  rw [hRR]
  unfold sameW at hRR
  dsimp only at hRR
  obtain ⟨qI, hqI⟩ : ∃ q, decide (lA = lB) = q := ⟨_, rfl⟩
  obtain ⟨qW, hqW⟩ : ∃ q, (decide (za = zb) && decide (lw = kw)) = q := ⟨_, rfl⟩
  obtain ⟨qB, hqB⟩ : ∃ q, sameV ka kb = q := ⟨_, rfl⟩
  rw [hqI] at hqS hRR
  rw [hqW] at HW hRR
  rw [hqB] at HB hRR
  clear hqI hqW hqB
  have HRR := Lib.hid hRR
  clear hRR
  unfold Wv.F
  dsimp only
  have hb0 : Below w.heap.size w ((w.alloc (.cells (cellsOf 45 (swH ma da (.slice A nA cA) ta ka.F oa za (.slice Aw nw cw) va)) 32)).alloc (.cells (cellsOf 45 (swH mb db (.slice B nB cB) tb kb.F ob zb (.slice Bw mw dw) vb)) 32)) := ((Below.refl _ _).alloc (Nat.le_refl _) _).alloc (by simp) _
  have k0 : Arr ((w.alloc (.cells (cellsOf 45 (swH ma da (.slice A nA cA) ta ka.F oa za (.slice Aw nw cw) va)) 32)).alloc (.cells (cellsOf 45 (swH mb db (.slice B nB cB) tb kb.F ob zb (.slice Bw mw dw) vb)) 32)) w.heap.size 32 45 (swH ma da (.slice A nA cA) ta ka.F oa za (.slice Aw nw cw) va) := Arr.alloc (Blk.new _ _ _) _
  have k1 : Arr ((w.alloc (.cells (cellsOf 45 (swH ma da (.slice A nA cA) ta ka.F oa za (.slice Aw nw cw) va)) 32)).alloc (.cells (cellsOf 45 (swH mb db (.slice B nB cB) tb kb.F ob zb (.slice Bw mw dw) vb)) 32)) (w.heap.size + 1) 32 45 (swH mb db (.slice B nB cB) tb kb.F ob zb (.slice Bw mw dw) vb) := Blk.new' _ _ _ _ (by simp)
  go_enter Tryz.func10, Tryz.ntmps10
  go_upto_region 1 with (fail)
  change Code.wp _ _ _ _ ((w.alloc (.cells (cellsOf 45 (swH ma da (.slice A nA cA) ta ka.F oa za (.slice Aw nw cw) va)) 32)).alloc (.cells (cellsOf 45 (swH mb db (.slice B nB cB) tb kb.F ob zb (.slice Bw mw dw) vb)) 32))
  generalize (w.alloc (.cells (cellsOf 45 (swH ma da (.slice A nA cA) ta ka.F oa za (.slice Aw nw cw) va)) 32)).alloc (.cells (cellsOf 45 (swH mb db (.slice B nB cB) tb kb.F ob zb (.slice Bw mw dw) vb)) 32) = w0 at *
  have hc1 := HC1.out _ hb0
  have hc2 := HC2.out _ hb0
  obtain ⟨ga, hga⟩ : ∃ g, w.heap.size = g := ⟨_, rfl⟩
  obtain ⟨gb, hgb⟩ : ∃ g, w.heap.size + 1 = g := ⟨_, rfl⟩
  rw [hgb] at k1
  rw [hgb]
  clear hga hgb HC1 HC2
  have w0a0 : w0.cell? ⟨w.heap.size, 0, none⟩ = some (.int .i64 ma) := Arr.cell k0 0 (by omega)
  have w0b0 : w0.cell? ⟨gb, 0, none⟩ = some (.int .i64 mb) := Arr.cell k1 0 (by omega)
  have w0a1 : w0.cell? ⟨w.heap.size, 1, none⟩ = some (.int .i64 da) := Arr.cell k0 1 (by omega)
  have w0b1 : w0.cell? ⟨gb, 1, none⟩ = some (.int .i64 db) := Arr.cell k1 1 (by omega)
  have w0a3 : w0.cell? ⟨w.heap.size, 3, none⟩ = some (.int .i64 ta) := Arr.cell k0 3 (by omega)
  have w0b3 : w0.cell? ⟨gb, 3, none⟩ = some (.int .i64 tb) := Arr.cell k1 3 (by omega)
  have w0a41 : w0.cell? ⟨w.heap.size, 41, none⟩ = some (.bool oa) := Arr.cell k0 41 (by omega)
  have w0b41 : w0.cell? ⟨gb, 41, none⟩ = some (.bool ob) := Arr.cell k1 41 (by omega)
  have w0a44 : w0.cell? ⟨w.heap.size, 44, none⟩ = some (.bool va) := Arr.cell k0 44 (by omega)
  have w0b44 : w0.cell? ⟨gb, 44, none⟩ = some (.bool vb) := Arr.cell k1 44 (by omega)
  have w0a2 : w0.cell? ⟨w.heap.size, 2, none⟩ = some (.slice A nA cA) := Arr.cell k0 2 (by omega)
  have w0b2 : w0.cell? ⟨gb, 2, none⟩ = some (.slice B nB cB) := Arr.cell k1 2 (by omega)
  have w0a42 : w0.cell? ⟨w.heap.size, 42, none⟩ = some (.int .i64 za) := Arr.cell k0 42 (by omega)
  have w0b42 : w0.cell? ⟨gb, 42, none⟩ = some (.int .i64 zb) := Arr.cell k1 42 (by omega)
  have w0a43 : w0.cell? ⟨w.heap.size, 43, none⟩ = some (.slice Aw nw cw) := Arr.cell k0 43 (by omega)
  have w0b43 : w0.cell? ⟨gb, 43, none⟩ = some (.slice Bw mw dw) := Arr.cell k1 43 (by omega)
  by_cases hma : ma = mb
  · subst hma
    by_cases hda : da = db
    · subst hda
      by_cases hta : ta = tb
      · subst hta
        by_cases hoa : oa = ob
        · subst hoa
          have eoa : (oa == oa) = true := by simp
          by_cases hva : va = vb
          · subst hva
            have eva : (va == va) = true := by simp
            have HR1 := Lib.hid (show RR = (qI && (qB && qW)) by rw [← HRR.out]; simp)
            clear HRR
            cases qI with
            | false =>
              have HR := Lib.hid (show RR = false by rw [HR1.out]; rfl)
              go_wp2_with fail
              go_ret
              exact ⟨by rw [HR.out] <;> rfl, hb0⟩
            | true =>
              cases qB with
              | false =>
                have HR := Lib.hid (show RR = false by rw [HR1.out]; rfl)
                go_wp2_with (first
                  | (go_at_call 22; refine (HB.out _ hb0).mono ?_; rintro e w2 ⟨rfl, h2⟩; have hh2 := hb0.trans (h2.mono hb0.size); have kk0 := Arr.below k0 h2 (Blk.lt k0); have kk1 := Arr.below k1 h2 (Blk.lt k1); have w2a42 : w2.cell? ⟨w.heap.size, 42, none⟩ = some (.int .i64 za) := Arr.cell kk0 42 (by omega); have w2b42 : w2.cell? ⟨gb, 42, none⟩ = some (.int .i64 zb) := Arr.cell kk1 42 (by omega); have w2a43 : w2.cell? ⟨w.heap.size, 43, none⟩ = some (.slice Aw nw cw) := Arr.cell kk0 43 (by omega); have w2b43 : w2.cell? ⟨gb, 43, none⟩ = some (.slice Bw mw dw) := Arr.cell kk1 43 (by omega))
                  | (refine load_subG (by rfl) 28 (.tmp 52) rfl rfl k1 37 (by omega) Tryz.underlying28 rfl bk_size kb.F (fun i hi => swH_bk _ _ _ _ _ _ _ _ _ i hi) ?_)
                  | (refine load_subG (by rfl) 28 (.tmp 50) rfl rfl k0 37 (by omega) Tryz.underlying28 rfl bk_size ka.F (fun i hi => swH_bk _ _ _ _ _ _ _ _ _ i hi) ?_))
                go_ret
                exact ⟨by rw [HR.out] <;> rfl, hh2⟩
              | true =>
                have HR := Lib.hid (show RR = qW by rw [HR1.out]; simp)
                go_wp2_with (first
                  | (go_at_call 23; refine (HW.out _ hh2).mono ?_; rintro e w3 ⟨rfl, h3⟩; have hh3 := hh2.trans (h3.mono hh2.size))
                  | (go_at_call 22; refine (HB.out _ hb0).mono ?_; rintro e w2 ⟨rfl, h2⟩; have hh2 := hb0.trans (h2.mono hb0.size); have kk0 := Arr.below k0 h2 (Blk.lt k0); have kk1 := Arr.below k1 h2 (Blk.lt k1); have w2a42 : w2.cell? ⟨w.heap.size, 42, none⟩ = some (.int .i64 za) := Arr.cell kk0 42 (by omega); have w2b42 : w2.cell? ⟨gb, 42, none⟩ = some (.int .i64 zb) := Arr.cell kk1 42 (by omega); have w2a43 : w2.cell? ⟨w.heap.size, 43, none⟩ = some (.slice Aw nw cw) := Arr.cell kk0 43 (by omega); have w2b43 : w2.cell? ⟨gb, 43, none⟩ = some (.slice Bw mw dw) := Arr.cell kk1 43 (by omega))
                  | (refine load_subG (by rfl) 28 (.tmp 52) rfl rfl k1 37 (by omega) Tryz.underlying28 rfl bk_size kb.F (fun i hi => swH_bk _ _ _ _ _ _ _ _ _ i hi) ?_)
                  | (refine load_subG (by rfl) 28 (.tmp 50) rfl rfl k0 37 (by omega) Tryz.underlying28 rfl bk_size ka.F (fun i hi => swH_bk _ _ _ _ _ _ _ _ _ i hi) ?_))
                go_ret
                exact ⟨by rw [HR.out] <;> rfl, hh3⟩
          · have eva : (va == vb) = false := by rw [beq_eq_false_iff_ne]; exact hva
            have HR := Lib.hid (show RR = false by rw [← HRR.out]; rw [eva]; simp)
            go_wp2_with fail
            go_ret
            exact ⟨by rw [HR.out] <;> rfl, hb0⟩
        · have eoa : (oa == ob) = false := by rw [beq_eq_false_iff_ne]; exact hoa
          have HR := Lib.hid (show RR = false by rw [← HRR.out]; rw [eoa]; simp)
          go_wp2_with fail
          go_ret
          exact ⟨by rw [HR.out] <;> rfl, hb0⟩
      · have eta : (ta == tb) = false := by rw [beq_eq_false_iff_ne]; exact hta
        have HR := Lib.hid (show RR = false by rw [← HRR.out]; rw [decide_eq_false hta]; simp)
        go_wp2_with fail
        go_ret
        exact ⟨by rw [HR.out] <;> rfl, hb0⟩
    · have eda : (da == db) = false := by rw [beq_eq_false_iff_ne]; exact hda
      have HR := Lib.hid (show RR = false by rw [← HRR.out]; rw [decide_eq_false hda]; simp)
      go_wp2_with fail
      go_ret
      exact ⟨by rw [HR.out] <;> rfl, hb0⟩
  · have ema : (ma == mb) = false := by rw [beq_eq_false_iff_ne]; exact hma
    have HR := Lib.hid (show RR = false by rw [← HRR.out]; rw [decide_eq_false hma]; simp)
    go_wp2_with fail
    go_ret
    exact ⟨by rw [HR.out] <;> rfl, hb0⟩
end Go.Proofs.YtahboomghjdjhaaGreat

/-
  The document's streams: Twin.
-/
namespace Go.Proofs.YtahboomghjdjhaaGreat
open Go.RowKit

section
variable {most made : Int} {inV : Value} {at0 : Int} {bk : Nat → Value} {op : Bool} {size : Int} {winV : Value} {over : Bool}
theorem swH_in (x : Value) (i : Nat) : (if i = 2 then x else swH most made inV at0 bk op size winV over i) = swH most made x at0 bk op size winV over i := by
  by_cases h : i = 2
  · subst h; rfl
  · rw [if_neg h]; unfold swH; (repeat' split) <;> first | rfl | omega
theorem swH_at0 (x : Int) (i : Nat) : (if i = 3 then Value.int .i64 x else swH most made inV at0 bk op size winV over i) = swH most made inV x bk op size winV over i := by
  by_cases h : i = 3
  · subst h; rfl
  · rw [if_neg h]; unfold swH; (repeat' split) <;> first | rfl | omega
theorem swH_made (x : Int) (i : Nat) : (if i = 1 then Value.int .i64 x else swH most made inV at0 bk op size winV over i) = swH most x inV at0 bk op size winV over i := by
  by_cases h : i = 1
  · subst h; rfl
  · rw [if_neg h]; unfold swH; (repeat' split) <;> first | rfl | omega
theorem swH_open (x : Bool) (i : Nat) : (if i = 41 then Value.bool x else swH most made inV at0 bk op size winV over i) = swH most made inV at0 bk x size winV over i := by
  by_cases h : i = 41
  · subst h; rfl
  · rw [if_neg h]; unfold swH; (repeat' split) <;> first | rfl | omega
theorem swH_over (x : Bool) (i : Nat) (hi : i < 45) : (if i = 44 then Value.bool x else swH most made inV at0 bk op size winV over i) = swH most made inV at0 bk op size winV x i := by
  by_cases h : i = 44
  · subst h; rfl
  · rw [if_neg h]; unfold swH; (repeat' split) <;> first | rfl | omega
/-- A window's two cells. -/
def wnH (size : Int) (x : Value) (j : Nat) : Value := if j = 0 then .int .i64 size else x
theorem wnH_one (size : Int) (A : Option Addr) (n c : Nat) (j : Nat) : (wnH size (.slice A n c) j).oneCell' = true := by unfold wnH; split <;> rfl
theorem swH_wn (k : Nat) (hk : k < 2) : swH most made inV at0 bk op size winV over (42 + k) = wnH size winV k := by
  rcases (show k = 0 ∨ k = 1 by omega) with h | h <;> subst h <;> rfl
theorem swH_win (x : Value) (i : Nat) : (if 42 ≤ i ∧ i < 42 + 2 then wnH size x (i - 42) else swH most made inV at0 bk op size winV over i) = swH most made inV at0 bk op size x over i := by
  by_cases h : 42 ≤ i ∧ i < 42 + 2
  · rw [if_pos h]
    rcases (show i = 42 ∨ i = 43 by omega) with h | h <;> subst h <;> rfl
  · rw [if_neg h]; unfold swH; (repeat' split) <;> first | rfl | omega
theorem swH_blk (k : Nat → Value) (i : Nat) : (if 4 ≤ i ∧ i < 4 + 37 then k (i - 4) else swH most made inV at0 bk op size winV over i) = swH most made inV at0 k op size winV over i := by
  by_cases h : 4 ≤ i ∧ i < 4 + 37
  · rw [if_pos h]; unfold swH; rw [if_neg (by omega), if_pos (by omega)]
  · rw [if_neg h]; unfold swH; (repeat' split) <;> first | rfl | omega
theorem swH_t1 {kind : Int} {last : Bool} {left : Int} {f1 : Nat → Int} {v1 : Value} {f2 : Nat → Int} {v2 : Value} (x : Value) (i : Nat) : (if 7 ≤ i ∧ i < 7 + 17 then treeH f1 x (i - 7) else swH most made inV at0 (bkH kind last left f1 v1 f2 v2) op size winV over i) = swH most made inV at0 (bkH kind last left f1 x f2 v2) op size winV over i := by
  by_cases h : 7 ≤ i ∧ i < 7 + 17
  · rw [if_pos h]; unfold swH; rw [if_neg (by omega), if_pos (by omega)]; unfold bkH; rw [if_neg (by omega), if_pos (by omega), show i - 4 - 3 = i - 7 by omega]
  · rw [if_neg h]; unfold swH
    by_cases h4 : i < 4
    · rw [if_pos h4, if_pos h4]
    · rw [if_neg h4, if_neg h4]
      by_cases h41 : i < 41
      · rw [if_pos h41, if_pos h41]
        unfold bkH
        by_cases h3 : i - 4 < 3
        · rw [if_pos h3, if_pos h3]
        · rw [if_neg h3, if_neg h3, if_neg (by omega), if_neg (by omega)]
      · rw [if_neg h41, if_neg h41]
theorem swH_t2 {kind : Int} {last : Bool} {left : Int} {f1 : Nat → Int} {v1 : Value} {f2 : Nat → Int} {v2 : Value} (x : Value) (i : Nat) : (if 24 ≤ i ∧ i < 24 + 17 then treeH f2 x (i - 24) else swH most made inV at0 (bkH kind last left f1 v1 f2 v2) op size winV over i) = swH most made inV at0 (bkH kind last left f1 v1 f2 x) op size winV over i := by
  by_cases h : 24 ≤ i ∧ i < 24 + 17
  · rw [if_pos h]; unfold swH; rw [if_neg (by omega), if_pos (by omega)]; unfold bkH; rw [if_neg (by omega), if_neg (by omega), show i - 4 - 20 = i - 24 by omega]
  · rw [if_neg h]; unfold swH
    by_cases h4 : i < 4
    · rw [if_pos h4, if_pos h4]
    · rw [if_neg h4, if_neg h4]
      by_cases h41 : i < 41
      · rw [if_pos h41, if_pos h41]
        unfold bkH
        by_cases h3 : i - 4 < 3
        · rw [if_pos h3, if_pos h3]
        · rw [if_neg h3, if_neg h3, if_pos (by omega), if_pos (by omega)]
      · rw [if_neg h41, if_neg h41]
theorem swH_ld1 {kind : Int} {last : Bool} {left : Int} {f1 : Nat → Int} {v1 : Value} {f2 : Nat → Int} {v2 : Value} (k : Nat) (hk : k < 17) : swH most made inV at0 (bkH kind last left f1 v1 f2 v2) op size winV over (7 + k) = treeH f1 v1 k := by
  rw [show 7 + k = 4 + (3 + k) by omega, swH_bk _ _ _ _ _ _ _ _ _ _ (by omega), bkH_t1 _ _ _ _ _ _ _ _ hk]
theorem swH_ld2 {kind : Int} {last : Bool} {left : Int} {f1 : Nat → Int} {v1 : Value} {f2 : Nat → Int} {v2 : Value} (k : Nat) (hk : k < 17) : swH most made inV at0 (bkH kind last left f1 v1 f2 v2) op size winV over (24 + k) = treeH f2 v2 k := by
  rw [show 24 + k = 4 + (20 + k) by omega, swH_bk _ _ _ _ _ _ _ _ _ _ (by omega), bkH_t2 _ _ _ _ _ _ _ _ hk]
end
/-- A stream's twin: its rows lie elsewhere. -/
def Wv.put (s : Wv) (A : Option Addr) (cA : Nat) (C1 : Option Addr) (d1 : Nat) (C2 : Option Addr) (d2 : Nat) (Bw : Option Addr) (cw : Nat) : Wv :=
  ⟨s.most, s.made, A, s.nA, cA, s.lA, s.at0, ⟨s.bk.kind, s.bk.last, s.bk.left, s.bk.f1, C1, s.bk.m1, d1, s.bk.x1, s.bk.f2, C2, s.bk.m2, d2, s.bk.x2⟩, s.op, s.size, Bw, s.nw, cw, s.lw, s.over⟩
def TwRes (w w' : World) (s : Wv) (r : Ending) : Prop := Below w.heap.size w w' ∧ ∃ A cA C1 d1 C2 d2 Bw cw, r = .returned (.agg (cellsOf 45 (s.put A cA C1 d1 C2 d2 Bw cw).F)) ∧ (s.put A cA C1 d1 C2 d2 Bw cw).ok w' ∧ (0 < (u8s s.lw).length → ∀ ad, Bw = some ad → w.heap.size ≤ ad.block)
set_option maxRecDepth 100000 in
set_option maxHeartbeats 4000000 in
theorem rtwin14_any (s : Wv) (w : World) (hs : s.ok w) :
    Calls Tryz.prog 5 #[.agg (cellsOf 45 s.F)] w fun r w' => TwRes w w' s r := by
  have HS := Lib.hid hs
  obtain ⟨most, made, A, nA, cA, lA, at0, ⟨kind, last, left, f1, C1, m1, d1, x1, f2, C2, m2, d2, x2⟩, op, size, Bw, nw, cw, lw, over⟩ := s
  clear hs
  dsimp only [Wv.F, Bv.F]
  have hb0 : Below w.heap.size w ((w.alloc (.cells (cellsOf 45 (swH most made (.slice A nA cA) at0 (bkH (kind : Int) last left f1 (.slice C1 m1 d1) f2 (.slice C2 m2 d2)) op size (.slice Bw nw cw) over)) 32)).alloc (.cells (cellsOf 45 swZ) 32)) := ((Below.refl _ _).alloc (Nat.le_refl _) _).alloc (by simp) _
  have k1 : Arr ((w.alloc (.cells (cellsOf 45 (swH most made (.slice A nA cA) at0 (bkH (kind : Int) last left f1 (.slice C1 m1 d1) f2 (.slice C2 m2 d2)) op size (.slice Bw nw cw) over)) 32)).alloc (.cells (cellsOf 45 swZ) 32)) w.heap.size 32 45 (swH most made (.slice A nA cA) at0 (bkH (kind : Int) last left f1 (.slice C1 m1 d1) f2 (.slice C2 m2 d2)) op size (.slice Bw nw cw) over) := Arr.alloc (Blk.new _ _ _) _
  have k2 : Arr ((w.alloc (.cells (cellsOf 45 (swH most made (.slice A nA cA) at0 (bkH (kind : Int) last left f1 (.slice C1 m1 d1) f2 (.slice C2 m2 d2)) op size (.slice Bw nw cw) over)) 32)).alloc (.cells (cellsOf 45 swZ) 32)) (w.heap.size + 1) 32 45 swZ := Blk.new' _ _ _ _ (by simp)
  go_enter Tryz.func5, Tryz.ntmps5
  go_upto_region 1 with fail
  change Code.wp _ _ _ _ ((w.alloc (.cells (cellsOf 45 (swH most made (.slice A nA cA) at0 (bkH (kind : Int) last left f1 (.slice C1 m1 d1) f2 (.slice C2 m2 d2)) op size (.slice Bw nw cw) over)) 32)).alloc (.cells (cellsOf 45 swZ) 32))
  generalize (w.alloc (.cells (cellsOf 45 (swH most made (.slice A nA cA) at0 (bkH (kind : Int) last left f1 (.slice C1 m1 d1) f2 (.slice C2 m2 d2)) op size (.slice Bw nw cw) over)) 32)).alloc (.cells (cellsOf 45 swZ) 32) = w1 at *
  have hok1 := HS.out.below hb0
  have hrA := hok1.rA
  have hlA := hok1.lenA
  have hmA := hok1.maxA
  dsimp only at hrA hlA hmA
  have HA := Lib.hid (And.intro hrA hlA)
  clear hrA hlA
  have c2 : w1.cell? ⟨w.heap.size, 2, none⟩ = some (.slice A nA cA) := Arr.cell k1 2 (by omega)
  go_upto_region 2 with (refine grow selem_u8 rfl (.const (.slice none 0 0)) (.tmp 4) rfl rfl (Builds.nil' (W := w1) (Below.refl _ _) _ _) rfl HA.out.1 (by rw [u8s_length, ← HA.out.2, Nat.mul_one]) (u8s_one _) nA (by omega) (u8s lA) rfl (by omega) (by omega) ?_; intro A1 e1 w2 hB1 hg1; have k12 := Arr.below k1 hB1.1 (Blk.lt k1); have k22 := Arr.below k2 hB1.1 (Blk.lt k2); have f12 := Blk.frozen k12 2; have l12 := Blk.lt k12; have c12 : w2.cell? ⟨w.heap.size, 2, none⟩ = some (.slice A nA cA) := Arr.cell k12 2 (by omega))
  have k13 := (Arr.set k12 2 (.slice A1 nA e1)).congr (fun i _ => swH_in (.slice A1 nA e1) i)
  have k23 := Arr.far k22 (p := ⟨w.heap.size, 2, none⟩) (by show w.heap.size + 1 ≠ w.heap.size; omega) (.slice A1 nA e1)
  have g3 := only_set (only_self w2 w.heap.size) 2 (.slice A1 nA e1)
  have oA := own_only hB1.2 k12 (by decide) g3
  have hb3 := Below.then_only (hb0.trans (hB1.1.mono hb0.size)) g3 (hb0.trans (hB1.1.mono hb0.size)).size (Nat.le_refl _)
  generalize w2.setCell ⟨w.heap.size, 2, none⟩ (.slice A1 nA e1) = w3 at *
  clear c2 k1 k2 hg1 hB1 f12 l12 c12 k12 k22 g3
  have hok3 := HS.out.below hb3
  have HB3 := Lib.hid hb3.size
  have HW := Lib.hid (wtwin06_any size Bw nw cw lw w3 hok3.rw_ hok3.lenw hok3.maxw)
  go_upto_region 3 with (first
    | (refine load_sub rfl 30 (.tmp 7) rfl rfl k13 2 (by omega) Tryz.underlying30 rfl win_size (wnH size (.slice Bw nw cw)) swH_wn ?_)
    | (go_at_call 14; refine HW.out.mono ?_; rintro e w4 ⟨B1, g1, rfl, hB4⟩; have k14 := Arr.below k13 hB4.1 (Blk.lt k13); have k24 := Arr.below k23 hB4.1 (Blk.lt k23))
    | (refine store_sub rfl 30 (.tmp 10) (.tmp 9) rfl rfl 2 (k := wnH size (.slice B1 nw g1)) rfl k14 (by omega) win_size (fun i _ => wnH_one _ _ _ _ i) ?_; intro w5 k15 g5))
  replace k15 := k15.congr (fun i _ => swH_win (.slice B1 nw g1) i)
  have k25 := Blk.only k24 g5 (by omega)
  have oA5 := own_only (own_below oA hB4.1) k14 (by decide) g5
  have oB5 := own_only hB4.2 k14 (by decide) g5
  have hb4 := hb3.trans (hB4.1.mono hb3.size)
  have hb5 := Below.then_only hb4 g5 hb4.size (Nat.le_refl _)
  clear hok3 hB4 k14 k24 k13 k23 g5 oA hb3 hb4 hok1
  have hok5 := HS.out.below hb5
  have HT1 := Lib.hid (show Calls Tryz.prog 15 #[.agg (cellsOf 17 (treeH f1 (.slice C1 m1 d1)))] w5 _ from rtwin_any f1 C1 m1 d1 x1 w5 hok5.bk.r1 hok5.bk.l1 hok5.bk.b1)
  clear hok5
  go_upto_region 4 with (first
    | (refine load_sub rfl 26 (.tmp 12) rfl rfl k15 17 (by omega) tree_under rfl tree_size (treeH f1 (.slice C1 m1 d1)) (fun k hk => swH_ld1 k hk) ?_)
    | (go_at_call 15; refine HT1.out.mono ?_; rintro e w6 ⟨D1, h1, rfl, hB6⟩; have k16 := Arr.below k15 hB6.1 (Blk.lt k15); have k26 := Arr.below k25 hB6.1 (Blk.lt k25))
    | (refine store_sub rfl 26 (.tmp 16) (.tmp 14) rfl rfl 17 (k := treeH f1 (.slice D1 m1 h1)) rfl k16 (by omega) tree_size (fun i _ => treeH_one _ _ _ _ i) ?_; intro w7 k17 g7))
  replace k17 := k17.congr (fun i _ => swH_t1 (.slice D1 m1 h1) i)
  have k27 := Blk.only k26 g7 (by omega)
  have oA7 := own_only (own_below oA5 hB6.1) k16 (by decide) g7
  have oB7 := own_only (own_below oB5 hB6.1) k16 (by decide) g7
  have oC7 := own_only hB6.2 k16 (by decide) g7
  have hb6 := hb5.trans (hB6.1.mono hb5.size)
  have hb7 := Below.then_only hb6 g7 hb6.size (Nat.le_refl _)
  clear hB6 k16 k26 k15 k25 g7 oA5 oB5 hb5 hb6
  have hok7 := HS.out.below hb7
  have HT2 := Lib.hid (show Calls Tryz.prog 15 #[.agg (cellsOf 17 (treeH f2 (.slice C2 m2 d2)))] w7 _ from rtwin_any f2 C2 m2 d2 x2 w7 hok7.bk.r2 hok7.bk.l2 hok7.bk.b2)
  clear hok7
  go_upto_region 5 with (first
    | (refine load_sub rfl 26 (.tmp 18) rfl rfl k17 17 (by omega) tree_under rfl tree_size (treeH f2 (.slice C2 m2 d2)) (fun k hk => swH_ld2 k hk) ?_)
    | (go_at_call 15; refine HT2.out.mono ?_; rintro e w8 ⟨D2, h2, rfl, hB8⟩; have k18 := Arr.below k17 hB8.1 (Blk.lt k17); have k28 := Arr.below k27 hB8.1 (Blk.lt k27))
    | (refine store_sub rfl 26 (.tmp 22) (.tmp 20) rfl rfl 17 (k := treeH f2 (.slice D2 m2 h2)) rfl k18 (by omega) tree_size (fun i _ => treeH_one _ _ _ _ i) ?_; intro w9 k19 g9))
  replace k19 := k19.congr (fun i _ => swH_t2 (.slice D2 m2 h2) i)
  have k29 := Blk.only k28 g9 (by omega)
  have oA9 := own_only (own_below oA7 hB8.1) k18 (by decide) g9
  have oB9 := own_only (own_below oB7 hB8.1) k18 (by decide) g9
  have oC9 := own_only (own_below oC7 hB8.1) k18 (by decide) g9
  have oD9 := own_only hB8.2 k18 (by decide) g9
  have hb8 := hb7.trans (hB8.1.mono hb7.size)
  have hb9 := Below.then_only hb8 g9 hb8.size (Nat.le_refl _)
  clear hB8 k18 k28 k17 k27 g9 oA7 oB7 oC7 hb7 hb8
  go_wp2_with (first
    | (refine load_arr rfl 32 (.tmp 1) rfl rfl k19 Tryz.underlying32 rfl sw_size ?_)
    | (refine store_over rfl 32 (.tmp 2) (.tmp 23) rfl rfl rfl k29 sw_size (fun i _ => swH_one most made A1 nA e1 at0 ⟨kind, last, left, f1, D1, m1, h1, x1, f2, D2, m2, h2, x2⟩ op size B1 nw g1 over i) ?_; intro w10 k10 g10))
  refine bodyPost_ret (results_cell_row Tryz.results5 _ _ (w.heap.size + 1) 32 _ (0, 0) _ rfl k10 Tryz.underlying32 rfl (by rw [sw_size, cellsOf_size])) rfl ?_
  have q := HS.out
  have rA := own_rd (own_only oA9 k29 (by decide) g10)
  have rB := own_rd (own_only oB9 k29 (by decide) g10)
  have rC := own_rd (own_only oC9 k29 (by decide) g10)
  have rD := own_rd (own_only oD9 k29 (by decide) g10)
  exact ⟨Below.then_only hb9 g10 hb9.size (Nat.le_succ _), A1, e1, D1, h1, D2, h2, B1, g1, rfl, ⟨rA, q.bA, q.lenA, own_cap oA9, q.maxA, ⟨rC, q.bk.l1, own_cap oC9, q.bk.b1, rD, q.bk.l2, own_cap oD9, q.bk.b2⟩, rB, q.bw, q.lenw, own_cap oB9, q.maxw⟩, fun hn ad e => Nat.le_trans HB3.out (own_ge oB9 (by have := q.lenw; dsimp only at this hn; rw [u8s_length] at hn; omega) ad e)⟩
end Go.Proofs.YtahboomghjdjhaaGreat

/-
  A stream under way in the document's memory. No walk.
-/
namespace Go.Proofs.YtahboomghjdjhaaGreat
open Go.RowKit

/-- A row's block is none of those that are written: the stream's, the block's, what was told. -/
def ApT (T : Value) (ob kb : Nat) (A : Option Addr) (xs : List Value) : Prop := 0 < xs.length → ∀ ad, A = some ad → ad.block ≠ ob ∧ ad.block ≠ kb ∧ T.ownBlock ≠ some ad.block
theorem rd_heap {w : World} {A : Option Addr} {xs : List Value} (h : Rd w A xs) (hn : 0 < xs.length) : ∀ ad, A = some ad → ad.block < w.heap.size := fun ad e => by
  obtain ⟨b, off, e', hc⟩ := h.1 hn
  rw [e] at e'
  injection e' with e'
  subst e'
  exact cell_lt (hc 0 _ (List.getElem?_eq_getElem hn))
theorem rd_row {w w' : World} {row : Option Nat} {A : Option Addr} {xs : List Value} (h : Rd w A xs) (hg : w.grownBy w' row) (hA : 0 < xs.length → ∀ ad, A = some ad → row ≠ some ad.block) : Rd w' A xs := by
  refine ⟨fun hn => ?_, h.2⟩
  obtain ⟨b, off, e, hc⟩ := h.1 hn
  refine ⟨b, off, e, fun i u hu => ?_⟩
  have hcu := hc i u hu
  have hlt := cell_lt hcu
  rw [← hcu]
  unfold World.cell?
  show (match w'.heap[b]? with | _ => _) = (match w.heap[b]? with | _ => _)
  rw [hg.block b hlt (fun e' => hA hn _ e e'.symm)]
section
variable {w w' : World} {T T' : Value} {ob kb : Nat} {A : Option Addr} {xs : List Value}
theorem ApT.rd1 (h : ApT T ob kb A xs) (hr : Rd w A xs) (g : w.grownBy w' (some ob)) : Rd w' A xs := rd_row hr g fun hn ad e e' => by injection e' with e'; exact (h hn ad e).1 e'.symm
theorem ApT.rd2 (h : ApT T ob kb A xs) (hr : Rd w A xs) (g : w.grownBy w' (some kb)) : Rd w' A xs := rd_row hr g fun hn ad e e' => by injection e' with e'; exact (h hn ad e).2.1 e'.symm
theorem ApT.rd3 (h : ApT T ob kb A xs) (hr : Rd w A xs) (g : w.grownBy w' T.ownBlock) : Rd w' A xs := rd_row hr g fun hn ad e e' => (h hn ad e).2.2 e'
theorem ApT.new (hl : 0 < xs.length → ∀ ad, A = some ad → w.heap.size ≤ ad.block) (h1 : ob < w.heap.size) (h2 : kb < w.heap.size) (h3 : ∀ g, T.ownBlock = some g → g < w.heap.size) : ApT T ob kb A xs := fun hn ad e => by
  have := hl hn ad e
  exact ⟨by omega, by omega, fun h => by have := h3 _ h; omega⟩
theorem ApT.turn (h : ApT T ob kb A xs) (hr : Rd w A xs) (hat : T'.ownBlock = T.ownBlock ∨ T'.ownBlock = some w.heap.size) : ApT T' ob kb A xs := fun hn ad e => by
  obtain ⟨h1, h2, h3⟩ := h hn ad e
  refine ⟨h1, h2, ?_⟩
  rcases hat with h4 | h4 <;> rw [h4]
  · exact h3
  · have := rd_heap hr hn ad e
    intro e'; injection e' with e'; omega
end
theorem own_lt {w : World} {base e size n : Nat} {v : Value} {xs : List Value} (h : w.ownsRow base e size v n xs) : ∀ g, v.ownBlock = some g → g < w.heap.size := fun g hg => (h.lt g hg).2

/-- 'append(s, x...)', s of the call's own, x any slice; where the new row lies: in a plain region. -/
theorem grow_at {P : Program} {w : World} {ops : Array Oper} {rest : List Oper} {o : Oper} {a : Act} {Q : Exit → Act → World → Prop} {t e : TypeId} {size bytes : Nat} (E : Elem P t e size bytes) (hgd : o.guard = none) (s x : Operand)
    (ho : o.op = .call { callee := .builtin .append, args := #[s, x], argTypes := #[t, t] })
    {base : Nat} {A : Option Addr} {n c : Nat} {xs : List Value} (hs : a.eval s = .slice A n c) (hown : w.ownsRow base e size (.slice A n c) n xs) (hbase : base ≤ w.heap.size)
    {B : Option Addr} {m d : Nat} {news : List Value} (hx : a.eval x = .slice B m d) (hr : Rd w B news) (hlen : news.length = m * size) (h1 : ∀ u ∈ news, u.oneCell' = true)
    (k : Nat) (hk : n + m = k) (ys : List Value) (hys : xs ++ news = ys) (h63 : k ≤ 1000000000) (hby : bytes ≤ 1000)
    (h : ∀ A' c' w', w'.ownsRow base e size (.slice A' k c') k ys → w.grownBy w' (Value.slice A n c).ownBlock → ((Value.slice A' k c').ownBlock = (Value.slice A n c).ownBlock ∨ (Value.slice A' k c').ownBlock = some w.heap.size) → wpList P ops Q rest (a.put o.dst (.slice A' k c')) w') : wpList P ops Q (o :: rest) a w := by
  obtain ⟨i, z, hi, hz, hsize, hbytes, hzs⟩ := E.inf
  have hm : B = none → m = 0 := fun h => by
    have h0 := hr.2 h
    rw [h0] at hlen
    have := E.pos
    rcases Nat.eq_zero_or_pos m with h | h
    · exact h
    · have := Nat.mul_pos h E.pos; simp at hlen; omega
  have hb2 : (n + m) * bytes ≤ 140737488355328 := Nat.le_trans (Nat.mul_le_mul (hk ▸ h63) hby) (by omega)
  exact wpList_app w hgd s x t ho base e i z size bytes E.und hi hz hsize hbytes hzs E.pos _ n xs hs hown B m d news hx hlen hr.1 hm h1 k hk.symm ys hys.symm (by unfold maxLen; omega) hb2 hbase h

/-- The rows and boxes of a stream under way. -/
structure FdR (W w : World) (sb rb ob kb : Nat) (F : Nat → Value) (A8 : Option Addr) (n8 c8 : Nat) (b wl tl : List Nat) (Bw T : Option Addr) (nt ct : Nat) : Prop where
  only : Below W.heap.size W w
  bs : Arr w sb 32 45 F
  br : Arr w rb 32 45 swZ
  all : w.ownsRow W.heap.size 5 1 (.slice A8 n8 c8) n8 (u8s b)
  rwin : Rd w Bw (u8s wl)
  apw : ApT (.slice T nt ct) ob kb Bw (u8s wl)
  told : w.ownsRow W.heap.size 5 1 (.slice T nt ct) nt (u8s tl)
  apa : ∀ g, (Value.slice T nt ct).ownBlock = some g → (Value.slice A8 n8 c8).ownBlock ≠ some g
  nt_ : nt = tl.length
  ge : W.heap.size ≤ ob ∧ W.heap.size ≤ kb
  ne : sb ≠ ob ∧ sb ≠ kb ∧ rb ≠ ob ∧ rb ≠ kb ∧ ob ≠ kb
  apr : 0 < (u8s wl).length → ∀ ad, Bw = some ad → rb < ad.block
section
variable {W w w' : World} {sb rb ob kb : Nat} {F : Nat → Value} {A8 : Option Addr} {n8 c8 : Nat} {b win told : List Nat} {Bw T : Option Addr} {nt ct : Nat}
theorem FdR.below (h : FdR W w sb rb ob kb F A8 n8 c8 b win told Bw T nt ct) (hb : Below w.heap.size w w') : FdR W w' sb rb ob kb F A8 n8 c8 b win told Bw T nt ct :=
  ⟨h.only.trans (hb.mono h.only.size), Arr.below h.bs hb (Blk.lt h.bs), Arr.below h.br hb (Blk.lt h.br), own_below h.all hb, h.rwin.below hb, h.apw, own_below h.told hb, h.apa, h.nt_, h.ge, h.ne, h.apr⟩
theorem FdR.sob (h : FdR W w sb rb ob kb F A8 n8 c8 b win told Bw T nt ct) {cs : Array Value} (k : Blk w ob 32 cs) (g : w.grownBy w' (some ob)) : FdR W w' sb rb ob kb F A8 n8 c8 b win told Bw T nt ct :=
  ⟨Below.then_only h.only g h.only.size h.ge.1, Blk.only h.bs g h.ne.1, Blk.only h.br g h.ne.2.2.1, own_only h.all k (by decide) g, h.apw.rd1 h.rwin g, h.apw, own_only h.told k (by decide) g, h.apa, h.nt_, h.ge, h.ne, h.apr⟩
theorem FdR.skb (h : FdR W w sb rb ob kb F A8 n8 c8 b win told Bw T nt ct) {cs : Array Value} (k : Blk w kb 67 cs) (g : w.grownBy w' (some kb)) : FdR W w' sb rb ob kb F A8 n8 c8 b win told Bw T nt ct :=
  ⟨Below.then_only h.only g h.only.size h.ge.2, Blk.only h.bs g h.ne.2.1, Blk.only h.br g h.ne.2.2.2.1, own_only h.all k (by decide) g, h.apw.rd2 h.rwin g, h.apw, own_only h.told k (by decide) g, h.apa, h.nt_, h.ge, h.ne, h.apr⟩
/-- .. with another window. -/
theorem FdR.swin (h : FdR W w sb rb ob kb F A8 n8 c8 b win told Bw T nt ct) {win' : List Nat} {Bw' : Option Addr} (h1 : Rd w Bw' (u8s win')) (h2 : ApT (.slice T nt ct) ob kb Bw' (u8s win')) (h3 : 0 < (u8s win').length → ∀ ad, Bw' = some ad → rb < ad.block) : FdR W w sb rb ob kb F A8 n8 c8 b win' told Bw' T nt ct :=
  ⟨h.only, h.bs, h.br, h.all, h1, h2, h.told, h.apa, h.nt_, h.ge, h.ne, h3⟩
/-- .. with more told. -/
theorem FdR.stell (h : FdR W w sb rb ob kb F A8 n8 c8 b win told Bw T nt ct) {T' : Option Addr} {nt' ct' : Nat} {told' : List Nat} (h1 : w'.ownsRow W.heap.size 5 1 (.slice T' nt' ct') nt' (u8s told')) (hg : w.grownBy w' (Value.slice T nt ct).ownBlock)
    (hat : (Value.slice T' nt' ct').ownBlock = (Value.slice T nt ct).ownBlock ∨ (Value.slice T' nt' ct').ownBlock = some w.heap.size) (hn : nt' = told'.length) : FdR W w' sb rb ob kb F A8 n8 c8 b win told' Bw T' nt' ct' :=
  ⟨h.only.grown hg h.only.size (own_row_ge h.told), Blk.grown h.bs hg (fun e => own_blk_ne h.told h.bs (by decide) e.symm), Blk.grown h.br hg (fun e => own_blk_ne h.told h.br (by decide) e.symm),
   h.all.kept hg (by
     cases he : (Value.slice A8 n8 c8).ownBlock with
     | none => exact .inl rfl
     | some g => exact .inr fun e => h.apa g (e ▸ he ▸ rfl) he), h.apw.rd3 h.rwin hg, h.apw.turn h.rwin hat, h1, fun g hg' => by
     rcases hat with e | e
     · exact h.apa g (e.symm.trans hg')
     · rw [e] at hg'
       injection hg' with hg'
       subst hg'
       intro h'
       have := own_lt h.all _ h'
       omega, hn, h.ge, h.ne, h.apr⟩
end

/-- A block that is open: its lengths lie apart. -/
structure BdA (w : World) (k : Bk) (A1 : Option Addr) (n1 : Nat) (lo : List Nat) (A2 : Option Addr) (n2 : Nat) (fa : List Nat) (T : Value) (ob kb : Nat) : Prop where
  bd : Bd w k A1 n1 lo A2 n2 fa
  ap1 : ApT T ob kb A1 (u8s lo)
  ap2 : ApT T ob kb A2 (u8s fa)
section
variable {w w' : World} {k : Bk} {A1 : Option Addr} {n1 : Nat} {lo : List Nat} {A2 : Option Addr} {n2 : Nat} {fa : List Nat} {T T' : Value} {ob kb : Nat}
theorem BdA.below (h : BdA w k A1 n1 lo A2 n2 fa T ob kb) (hb : Below w.heap.size w w') : BdA w' k A1 n1 lo A2 n2 fa T ob kb := ⟨h.bd.below hb, h.ap1, h.ap2⟩
theorem BdA.sob (h : BdA w k A1 n1 lo A2 n2 fa T ob kb) (g : w.grownBy w' (some ob)) : BdA w' k A1 n1 lo A2 n2 fa T ob kb := ⟨⟨h.ap1.rd1 h.bd.r1 g, h.bd.l1, h.ap2.rd1 h.bd.r2 g, h.bd.l2, h.bd.code⟩, h.ap1, h.ap2⟩
theorem BdA.skb (h : BdA w k A1 n1 lo A2 n2 fa T ob kb) (g : w.grownBy w' (some kb)) : BdA w' k A1 n1 lo A2 n2 fa T ob kb := ⟨⟨h.ap1.rd2 h.bd.r1 g, h.bd.l1, h.ap2.rd2 h.bd.r2 g, h.bd.l2, h.bd.code⟩, h.ap1, h.ap2⟩
theorem BdA.stell (h : BdA w k A1 n1 lo A2 n2 fa T ob kb) (g : w.grownBy w' T.ownBlock) (hat : T'.ownBlock = T.ownBlock ∨ T'.ownBlock = some w.heap.size) : BdA w' k A1 n1 lo A2 n2 fa T' ob kb :=
  ⟨⟨h.ap1.rd3 h.bd.r1 g, h.bd.l1, h.ap2.rd3 h.bd.r2 g, h.bd.l2, h.bd.code⟩, h.ap1.turn h.bd.r1 hat, h.ap2.turn h.bd.r2 hat⟩
theorem BdA.dec (h : BdA w k A1 n1 lo A2 n2 fa T ob kb) : BdA w (bkDec k) A1 n1 lo A2 n2 fa T ob kb := ⟨⟨h.bd.r1, h.bd.l1, h.bd.r2, h.bd.l2, h.bd.code⟩, h.ap1, h.ap2⟩
end
/-- The block's box. -/
def FdB (w : World) (ob kb : Nat) (T : Value) (k : Option Bk) : Prop := match k with
  | none => ∃ (kd : Int) (la : Bool) (le : Int) (A1 : Option Addr) (n1 c1 : Nat) (A2 : Option Addr) (n2 c2 : Nat), Blk w kb 67 (bdC kd la le A1 n1 c1 A2 n2 c2)
  | some q => ∃ (A1 : Option Addr) (n1 c1 : Nat) (lo : List Nat) (A2 : Option Addr) (n2 c2 : Nat) (fa : List Nat), Blk w kb 67 (bdC (q.kind : Int) q.last (q.left : Int) A1 n1 c1 A2 n2 c2) ∧ BdA w q A1 n1 lo A2 n2 fa T ob kb
theorem FdB.any {w : World} {ob kb : Nat} {T : Value} {k : Option Bk} (h : FdB w ob kb T k) : ∃ (kd : Int) (la : Bool) (le : Int) (A1 : Option Addr) (n1 c1 : Nat) (A2 : Option Addr) (n2 c2 : Nat), Blk w kb 67 (bdC kd la le A1 n1 c1 A2 n2 c2) := by
  cases k with
  | none => exact h
  | some q => obtain ⟨A1, n1, c1, lo, A2, n2, c2, fa, h1, _⟩ := h; exact ⟨_, _, _, A1, n1, c1, A2, n2, c2, h1⟩
theorem FdB.below {w w' : World} {ob kb : Nat} {T : Value} {k : Option Bk} (h : FdB w ob kb T k) (hb : Below w.heap.size w w') : FdB w' ob kb T k := by
  cases k with
  | none => obtain ⟨kd, la, le, A1, n1, c1, A2, n2, c2, h1⟩ := h; exact ⟨kd, la, le, A1, n1, c1, A2, n2, c2, Blk.below h1 hb (Blk.lt h1)⟩
  | some q => obtain ⟨A1, n1, c1, lo, A2, n2, c2, fa, h1, h2⟩ := h; exact ⟨A1, n1, c1, lo, A2, n2, c2, fa, Blk.below h1 hb (Blk.lt h1), h2.below hb⟩
theorem FdB.sob {w w' : World} {ob kb : Nat} {T : Value} {k : Option Bk} (h : FdB w ob kb T k) (g : w.grownBy w' (some ob)) (hne : ob ≠ kb) : FdB w' ob kb T k := by
  cases k with
  | none => obtain ⟨kd, la, le, A1, n1, c1, A2, n2, c2, h1⟩ := h; exact ⟨kd, la, le, A1, n1, c1, A2, n2, c2, Blk.only h1 g (Ne.symm hne)⟩
  | some q => obtain ⟨A1, n1, c1, lo, A2, n2, c2, fa, h1, h2⟩ := h; exact ⟨A1, n1, c1, lo, A2, n2, c2, fa, Blk.only h1 g (Ne.symm hne), h2.sob g⟩
/-- The stream's cells. -/
abbrev FdO (w : World) (ob : Nat) (most m0 : Nat) (inV : Value) (at0 : Int) (K : Nat → Value) (nt : Nat) (op : Bool) (Bw : Option Addr) (nw cw : Nat) (over : Bool) : Prop :=
  Arr w ob 32 45 (swH (most : Int) ((m0 + nt : Nat) : Int) inV at0 K op 32768 (.slice Bw nw cw) over)
/-- A stream under way, where a round begins. -/
def FdAt (W w : World) (sb rb ob kb : Nat) (F : Nat → Value) (most m0 : Nat) (inV : Value) (at0 : Int) (K : Nat → Value) (A8 : Option Addr) (n8 c8 : Nat) (b : List Nat) (s : Ss) (v11 : Value) : Prop :=
  ∃ (Bw : Option Addr) (cw : Nat) (T : Option Addr) (nt ct nw : Nat), v11 = .slice T nt ct ∧ FdR W w sb rb ob kb F A8 n8 c8 b s.win s.told Bw T nt ct ∧ nw = s.win.length ∧ nw ≤ cw ∧ FdO w ob most m0 inV at0 K nt s.k.isSome Bw nw cw s.over ∧ FdB w ob kb (.slice T nt ct) s.k
/-- .. its numbers. -/
structure FdN (most m0 room : Nat) (b w0 : List Nat) (s : Ss) : Prop where
  ok : SsOk b s
  inv : SsInv room w0 s
  wb : ∀ x ∈ w0, x < 256
  room_ : m0 + room = most
  most_ : most ≤ 131072
  len : b.length ≤ 100000
  byte : ∀ x ∈ b, x < 256
theorem FdN.one {most m0 room : Nat} {b w0 : List Nat} {s s' : Ss} (h : FdN most m0 room b w0 s) (h1 : oneS room b s = .ok s') : FdN most m0 room b w0 s' :=
  ⟨(one_ok h.ok h1).1, one_inv h.wb h.inv h1, h.wb, h.room_, h.most_, h.len, h.byte⟩
theorem FdN.winb {most m0 room : Nat} {b w0 : List Nat} {s : Ss} (h : FdN most m0 room b w0 s) : (∀ x ∈ s.win, x < 256) ∧ s.win.length ≤ 32768 := by
  refine ⟨?_, by rw [h.inv.win, lastL_length]; omega⟩
  rw [h.inv.win]
  intro x hx
  rcases List.mem_append.1 (mem_lastL hx) with hx | hx
  · exact h.wb x hx
  · exact h.inv.byte x hx
/-- A block's rows, as trees. -/
def bx1 (k : Option Bk) : List Int := match k with | none => [] | some q => trX q q.lo
def bx2 (k : Option Bk) : List Int := match k with | none => [] | some q => trX q q.fa
def OfO (w wx : World) (k : Option Bk) (C1 : Option Addr) (m1 d1 : Nat) (C2 : Option Addr) (m2 d2 : Nat) : Prop :=
  wx.ownsRow w.heap.size 3 1 (.slice C1 m1 d1) m1 (ints (bx1 k)) ∧ wx.ownsRow w.heap.size 3 1 (.slice C2 m2 d2) m2 (ints (bx2 k)) ∧ m1 = (bx1 k).length ∧ m2 = (bx2 k).length
theorem OfO.sob {w wx wy : World} {k : Option Bk} {C1 : Option Addr} {m1 d1 : Nat} {C2 : Option Addr} {m2 d2 : Nat} (h : OfO w wx k C1 m1 d1 C2 m2 d2) {ob : Nat} {cs : Array Value} (ko : Blk wx ob 32 cs) (g : wx.grownBy wy (some ob)) : OfO w wy k C1 m1 d1 C2 m2 d2 :=
  ⟨own_only h.1 ko (by decide) g, own_only h.2.1 ko (by decide) g, h.2.2⟩
theorem OfO.below {w wx wy : World} {k : Option Bk} {C1 : Option Addr} {m1 d1 : Nat} {C2 : Option Addr} {m2 d2 : Nat} (h : OfO w wx k C1 m1 d1 C2 m2 d2) (hb : Below wx.heap.size wx wy) : OfO w wy k C1 m1 d1 C2 m2 d2 :=
  ⟨own_below h.1 hb, own_below h.2.1 hb, h.2.2⟩
theorem fd_ok {w w' : World} {most made room : Nat} {b w0 : List Nat} {s : Ss} (hn : FdN most made room b w0 s) {v : Sv} {I : Option Addr} {ci base : Nat} (hI : w'.ownsRow base 5 1 (.slice I (leftB b s).length ci) (leftB b s).length (u8s (leftB b s))) (hw : Rd w' v.A (u8s s.win)) (hnl : v.nl = s.win.length) (hcl : v.nl ≤ v.cl) (hO : OfO w w' s.k v.C1 v.m1 v.d1 v.C2 v.m2 v.d2) : (fedV most made b s v I (leftB b s).length ci).ok w' := by
  have hb1 : (bkV s.k v).x1 = bx1 s.k := by cases s.k <;> rfl
  have hb2 : (bkV s.k v).x2 = bx2 s.k := by cases s.k <;> rfl
  have hc : (bkV s.k v).C1 = v.C1 ∧ (bkV s.k v).m1 = v.m1 ∧ (bkV s.k v).d1 = v.d1 ∧ (bkV s.k v).C2 = v.C2 ∧ (bkV s.k v).m2 = v.m2 ∧ (bkV s.k v).d2 = v.d2 := by cases s.k <;> exact ⟨rfl, rfl, rfl, rfl, rfl, rfl⟩
  obtain ⟨e1, e2, e3, e4, e5, e6⟩ := hc
  obtain ⟨o1, o2, l1, l2⟩ := hO
  have hlen := bkV_len (v := v) hn.ok.blk
  rw [hb1, hb2] at hlen
  have hwb := hn.winb
  have hlb : (leftB b s).length ≤ b.length := by unfold leftB; split; exact Nat.zero_le _; rw [List.length_drop]; omega
  have hbl := hn.len
  refine ⟨own_rd hI, fun x hx => hn.byte x (mem_left hx), rfl, own_cap hI, by show (leftB b s).length ≤ 1000000; omega, ⟨?_, ?_, ?_, ?_, ?_, ?_, ?_, ?_⟩, hw, hwb.1, hnl, hcl, by show v.nl ≤ 1000000; omega⟩
  · show Rd w' (bkV s.k v).C1 (ints (bkV s.k v).x1); rw [e1, hb1]; exact own_rd o1
  · show (bkV s.k v).m1 = (bkV s.k v).x1.length; rw [e2, hb1]; exact l1
  · show (bkV s.k v).m1 ≤ (bkV s.k v).d1; rw [e2, e3]; exact own_cap o1
  · show (bkV s.k v).m1 ≤ 1001; rw [e2]; omega
  · show Rd w' (bkV s.k v).C2 (ints (bkV s.k v).x2); rw [e4, hb2]; exact own_rd o2
  · show (bkV s.k v).m2 = (bkV s.k v).x2.length; rw [e5, hb2]; exact l2
  · show (bkV s.k v).m2 ≤ (bkV s.k v).d2; rw [e5, e6]; exact own_cap o2
  · show (bkV s.k v).m2 ≤ 1001; rw [e5]; omega
/-- What goes on answers, in memory. -/
structure RFMem (w w' : World) (most made : Nat) (all : List Nat) (s1 : Ss) (v : Sv) (I : Option Addr) (ci : Nat) : Prop where
  only : Below w.heap.size w w'
  val : (fedV most made all s1 v I (leftB all s1).length ci).ok w'
  told : w'.ownsRow w.heap.size 5 1 (.slice v.D v.nt v.ct) v.nt (u8s s1.told)
  nt_ : v.nt = s1.told.length
  in_ : w'.ownsRow w.heap.size 5 1 (.slice I (leftB all s1).length ci) (leftB all s1).length (u8s (leftB all s1))
  o : OfO w w' s1.k v.C1 v.m1 v.d1 v.C2 v.m2 v.d2
  low : 0 < (u8s s1.win).length → ∀ ad, v.A = some ad → w.heap.size ≤ ad.block
/-- What goes on answers. -/
def RFed (w w' : World) (most made nA n : Nat) (all : List Nat) (o : Except Nat Ss) (r : Ending) : Prop := match o with
  | .error e => FeedNo w w' e r
  | .ok s1 => ∃ v I ci, r = .returned (.tuple #[.agg (cellsOf 45 (fedV most made all s1 v I (leftB all s1).length ci).F), .slice v.D v.nt v.ct, .int .i64 ((usedN nA n s1 : Nat) : Int), .int .i64 0]) ∧ RFMem w w' most made all s1 v I ci
theorem fed_val {w' : World} {most made : Nat} {all : List Nat} {s1 : Ss} {v : Sv} {I : Option Addr} {ci : Nat} {w1 : World} (h : (fedV most made all s1 v I (leftB all s1).length ci).ok w1) (hI : Rd w' I (u8s (leftB all s1))) (hw : Rd w' v.A (u8s s1.win)) (h1 : Rd w' v.C1 (ints (bx1 s1.k))) (h2 : Rd w' v.C2 (ints (bx2 s1.k))) : (fedV most made all s1 v I (leftB all s1).length ci).ok w' := by
  have hb1 : (bkV s1.k v).x1 = bx1 s1.k := by cases s1.k <;> rfl
  have hb2 : (bkV s1.k v).x2 = bx2 s1.k := by cases s1.k <;> rfl
  have hc : (bkV s1.k v).C1 = v.C1 ∧ (bkV s1.k v).C2 = v.C2 := by cases s1.k <;> exact ⟨rfl, rfl⟩
  refine ⟨hI, h.bA, h.lenA, h.capA, h.maxA, ⟨?_, h.bk.l1, h.bk.c1, h.bk.b1, ?_, h.bk.l2, h.bk.c2, h.bk.b2⟩, hw, h.bw, h.lenw, h.capw, h.maxw⟩
  · show Rd w' (bkV s1.k v).C1 (ints (bkV s1.k v).x1); rw [hc.1, hb1]; exact h1
  · show Rd w' (bkV s1.k v).C2 (ints (bkV s1.k v).x2); rw [hc.2, hb2]; exact h2
/-- .. where an older stream's box has turned. -/
theorem RFMem.over {w0 w w' w'' : World} {most made : Nat} {all : List Nat} {s1 : Ss} {v : Sv} {I : Option Addr} {ci g : Nat} {cs : Array Value} (h : RFMem w w' most made all s1 v I ci) (hb0 : Below w0.heap.size w0 w) (k : Blk w' g 32 cs) (hg : w'.grownBy w'' (some g)) (h0 : w0.heap.size ≤ g) (h1 : g < w.heap.size) : RFMem w0 w'' most made all s1 v I ci := by
  have hb := hb0.trans (h.only.mono hb0.size)
  have o2 := h.o.sob k hg
  have oI := own_only h.in_ k (by decide) hg
  have hw : Rd w'' v.A (u8s s1.win) := rd_row h.val.rw_ hg fun hl ad e e' => by injection e' with e'; have := h.low hl ad e; omega
  exact ⟨Below.then_only hb hg hb.size h0, fed_val h.val (own_rd oI) hw (own_rd o2.1) (own_rd o2.2.1), own_far_base (own_only h.told k (by decide) hg) hb0.size, h.nt_, own_far_base oI hb0.size, ⟨own_far_base o2.1 hb0.size, own_far_base o2.2.1 hb0.size, o2.2.2⟩, fun hl ad e => Nat.le_trans hb0.size (h.low hl ad e)⟩
theorem RFMem.below {w w' w'' : World} {most made : Nat} {all : List Nat} {s1 : Ss} {v : Sv} {I : Option Addr} {ci : Nat} (h : RFMem w w' most made all s1 v I ci) (hb : Below w'.heap.size w' w'') : RFMem w w'' most made all s1 v I ci :=
  ⟨h.only.trans (hb.mono h.only.size), h.val.below hb, own_below h.told hb, h.nt_, own_below h.in_ hb, h.o.below hb, h.low⟩
end Go.Proofs.YtahboomghjdjhaaGreat

/-
  A step of a block, as the document reads it.
-/
namespace Go.Proofs.YtahboomghjdjhaaGreat
open Go.RowKit

/-- What a step answers. -/
def NxRes (w w' : World) (p : Pa St) (b : List Nat) (a : Nat) (e : Ending) : Prop := Below w.heap.size w w' ∧ match p b a with
  | .error x => x ≠ 0 ∧ e = .returned (.tuple #[.agg #[.int .u8 0, .int .i64 0, .int .i64 0], .bool false, .int .i64 0, .int .i64 ((x : Nat) : Int)])
  | .ok (t, m) => e = .returned (.tuple #[.agg #[.int .u8 ((t.lit : Nat) : Int), .int .i64 ((t.dist : Nat) : Int), .int .i64 ((t.long : Nat) : Int)], .bool t.fin, .int .i64 ((m : Nat) : Int), .int .i64 0])
theorem tk_size : (Tryz.prog.info? 72).map (·.size) = some 3 := by kernel_rfl
theorem tk_three {W : World} {g : Nat} {t : TypeId} {u0 u1 u2 : Value} (k : Blk W g t #[u0, u1, u2]) (v0 v1 v2 : Value) :
    Blk (((W.setCell ⟨g, 0, none⟩ v0).setCell ⟨g, 1, none⟩ v1).setCell ⟨g, 2, none⟩ v2) g t #[v0, v1, v2] ∧ W.grownBy (((W.setCell ⟨g, 0, none⟩ v0).setCell ⟨g, 1, none⟩ v1).setCell ⟨g, 2, none⟩ v2) (some g) :=
  ⟨((k.set_ 0 v0).set_ 1 v1).set_ 2 v2, only_set (only_set (only_set (only_self W g) 0 v0) 1 v1) 2 v2⟩
theorem can_len {l : List Nat} {m : Int} (h : canE l m = 0) : l.length ≤ 320 := (canE_ok h).2.2.1

set_option maxRecDepth 100000 in
set_option maxHeartbeats 2000000 in
theorem rnext13_any (k : Bk) (hk : BkOk k) (A1 : Option Addr) (n1 c1 : Nat) (lo : List Nat) (A2 : Option Addr) (n2 c2 : Nat) (fa : List Nat) (B : Option Addr) (n c : Nat) (b : List Nat) (a : Nat) (w : World) (hd : Bd w k A1 n1 lo A2 n2 fa) (hB : Bs w B b) (hn : n = b.length) (hm : n ≤ 100000) (ha : a ≤ 8 * n) :
    Calls Tryz.prog 34 #[.agg (bdC ((k.kind : Nat) : Int) k.last ((k.left : Nat) : Int) A1 n1 c1 A2 n2 c2), .slice B n c, .int .i64 (a : Int)] w fun e w' => NxRes w w' (stP k) b a e := by
  obtain ⟨kd, last, left, klo, kfa⟩ := k
  have hstp : stP ⟨kd, last, left, klo, kfa⟩ b a = (if kd = 0 then if left = 0 then paOk ⟨0, 0, 0, true⟩ else paBind (tkP 8) fun v => paOk ⟨0, 0, v, false⟩ else paBind (syP klo) (swP kfa)) b a := rfl
  dsimp only at *
  have HT := Lib.hid fun wx (hb : Below w.heap.size w wx) => (rtakeP B n c b a 8 wx (hB.below hb) hn (by omega) (by omega) (by omega) : Calls Tryz.prog 48 #[.slice B n c, .int .i64 (a : Int), .int .i64 8] wx fun e w' => TkpRes b a 8 e ∧ wx = w')
  have HRD := Lib.hid fun wx (A : Option Addr) (d nl : Nat) (l : List Nat) (at_ : Nat) (hA : Rd wx A (codV (codesL l))) (hl : l.length = nl) (hc : canE l 15 = 0) (hb : Below w.heap.size w wx) (h : at_ ≤ 8 * n) => rreadP A B d c n nl l b at_ wx hA hl (hl ▸ can_len hc) hc (hB.below hb) hn hm (by omega)
  have HEL := Lib.hid fun wx (s at_ : Nat) (hb : Below w.heap.size w wx) (h1 : s ≤ 1000) (h2 : at_ ≤ 8 * n) => rextra_Long B n c b s at_ wx (hB.below hb) hn hm h1 h2
  have HEF := Lib.hid fun wx (s at_ : Nat) (hb : Below w.heap.size w wx) (h1 : s ≤ 1000) (h2 : at_ ≤ 8 * n) => rextra_Far B n c b s at_ wx (hB.below hb) hn hm h1 h2
  have hleft : left ≤ 65535 := by
    by_cases h0 : kd = 0
    · exact (hk.zero h0).1
    · have := (hk.code h0).1; dsimp only at this; omega
  have hkd : kd ≤ 2 := hk.kind
  have HN := Lib.hid hn
  have HBD := Lib.hid hd
  clear hB hn hd hk
  go_enter Tryz.func34, Tryz.ntmps34
  go_upto_region 1 with fail
  have hb0 : Below w.heap.size w ((w.alloc (.cells (bdC (kd : Int) last (left : Int) A1 n1 c1 A2 n2 c2) 67)).alloc (.cells #[.int .u8 0, .int .i64 0, .int .i64 0] 72)) := ((Below.refl _ _).alloc (Nat.le_refl _) _).alloc (by simp) _
  have k3 : Blk ((w.alloc (.cells (bdC (kd : Int) last (left : Int) A1 n1 c1 A2 n2 c2) 67)).alloc (.cells #[.int .u8 0, .int .i64 0, .int .i64 0] 72)) w.heap.size 67 (bdC (kd : Int) last (left : Int) A1 n1 c1 A2 n2 c2) := Blk.alloc (Blk.new _ _ _) _
  have k6 : Blk ((w.alloc (.cells (bdC (kd : Int) last (left : Int) A1 n1 c1 A2 n2 c2) 67)).alloc (.cells #[.int .u8 0, .int .i64 0, .int .i64 0] 72)) (w.heap.size + 1) 72 #[.int .u8 0, .int .i64 0, .int .i64 0] := Blk.new' _ _ _ _ (by simp)
  change Code.wp _ _ _ _ ((w.alloc (.cells (bdC (kd : Int) last (left : Int) A1 n1 c1 A2 n2 c2) 67)).alloc (.cells #[.int .u8 0, .int .i64 0, .int .i64 0] 72))
  generalize (w.alloc (.cells (bdC (kd : Int) last (left : Int) A1 n1 c1 A2 n2 c2) 67)).alloc (.cells #[.int .u8 0, .int .i64 0, .int .i64 0] 72) = w1 at *
  obtain ⟨g6, hg6⟩ : ∃ g, w.heap.size + 1 = g := ⟨_, rfl⟩
  rw [hg6] at k6
  rw [hg6]
  obtain ⟨g3, hg3⟩ : ∃ g, w.heap.size = g := ⟨_, rfl⟩
  rw [hg3] at k3
  rw [hg3]
  have HG := Lib.hid (show w.heap.size ≤ g6 by omega)
  clear hg3 hg6
  have ct3 := Blk.cells k3
  have ct6 := Blk.cells k6
  have fx6 := Blk.frozens k6
  by_cases h0 : kd = 0
  · rw [if_pos h0] at hstp
    have q0 : ((kd : Int) == 0) = true := by rw [h0]; rfl
    have HK0 := Lib.hid h0
    clear h0
    by_cases hl0 : left = 0
    · rw [if_pos hl0] at hstp
      have HE := Lib.hid (show stP ⟨kd, last, left, klo, kfa⟩ b a = .ok (⟨0, 0, 0, true⟩, a) from hstp)
      have q1 : ((left : Int) == 0) = true := by rw [hl0]; rfl
      clear hl0 hstp
      go_wp2_with fail
      obtain ⟨k5, g5⟩ := tk_three k6 (.int .u8 0) (.int .i64 0) (.int .i64 0)
      refine bodyPost_ret (results_four Tryz.results34 _ _ g6 72 _ _ _ _ _ rfl rfl rfl rfl k5 Tryz.underlying72 rfl tk_size) rfl ?_
      unfold NxRes
      rw [HE.out]
      exact ⟨Below.then_only hb0 g5 hb0.size (by have := HG.out; omega), rfl⟩
    · rw [if_neg hl0] at hstp
      have q1 : ((left : Int) == 0) = false := by rw [beq_eq_false_iff_ne]; omega
      have HTT := Lib.hid (HT.out w1 hb0)
      unfold TkpRes at HTT
      cases htk : tkP 8 b a with
      | error x =>
        rw [htk] at HTT
        obtain rfl := fe_tk_err htk
        have HE := Lib.hid (show stP ⟨kd, last, left, klo, kfa⟩ b a = .error 10 by rw [hstp]; exact paBind_no htk)
        clear htk hl0 hstp
        go_wp2_with (go_at_call 48; refine HTT.out.mono ?_; rintro e w' ⟨rfl, rfl⟩)
        obtain ⟨k5, g5⟩ := tk_three k6 (.int .u8 0) (.int .i64 0) (.int .i64 0)
        refine bodyPost_ret (results_four Tryz.results34 _ _ g6 72 _ _ _ _ _ rfl rfl rfl rfl k5 Tryz.underlying72 rfl tk_size) rfl ?_
        unfold NxRes
        rw [HE.out]
        exact ⟨Below.then_only hb0 g5 hb0.size (by have := HG.out; omega), by decide, rfl⟩
      | ok r =>
        obtain ⟨v, m⟩ := r
        rw [htk] at HTT
        obtain ⟨hv, hm1, hm2⟩ := fe_tk_inv htk
        have hv8 : v < 256 := hv
        have em : (a : Int) + 8 = (m : Int) := by omega
        have HE := Lib.hid (show stP ⟨kd, last, left, klo, kfa⟩ b a = .ok (⟨0, 0, v, false⟩, m) by rw [hstp, paBind_ok htk]; rfl)
        clear htk hl0 hstp hv hm1 hm2
        go_wp2_with (go_at_call 48; refine HTT.out.mono ?_; rintro e w' ⟨rfl, rfl⟩)
        obtain ⟨k5, g5⟩ := tk_three k6 (.int .u8 (v : Int)) (.int .i64 0) (.int .i64 0)
        refine bodyPost_ret (results_four Tryz.results34 _ _ g6 72 _ _ _ _ _ rfl rfl rfl rfl k5 Tryz.underlying72 rfl tk_size) rfl ?_
        unfold NxRes
        rw [HE.out]
        exact ⟨Below.then_only hb0 g5 hb0.size (by have := HG.out; omega), rfl⟩
  · rw [if_neg h0] at hstp
    have q0 : ((kd : Int) == 0) = false := by rw [beq_eq_false_iff_ne]; omega
    obtain ⟨hlo, hfa, hc1, hc2⟩ := HBD.out.code h0
    dsimp only at hlo hfa
    have hsl : syP klo = syP lo := by rw [hlo]; exact syP_pad (can_len hc1)
    have hsf : syP kfa = syP fa := by rw [hfa]; exact syP_pad (can_len hc2)
    rw [hsl] at hstp
    have hr1 := HBD.out.r1.below hb0
    have HM1 := Lib.hid (by have h := made_any A1 c1 lo w1 (rd_u8 hr1 (fun x hx => by have := can_le hc1 x hx; have h15 : (15 : Int).toNat = 15 := rfl; omega)) (by have := can_len hc1; omega) (fun x hx => by have := can_le hc1 x hx; have h15 : (15 : Int).toNat = 15 := rfl; omega) (canE_ok hc1).2.2.2.2.1; rw [← HBD.out.l1] at h; exact h)
    have HC := Lib.hid (And.intro hc1 (And.intro hc2 hsf))
    clear h0 hlo hfa hc1 hc2 hsl hsf hr1
    cases hsy : syP lo b a with
    | error x =>
      have HE := Lib.hid (show stP ⟨kd, last, left, klo, kfa⟩ b a = .error x by rw [hstp]; exact paBind_no hsy)
      have HRR := Lib.hid fun wx D dd (hA : Rd wx D (codV (codesL lo))) hb => (by have h := HRD.out wx D dd n1 lo a hA HBD.out.l1.symm HC.out.1 hb ha; unfold SypRes at h; rw [hsy] at h; exact h)
      clear hsy hstp
      go_upto_region 9 with (first
        | (go_at_call 52; refine (HRR.out _ _ _ hD.rd hbb).mono ?_; rintro e w3 ⟨⟨hx0, rfl⟩, hb23⟩)
        | (go_at_call 53; refine HM1.out.mono ?_; rintro e w2 ⟨D, dd, rfl, hD⟩; have hbb := hb0.trans (hD.1.mono hb0.size)))
      have hb3 := hbb.trans (hb23.mono hbb.size)
      have k6' := Blk.below (Blk.below k6 hD.1 (Blk.lt k6)) hb23 (Nat.lt_of_lt_of_le (Blk.lt k6) hD.1.size)
      have ct6' := Blk.cells k6'
      have fx6' := Blk.frozens k6'
      have q1 : ((x : Int) != 0) = true := by rw [bne_iff_ne]; omega
      clear ct6 fx6 ct3
      go_wp2_with fail
      obtain ⟨k5, g5⟩ := tk_three k6' (.int .u8 0) (.int .i64 0) (.int .i64 0)
      refine bodyPost_ret (results_four Tryz.results34 _ _ g6 72 _ _ _ _ _ rfl rfl rfl rfl k5 Tryz.underlying72 rfl tk_size) rfl ?_
      unfold NxRes
      rw [HE.out]
      exact ⟨Below.then_only hb3 g5 hb3.size (by have := HG.out; omega), hx0, rfl⟩
    | ok r =>
      obtain ⟨s, m1⟩ := r
      have hm1 : m1 ≤ 8 * n := by
        rw [HN.out]
        exact syP_le (fun x hx => by have := can_le HC.out.1 x hx; have h15 : (15 : Int).toNat = 15 := rfl; omega) hsy (by rw [← HN.out]; exact ha)
      have HRR := Lib.hid fun wx D dd (hA : Rd wx D (codV (codesL lo))) hb => (by have h := HRD.out wx D dd n1 lo a hA HBD.out.l1.symm HC.out.1 hb ha; unfold SypRes at h; rw [hsy] at h; exact h)
      rw [paBind_ok hsy] at hstp
      clear hsy
      go_upto_region 11 with (first
        | (go_at_call 52; refine (HRR.out _ _ _ hD.rd hbb).mono ?_; rintro e w3 ⟨⟨hs0, rfl⟩, hb23⟩)
        | (go_at_call 53; refine HM1.out.mono ?_; rintro e w2 ⟨D, dd, rfl, hD⟩; have hbb := hb0.trans (hD.1.mono hb0.size)))
      have hb3 := hbb.trans (hb23.mono hbb.size)
      have k6' := Blk.below (Blk.below k6 hD.1 (Blk.lt k6)) hb23 (Nat.lt_of_lt_of_le (Blk.lt k6) hD.1.size)
      have k3' := Blk.below (Blk.below k3 hD.1 (Blk.lt k3)) hb23 (Nat.lt_of_lt_of_le (Blk.lt k3) hD.1.size)
      have hs1 : s ≤ 1000 := by have := can_len HC.out.1; omega
      clear ct6 fx6 ct3 k6 k3 hs0 hbb hb23 hD HRR HM1 hb0
      have ct3 := Blk.cells k3'
      have ct6 := Blk.cells k6'
      have fx6 := Blk.frozens k6'
      unfold swP at hstp
      by_cases h256 : s < 256
      · have HE := Lib.hid (show stP ⟨kd, last, left, klo, kfa⟩ b a = .ok (⟨0, 0, s, false⟩, m1) by rw [hstp, if_pos h256]; rfl)
        have q1 : decide ((s : Int) < 256) = true := decide_eq_true (by omega)
        have q1' : decide (s < 256) = true := decide_eq_true h256
        clear hstp
        go_wp2_with fail
        obtain ⟨k5, g5⟩ := tk_three k6' (.int .u8 (s : Int)) (.int .i64 0) (.int .i64 0)
        refine bodyPost_ret (results_four Tryz.results34 _ _ g6 72 _ _ _ _ _ rfl rfl rfl rfl k5 Tryz.underlying72 rfl tk_size) rfl ?_
        unfold NxRes
        rw [HE.out]
        exact ⟨Below.then_only hb3 g5 hb3.size (by have := HG.out; omega), rfl⟩
      · have q1 : decide ((s : Int) < 256) = false := decide_eq_false (by omega)
        have q1' : decide (s < 256) = false := decide_eq_false h256
        rw [if_neg h256] at hstp
        by_cases he : s = 256
        · have HE := Lib.hid (show stP ⟨kd, last, left, klo, kfa⟩ b a = .ok (⟨0, 0, 0, true⟩, m1) by rw [hstp, if_pos he]; rfl)
          have q2 : ((s : Int) == 256) = true := by rw [he]; rfl
          clear hstp he h256
          go_wp2_with fail
          obtain ⟨k5, g5⟩ := tk_three k6' (.int .u8 0) (.int .i64 0) (.int .i64 0)
          refine bodyPost_ret (results_four Tryz.results34 _ _ g6 72 _ _ _ _ _ rfl rfl rfl rfl k5 Tryz.underlying72 rfl tk_size) rfl ?_
          unfold NxRes
          rw [HE.out]
          exact ⟨Below.then_only hb3 g5 hb3.size (by have := HG.out; omega), rfl⟩
        · have q2 : ((s : Int) == 256) = false := by rw [beq_eq_false_iff_ne]; omega
          rw [if_neg he] at hstp
          have HX := Lib.hid (HEL.out w3 s m1 hb3 hs1 hm1)
          unfold ExRes at HX
          clear he h256
          cases hex : exP 257 longT s b m1 with
          | error x =>
            have HE := Lib.hid (show stP ⟨kd, last, left, klo, kfa⟩ b a = .error x by rw [hstp]; exact paBind_no hex)
            rw [hex] at HX
            clear hex hstp
            go_upto_region 16 with (go_at_call 54; refine HX.out.mono ?_; rintro e w4 ⟨hb34, v, mm, hx0, rfl⟩)
            have hb4 := hb3.trans (hb34.mono hb3.size)
            have k6q := Blk.below k6' hb34 (Blk.lt k6')
            clear ct6 fx6 ct3
            have ct6 := Blk.cells k6q
            have fx6 := Blk.frozens k6q
            have q3 : ((x : Int) != 0) = true := by rw [bne_iff_ne]; omega
            go_wp2_with fail
            obtain ⟨k5, g5⟩ := tk_three k6q (.int .u8 0) (.int .i64 0) (.int .i64 0)
            refine bodyPost_ret (results_four Tryz.results34 _ _ g6 72 _ _ _ _ _ rfl rfl rfl rfl k5 Tryz.underlying72 rfl tk_size) rfl ?_
            unfold NxRes
            rw [HE.out]
            exact ⟨Below.then_only hb4 g5 hb4.size (by have := HG.out; omega), hx0, rfl⟩
          | ok r =>
            obtain ⟨lg, m2⟩ := r
            rw [hex] at HX
            rw [paBind_ok hex] at hstp
            have hm2 : m2 ≤ 8 * n := by
              have h := ((exP_gd (f := 257) (t := longT) (B := 5) (fun i => (rowT_long i).1) s).ok _ _ _ _ hex).2.2 (by rw [← HN.out]; exact hm1)
              rw [HN.out]
              exact h
            clear hex
            go_upto_region 18 with (go_at_call 54; refine HX.out.mono ?_; rintro e w4 ⟨hb34, rfl⟩)
            have hb4 := hb3.trans (hb34.mono hb3.size)
            have k6q := Blk.below k6' hb34 (Blk.lt k6')
            have k3q := Blk.below k3' hb34 (Blk.lt k3')
            clear ct6 fx6 ct3 k6' k3' hb34 hb3 HX
            have ct3 := Blk.cells k3q
            have ct6 := Blk.cells k6q
            have fx6 := Blk.frozens k6q
            unfold scP at hstp
            rw [HC.out.2.2] at hstp
            have hr2 := HBD.out.r2.below hb4
            have HM2 := Lib.hid (by have h := made_any A2 c2 fa w4 (rd_u8 hr2 (fun x hx => by have := can_le HC.out.2.1 x hx; have h15 : (15 : Int).toNat = 15 := rfl; omega)) (by have := can_len HC.out.2.1; omega) (fun x hx => by have := can_le HC.out.2.1 x hx; have h15 : (15 : Int).toNat = 15 := rfl; omega) (canE_ok HC.out.2.1).2.2.2.2.1; rw [← HBD.out.l2] at h; exact h)
            clear hr2
            cases hsy : syP fa b m2 with
            | error x =>
              have HE := Lib.hid (show stP ⟨kd, last, left, klo, kfa⟩ b a = .error x by rw [hstp]; exact paBind_no hsy)
              have HRR := Lib.hid fun wx D dd (hA : Rd wx D (codV (codesL fa))) hb => (by have h := HRD.out wx D dd n2 fa m2 hA HBD.out.l2.symm HC.out.2.1 hb hm2; unfold SypRes at h; rw [hsy] at h; exact h)
              clear hsy hstp
              go_upto_region 19 with (first
                | (go_at_call 52; refine (HRR.out _ _ _ hD.rd hbb).mono ?_; rintro e w6 ⟨⟨hx0, rfl⟩, hb56⟩)
                | (go_at_call 53; refine HM2.out.mono ?_; rintro e w5 ⟨D, dd, rfl, hD⟩; have hbb := hb4.trans (hD.1.mono hb4.size)))
              have hb6 := hbb.trans (hb56.mono hbb.size)
              have k6b := Blk.below (Blk.below k6q hD.1 (Blk.lt k6q)) hb56 (Nat.lt_of_lt_of_le (Blk.lt k6q) hD.1.size)
              clear ct6 fx6 ct3
              have ct6 := Blk.cells k6b
              have fx6 := Blk.frozens k6b
              have q4 : ((x : Int) != 0) = true := by rw [bne_iff_ne]; omega
              go_wp2_with fail
              obtain ⟨k5, g5⟩ := tk_three k6b (.int .u8 0) (.int .i64 0) (.int .i64 0)
              refine bodyPost_ret (results_four Tryz.results34 _ _ g6 72 _ _ _ _ _ rfl rfl rfl rfl k5 Tryz.underlying72 rfl tk_size) rfl ?_
              unfold NxRes
              rw [HE.out]
              exact ⟨Below.then_only hb6 g5 hb6.size (by have := HG.out; omega), hx0, rfl⟩
            | ok r =>
              obtain ⟨s2, m3⟩ := r
              have hm3 : m3 ≤ 8 * n := by
                rw [HN.out]
                exact syP_le (fun x hx => by have := can_le HC.out.2.1 x hx; have h15 : (15 : Int).toNat = 15 := rfl; omega) hsy (by rw [← HN.out]; exact hm2)
              have HRR := Lib.hid fun wx D dd (hA : Rd wx D (codV (codesL fa))) hb => (by have h := HRD.out wx D dd n2 fa m2 hA HBD.out.l2.symm HC.out.2.1 hb hm2; unfold SypRes at h; rw [hsy] at h; exact h)
              rw [paBind_ok hsy] at hstp
              clear hsy
              go_upto_region 21 with (first
                | (go_at_call 52; refine (HRR.out _ _ _ hD.rd hbb).mono ?_; rintro e w6 ⟨⟨hs0, rfl⟩, hb56⟩)
                | (go_at_call 53; refine HM2.out.mono ?_; rintro e w5 ⟨D, dd, rfl, hD⟩; have hbb := hb4.trans (hD.1.mono hb4.size)))
              have hb6 := hbb.trans (hb56.mono hbb.size)
              have k6b := Blk.below (Blk.below k6q hD.1 (Blk.lt k6q)) hb56 (Nat.lt_of_lt_of_le (Blk.lt k6q) hD.1.size)
              have hs2 : s2 ≤ 1000 := by have := can_len HC.out.2.1; omega
              clear ct6 fx6 ct3 k6q k3q hb56 hbb hD HRR HM2 hb4 hs0
              have ct6 := Blk.cells k6b
              have fx6 := Blk.frozens k6b
              have HY := Lib.hid (HEF.out w6 s2 m3 hb6 hs2 hm3)
              unfold ExRes at HY
              cases hex : exP 0 farT s2 b m3 with
              | error x =>
                have HE := Lib.hid (show stP ⟨kd, last, left, klo, kfa⟩ b a = .error x by rw [hstp]; exact paBind_no hex)
                rw [hex] at HY
                clear hex hstp
                go_upto_region 22 with (go_at_call 54; refine HY.out.mono ?_; rintro e w7 ⟨hb67, v, mm, hx0, rfl⟩)
                have hb7 := hb6.trans (hb67.mono hb6.size)
                have k6c := Blk.below k6b hb67 (Blk.lt k6b)
                clear ct6 fx6
                have ct6 := Blk.cells k6c
                have fx6 := Blk.frozens k6c
                have q5 : ((x : Int) != 0) = true := by rw [bne_iff_ne]; omega
                go_wp2_with fail
                obtain ⟨k5, g5⟩ := tk_three k6c (.int .u8 0) (.int .i64 0) (.int .i64 0)
                refine bodyPost_ret (results_four Tryz.results34 _ _ g6 72 _ _ _ _ _ rfl rfl rfl rfl k5 Tryz.underlying72 rfl tk_size) rfl ?_
                unfold NxRes
                rw [HE.out]
                exact ⟨Below.then_only hb7 g5 hb7.size (by have := HG.out; omega), hx0, rfl⟩
              | ok r =>
                obtain ⟨ds, m4⟩ := r
                have HE := Lib.hid (show stP ⟨kd, last, left, klo, kfa⟩ b a = .ok (⟨ds, lg, 0, false⟩, m4) by rw [hstp, paBind_ok hex]; rfl)
                rw [hex] at HY
                clear hex hstp
                go_upto_region 22 with (go_at_call 54; refine HY.out.mono ?_; rintro e w7 ⟨hb67, rfl⟩)
                have hb7 := hb6.trans (hb67.mono hb6.size)
                have k6c := Blk.below k6b hb67 (Blk.lt k6b)
                clear ct6 fx6
                have ct6 := Blk.cells k6c
                have fx6 := Blk.frozens k6c
                go_wp2_with fail
                obtain ⟨k5, g5⟩ := tk_three k6c (.int .u8 0) (.int .i64 (ds : Int)) (.int .i64 (lg : Int))
                refine bodyPost_ret (results_four Tryz.results34 _ _ g6 72 _ _ _ _ _ rfl rfl rfl rfl k5 Tryz.underlying72 rfl tk_size) rfl ?_
                unfold NxRes
                rw [HE.out]
                exact ⟨Below.then_only hb7 g5 hb7.size (by have := HG.out; omega), rfl⟩
end Go.Proofs.YtahboomghjdjhaaGreat
