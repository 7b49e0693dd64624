/-
  Walks: slices.symMergeCmpFunc where one of the stretches has one number.
-/
import Derived.Test.YtfcefhaaphieeaaGreatGSortB
namespace Go.Proofs.YtfcefhaaphieeaaGreat
open Go.RowKit

/-- One number ahead of a stretch in order: the search has come to i and j. -/
structure FdA (f : Int → Int) (xs : List Int) (a m b i j : Nat) : Prop where
  i1 : m ≤ i
  i2 : i ≤ j
  i3 : j ≤ b
  lo : ∀ k, m ≤ k → k < i → f (nthI xs k) < f (nthI xs a)
  up : ∀ k, j ≤ k → k < b → ¬ f (nthI xs k) < f (nthI xs a)
section
variable {f : Int → Int} {xs : List Int} {a m b i j h : Nat}
theorem FdA.start (hm : m ≤ b) : FdA f xs a m b m b := ⟨Nat.le_refl _, hm, Nat.le_refl _, fun k h1 h2 => by omega, fun k h1 h2 => by omega⟩
theorem FdA.less (F : FdA f xs a m b i j) (hg : SG f xs m b) (h1 : i ≤ h) (h2 : h < j) (hl : f (nthI xs h) < f (nthI xs a)) : FdA f xs a m b (h + 1) j :=
  ⟨by have := F.i1; omega, by omega, F.i3, fun k k1 k2 => Int.lt_of_le_of_lt (hg.le k1 (by omega) (by have := F.i3; omega)) hl, F.up⟩
theorem FdA.more (F : FdA f xs a m b i j) (hg : SG f xs m b) (h1 : i ≤ h) (h2 : h < j) (hl : ¬ f (nthI xs h) < f (nthI xs a)) : FdA f xs a m b i h :=
  ⟨F.i1, h1, by have := F.i3; omega, F.lo, fun k k1 k2 => by have := hg.le (i := h) (j := k) (by have := F.i1; omega) k1 k2; omega⟩
theorem FdA.ins (F : FdA f xs a m b i i) (hm : m = a + 1) (hg : SG f xs m b) (hp : SP xs a m b) : InsR f xs a a i b (nthI xs a) :=
  ⟨rfl, fun p q h1 h2 h3 h4 h5 => hg p q (by omega) h2 h3, fun p h1 h2 h3 => .inl (F.lo p (by omega) h2), fun q h1 h2 => by
    have e1 := F.up q h1 h2
    have e2 := hp a q (Nat.le_refl _) (by omega) (by have := F.i1; omega) h2
    unfold LX; omega⟩
end

set_option maxRecDepth 100000 in
set_option maxHeartbeats 4000000 in
theorem symA_is (W : World) (g n c a m b kb : Nat) (f : Int → Int) (N : Int) (xs : List Int) (w : World) (K : CmpK W kb f N) (h : Dt W w g n c xs) (hn : n ≤ 1000000) (ha : m = a + 1) (hm : m < b) (hb : b ≤ n) (hx : InN N xs)
    (h2 : SG f xs m b) (h3 : SP xs a m b) :
    Calls Tryz.prog 100 #[.slice (some ⟨g, 0, none⟩) n c, .int .i64 (a : Int), .int .i64 (m : Int), .int .i64 (b : Int), cmpV kb] w fun e w' => SoRes W w' e g n c f xs a b := by
  have HK := Lib.hid K
  have HS := Lib.hid (And.intro h2 (And.intro h3 hx))
  have HA := Lib.hid ha
  have t1 : (((m : Int) - (a : Int)) == 1) = true := by rw [beq_iff_eq]; omega
  have hl : xs.length = n := h.len
  have hxa := hx.at_ (i := a) (by omega)
  have HX := Lib.hid (fun (k : Nat) (hk : k < n) => hx.at_ (i := k) (by omega))
  have HL := Lib.hid hl
  clear K h2 h3 hx ha hl
  unfold cmpV
  have H0 := Lib.hid (FdA.start (f := f) (xs := xs) (a := a) (m := m) (b := b) (by omega))
  have ham : a < m := by have := HA.out; omega
  go_enter Tryz.func100, Tryz.ntmps100
  go_wp2_with fail
  go_loopg [10, 11] (b - m) (fun gk v10 v11 wr => ∃ i j : Nat, m ≤ i ∧ i ≤ j ∧ j ≤ b ∧ gk = j - i ∧ v10 = .int .i64 (i : Int) ∧ v11 = .int .i64 (j : Int) ∧ Dt W wr g n c xs ∧ Hid (FdA f xs a m b i j))
  case atStart => exact ⟨m, b, by omega, by omega, by omega, rfl, rfl, rfl, h, H0⟩
  case round =>
    clear h H0
    obtain ⟨i, j, i1, i2, i3, hgk, rfl, rfl, h, HF⟩ := hrel
    have HG := Lib.hid hgk
    clear hgk
    by_cases hij : i < j
    · have hij' : (i : Int) < (j : Int) := by omega
      obtain ⟨s, hs⟩ : ∃ s, i + j = s := ⟨_, rfl⟩
      obtain ⟨q, hq⟩ : ∃ q, s / 2 = q := ⟨_, rfl⟩
      have es : (i : Int) + (j : Int) = (s : Int) := by omega
      have eq : (s : Int) / 2 = (q : Int) := by omega
      have hq1 : i ≤ q ∧ q < j := by omega
      have hqn : q < n := by omega
      have hs2 : s ≤ 2000000 := by omega
      have ca := h.cell a (by omega)
      have cq := h.cell q hqn
      have hxq := HX.out q hqn
      clear hs hq
      have HC := Lib.hid (fun k => show Calls Tryz.prog 89 #[.int .i64 (nthI xs q), .int .i64 (nthI xs a), .pointer (some ⟨kb, 0, none⟩)] (wr.drewN k) (fun e w' => e = .returned (.int .i64 (cmpI (f (nthI xs q)) (f (nthI xs a)))) ∧ ∃ q, w' = (wr.drewN k).drewN q) from
        HK.out (wr.drewN k) (below_drewN' h.bel k) _ _ hxq.1 hxq.2 hxa.1 hxa.2)
      have HR := Lib.hid (cmpI_neg (a := f (nthI xs q)) (b := f (nthI xs a)))
      have HF2 := Lib.hid (fun hl => HF.out.less HS.out.1 hq1.1 hq1.2 hl)
      have HF3 := Lib.hid (fun hl => HF.out.more HS.out.1 hq1.1 hq1.2 hl)
      generalize cmpI (f (nthI xs q)) (f (nthI xs a)) = r at *
      generalize nthI xs q = x at *
      generalize nthI xs a = y at *
      by_cases hr : r < 0
      · have HT := Lib.hid (HF2.out (HR.out.1 hr))
        clear HF HF2 HF3
        go_wp2_with fail
        go_quiet ((go_at_call 89; exact Calls.quiet_of (HC.out _)))
        go_wp2_with fail
        go_roundg (j - (q + 1))
        case measure => have := HG.out; omega
        case rel => exact ⟨q + 1, j, by omega, by omega, by omega, rfl, by go_num, rfl, h.drewN _, HT⟩
      · have HT := Lib.hid (HF3.out (fun e => hr (HR.out.2 e)))
        clear HF HF2 HF3
        go_wp2_with fail
        go_quiet ((go_at_call 89; exact Calls.quiet_of (HC.out _)))
        go_wp2_with fail
        go_roundg (q - i)
        case measure => have := HG.out; omega
        case rel => exact ⟨i, q, by omega, by omega, by omega, rfl, rfl, rfl, h.drewN _, HT⟩
    · obtain rfl : i = j := by omega
      have hij' : ¬ (i : Int) < (i : Int) := by omega
      have hF := HF.out
      have H1 := Lib.hid (And.intro (hF.ins HA.out HS.out.1 HS.out.2.1) (RA.refl xs a b))
      clear HF hF HG hxa
      have ei : (i : Int) - 1 = ((i - 1 : Nat) : Int) := by omega
      go_wp2_with fail
      go_loopg [13] (i - 1 - a) (fun gk v13 wr => ∃ (k : Nat) (zs : List Int), a ≤ k ∧ k ≤ i - 1 ∧ gk = i - 1 - k ∧ v13 = .int .i64 (k : Int) ∧ Dt W wr g n c zs ∧ Hid (InsR f zs a k i b (nthI xs a) ∧ RA xs zs a b))
      case atStart => exact ⟨a, xs, by omega, by omega, rfl, rfl, h, H1⟩
      case round =>
        clear h H1
        obtain ⟨k, zs, hk1, hk2, hgk, rfl, h, HZ⟩ := hrel
        have HG := Lib.hid hgk
        clear hgk
        by_cases hki : k < i - 1
        · have hki' : (k : Int) < ((i - 1 : Nat) : Int) := by omega
          obtain ⟨k2, hk⟩ : ∃ k2, k + 1 = k2 := ⟨_, rfl⟩
          have ek : (k : Int) + 1 = (k2 : Int) := by omega
          have ckn : k < n := by omega
          have ckn2 : k2 < n := by omega
          have c1 := h.cell k ckn
          have c2 := h.cell k2 ckn2
          have f1 := h.free k
          have f2 := h.free k2
          have HW := Lib.hid (show Dt W _ g n c _ from (h.swap ckn ckn2).drew)
          have HK2 := Lib.hid hk
          clear hk
          obtain ⟨x, hx⟩ : ∃ x, nthI zs k = x := ⟨_, rfl⟩
          obtain ⟨y, hy⟩ : ∃ y, nthI zs k2 = y := ⟨_, rfl⟩
          rw [hx] at c1 HW
          rw [hy] at c2 HW
          clear hx hy h
          generalize hw0 : wr = w0 at *
          go_wp2_with fail
          go_region
          have h2 := HW.out
          generalize ((w0.setCell ⟨g, k, none⟩ (.int .i64 y)).setCell ⟨g, k2, none⟩ (.int .i64 x)).drew = w2 at *
          clear c1 c2 f1 f2 HW hw0
          have HZ2 : Hid (InsR f (swapI zs k k2) a k2 i b (nthI xs a) ∧ RA xs (swapI zs k k2) a b) := Lib.hid (by
            obtain ⟨z1, z2⟩ := HZ.out
            have hzl : zs.length = n := by rw [z2.len]; exact HL.out
            obtain rfl := HK2.out
            exact ⟨z1.step hk1 (by omega) (by omega) (by omega), z2.trans (RA.swap hk1 (by omega) (by omega) (by omega) (by omega))⟩)
          clear HZ
          have hk3 := HK2.out
          go_wp2_with fail
          go_roundg (i - 1 - k2)
          case measure => have := HG.out; omega
          case rel => exact ⟨k2, swapI zs k k2, by omega, by omega, rfl, by go_num, h2, HZ2⟩
        · obtain rfl : k = i - 1 := by omega
          have hki' : ¬ ((i - 1 : Nat) : Int) < ((i - 1 : Nat) : Int) := by omega
          go_wp2_with fail
          ((try simp only [Exit.inBlock, Exit.then]); refine bodyPost_ret (results_none rfl _ _ _) rfl ?_)
          exact ⟨rfl, zs, h, HZ.out.2, HZ.out.1.done (by omega)⟩

/-- One number behind a stretch in order: the search has come to i and j. -/
structure FdB (f : Int → Int) (xs : List Int) (a m i j : Nat) : Prop where
  i1 : a ≤ i
  i2 : i ≤ j
  i3 : j ≤ m
  lo : ∀ k, a ≤ k → k < i → ¬ f (nthI xs m) < f (nthI xs k)
  up : ∀ k, j ≤ k → k < m → f (nthI xs m) < f (nthI xs k)
section
variable {f : Int → Int} {xs : List Int} {a m i j h : Nat}
theorem FdB.start (hm : a ≤ m) : FdB f xs a m a m := ⟨Nat.le_refl _, hm, Nat.le_refl _, fun k h1 h2 => by omega, fun k h1 h2 => by omega⟩
theorem FdB.less (F : FdB f xs a m i j) (hg : SG f xs a m) (h1 : i ≤ h) (h2 : h < j) (hl : ¬ f (nthI xs m) < f (nthI xs h)) : FdB f xs a m (h + 1) j :=
  ⟨by have := F.i1; omega, by omega, F.i3, fun k k1 k2 => by have := hg.le (i := k) (j := h) k1 (by omega) (by have := F.i3; omega); omega, F.up⟩
theorem FdB.more (F : FdB f xs a m i j) (hg : SG f xs a m) (h1 : i ≤ h) (h2 : h < j) (hl : f (nthI xs m) < f (nthI xs h)) : FdB f xs a m i h :=
  ⟨F.i1, h1, by have := F.i3; omega, F.lo, fun k k1 k2 => by have := hg.le (i := h) (j := k) (by have := F.i1; omega) k1 k2; omega⟩
end

set_option maxRecDepth 100000 in
set_option maxHeartbeats 4000000 in
theorem symB_is (W : World) (g n c a m b kb : Nat) (f : Int → Int) (N : Int) (xs : List Int) (w : World) (K : CmpK W kb f N) (h : Dt W w g n c xs) (hn : n ≤ 1000000) (ha : a + 1 < m) (hm : b = m + 1) (hb : b ≤ n) (hx : InN N xs)
    (h2 : SG f xs a m) (h3 : SP xs a m b) :
    Calls Tryz.prog 100 #[.slice (some ⟨g, 0, none⟩) n c, .int .i64 (a : Int), .int .i64 (m : Int), .int .i64 (b : Int), cmpV kb] w fun e w' => SoRes W w' e g n c f xs a b := by
  have HK := Lib.hid K
  have HS := Lib.hid (And.intro h2 (And.intro h3 hx))
  have HB := Lib.hid hm
  have t1 : (((m : Int) - (a : Int)) == 1) = false := by rw [beq_eq_false_iff_ne]; omega
  have t2 : (((b : Int) - (m : Int)) == 1) = true := by rw [beq_iff_eq]; omega
  have hl : xs.length = n := h.len
  have hmn : m < n := by omega
  have hxm := hx.at_ (i := m) (by omega)
  have HX := Lib.hid (fun (k : Nat) (hk : k < n) => hx.at_ (i := k) (by omega))
  have HL := Lib.hid hl
  clear K h2 h3 hx hm hl
  unfold cmpV
  have H0 := Lib.hid (FdB.start (f := f) (xs := xs) (a := a) (m := m) (by omega))
  go_enter Tryz.func100, Tryz.ntmps100
  go_wp2_with fail
  go_loopg [14, 15] (m - a) (fun gk v10 v11 wr => ∃ i j : Nat, a ≤ i ∧ i ≤ j ∧ j ≤ m ∧ gk = j - i ∧ v10 = .int .i64 (i : Int) ∧ v11 = .int .i64 (j : Int) ∧ Dt W wr g n c xs ∧ Hid (FdB f xs a m i j))
  case atStart => exact ⟨a, m, by omega, by omega, by omega, rfl, rfl, rfl, h, H0⟩
  case round =>
    clear h H0
    obtain ⟨i, j, i1, i2, i3, hgk, rfl, rfl, h, HF⟩ := hrel
    have HG := Lib.hid hgk
    clear hgk
    by_cases hij : i < j
    · have hij' : (i : Int) < (j : Int) := by omega
      obtain ⟨s, hs⟩ : ∃ s, i + j = s := ⟨_, rfl⟩
      obtain ⟨q, hq⟩ : ∃ q, s / 2 = q := ⟨_, rfl⟩
      have es : (i : Int) + (j : Int) = (s : Int) := by omega
      have eq : (s : Int) / 2 = (q : Int) := by omega
      have hq1 : i ≤ q ∧ q < j := by omega
      have hqn : q < n := by omega
      have hs2 : s ≤ 2000000 := by omega
      have ca := h.cell m hmn
      have cq := h.cell q hqn
      have hxq := HX.out q hqn
      clear hs hq
      have HC := Lib.hid (fun k => show Calls Tryz.prog 89 #[.int .i64 (nthI xs m), .int .i64 (nthI xs q), .pointer (some ⟨kb, 0, none⟩)] (wr.drewN k) (fun e w' => e = .returned (.int .i64 (cmpI (f (nthI xs m)) (f (nthI xs q)))) ∧ ∃ q, w' = (wr.drewN k).drewN q) from
        HK.out (wr.drewN k) (below_drewN' h.bel k) _ _ hxm.1 hxm.2 hxq.1 hxq.2)
      have HR := Lib.hid (cmpI_neg (a := f (nthI xs m)) (b := f (nthI xs q)))
      have HF2 := Lib.hid (fun hl => HF.out.less HS.out.1 hq1.1 hq1.2 hl)
      have HF3 := Lib.hid (fun hl => HF.out.more HS.out.1 hq1.1 hq1.2 hl)
      generalize cmpI (f (nthI xs m)) (f (nthI xs q)) = r at *
      generalize nthI xs q = x at *
      generalize nthI xs m = y at *
      by_cases hr : r < 0
      · have HT := Lib.hid (HF3.out (HR.out.1 hr))
        have hd : decide (r < 0) = true := decide_eq_true hr
        clear HF HF2 HF3
        go_wp2_with fail
        go_quiet ((go_at_call 89; exact Calls.quiet_of (HC.out _)))
        go_wp2_with fail
        go_roundg (q - i)
        case measure => have := HG.out; omega
        case rel => exact ⟨i, q, by omega, by omega, by omega, rfl, rfl, rfl, h.drewN _, HT⟩
      · have HT := Lib.hid (HF2.out (fun e => hr (HR.out.2 e)))
        have hd : decide (r < 0) = false := decide_eq_false hr
        clear hr
        clear HF HF2 HF3
        go_wp2_with fail
        go_quiet ((go_at_call 89; exact Calls.quiet_of (HC.out _)))
        go_wp2_with fail
        go_roundg (j - (q + 1))
        case measure => have := HG.out; omega
        case rel => exact ⟨q + 1, j, by omega, by omega, by omega, rfl, by go_num, rfl, h.drewN _, HT⟩
    · obtain rfl : i = j := by omega
      have hij' : ¬ (i : Int) < (i : Int) := by omega
      have H1 : Hid (InsAt f xs a m m (nthI xs m) ∧ RA xs xs a b ∧ Keep xs xs m) := Lib.hid (And.intro (InsAt.start HS.out.1) (And.intro (RA.refl xs a b) (fun _ _ => rfl)))
      clear HG hxm
      go_wp2_with fail
      go_loopg [17] (m - i) (fun gk v13 wr => ∃ (k : Nat) (zs : List Int), i ≤ k ∧ k ≤ m ∧ gk = k - i ∧ v13 = .int .i64 (k : Int) ∧ Dt W wr g n c zs ∧ Hid (InsAt f zs a k m (nthI xs m) ∧ RA xs zs a b ∧ Keep xs zs k))
      case atStart => exact ⟨m, xs, by omega, by omega, rfl, rfl, h, H1⟩
      case round =>
        clear h H1
        obtain ⟨k, zs, hk1, hk2, hgk, rfl, h, HZ⟩ := hrel
        have HG := Lib.hid hgk
        clear hgk
        by_cases hki : i < k
        · have hki' : (k : Int) > (i : Int) := by omega
          obtain ⟨k2, hk⟩ : ∃ k2, k = k2 + 1 := ⟨k - 1, by omega⟩
          have ek : (k : Int) - 1 = (k2 : Int) := by omega
          have ckn : k < n := by omega
          have ckn2 : k2 < n := by omega
          have c1 := h.cell k ckn
          have c2 := h.cell k2 ckn2
          have f1 := h.free k
          have f2 := h.free k2
          have HW := Lib.hid (show Dt W _ g n c _ from (h.swap ckn ckn2).drew)
          have HK2 := Lib.hid hk
          clear hk
          obtain ⟨x, hx⟩ : ∃ x, nthI zs k = x := ⟨_, rfl⟩
          obtain ⟨y, hy⟩ : ∃ y, nthI zs k2 = y := ⟨_, rfl⟩
          rw [hx] at c1 HW
          rw [hy] at c2 HW
          clear hx hy h
          generalize hw0 : wr = w0 at *
          go_wp2_with fail
          go_region
          have h2 := HW.out
          generalize ((w0.setCell ⟨g, k, none⟩ (.int .i64 y)).setCell ⟨g, k2, none⟩ (.int .i64 x)).drew = w2 at *
          clear c1 c2 f1 f2 HW hw0
          have HZ2 : Hid (InsAt f (swapI zs k k2) a k2 m (nthI xs m) ∧ RA xs (swapI zs k k2) a b ∧ Keep xs (swapI zs k k2) k2) := Lib.hid (by
            obtain ⟨z1, z2, z3⟩ := HZ.out
            have hzl : zs.length = n := by rw [z2.len]; exact HL.out
            have hbm := HB.out
            obtain rfl := HK2.out
            refine ⟨z1.step (by omega) (by omega) (by omega) (.inl ?_), z2.trans (RA.swap (by omega) (by omega) (by omega) (by omega) (by omega)), fun q hq => ?_⟩
            · rw [z3 k2 (by omega)]; exact HF.out.up k2 (by omega) (by omega)
            · rw [swapI_get _ _ _ _ (by omega) (by omega), if_neg (by omega), if_neg (by omega)]; exact z3 q (by omega))
          clear HZ
          have hk3 := HK2.out
          go_wp2_with fail
          go_roundg (k2 - i)
          case measure => have := HG.out; omega
          case rel => exact ⟨k2, swapI zs k k2, by omega, by omega, rfl, by go_num, h2, HZ2⟩
        · obtain rfl : k = i := by omega
          have hki' : ¬ (k : Int) > (k : Int) := by omega
          go_wp2_with fail
          ((try simp only [Exit.inBlock, Exit.then]); refine bodyPost_ret (results_none rfl _ _ _) rfl ?_)
          obtain ⟨z1, z2, z3⟩ := HZ.out
          have hbm := HB.out
          refine ⟨rfl, zs, h, z2, ?_⟩
          rw [hbm]
          refine z1.done fun hak => ?_
          have e1 := HF.out.lo (k - 1) (by omega) (by omega)
          have e2 := HS.out.2.1 (k - 1) m (by omega) (by omega) (Nat.le_refl _) (by omega)
          rw [z3 (k - 1) (by omega)]
          unfold LX; omega
end Go.Proofs.YtfcefhaaphieeaaGreat
