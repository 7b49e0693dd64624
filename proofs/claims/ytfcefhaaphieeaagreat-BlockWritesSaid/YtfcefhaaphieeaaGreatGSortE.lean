/-
  Walks: slices.stableCmpFunc, SortStableFunc, of numbers.
-/
import Derived.Test.YtfcefhaaphieeaaGreatGSortD
namespace Go.Proofs.YtfcefhaaphieeaaGreat
open Go.RowKit

set_option maxRecDepth 100000 in
set_option maxHeartbeats 4000000 in
theorem ins_zero (v v' : Value) (a : Nat) (w : World) (ha : a ≤ 1000000) :
    Calls Tryz.prog 99 #[v, .int .i64 (a : Int), .int .i64 (a : Int), v'] w fun e w' => e = .returned (.tuple #[]) ∧ w' = w := by
  have hl : ¬ ((a : Int) + 1 < (a : Int)) := by omega
  go_enter Tryz.func99, Tryz.ntmps99
  go_wp2_with fail
  go_loopg [8] 0 (fun gk v8 wr => v8 = .int .i64 ((a : Int) + 1) ∧ wr = w)
  case atStart => exact ⟨rfl, rfl⟩
  case round =>
    obtain ⟨rfl, rfl⟩ := hrel
    go_wp2_with fail
    go_end0
    exact ⟨rfl, rfl⟩

/-- Sorted: the same numbers, in order. -/
def StRes (W w' : World) (e : Ending) (g n c : Nat) (f : Int → Int) (xs : List Int) : Prop := e = .returned (.tuple #[]) ∧ ∃ ys, Dt W w' g n c ys ∧ List.Perm ys xs ∧ Asc f ys

theorem double_at {a B q : Nat} (h : a = 2 * B * q) : B * (2 * q) = a := by rw [h, ← Nat.mul_assoc, Nat.mul_comm B 2]

set_option maxRecDepth 100000 in
set_option maxHeartbeats 8000000 in
theorem stable_is (W : World) (g n c kb : Nat) (f : Int → Int) (N : Int) (xs : List Int) (w : World) (K : CmpK W kb f N) (h : Dt W w g n c xs) (hn : n ≤ 1000000) (hx : InN N xs)
    (hs : ∀ i j, i < j → j < n → nthI xs i < nthI xs j) :
    Calls Tryz.prog 97 #[.slice (some ⟨g, 0, none⟩) n c, .int .i64 (n : Int), cmpV kb] w fun e w' => StRes W w' e g n c f xs := by
  have HI := Lib.hid (fun (ys : List Int) (wx : World) (a b : Nat) (h : Dt W wx g n c ys) (hab : a ≤ b) (hb : b ≤ n) (hy : InN N ys) hs => ins_is W g n c a b kb f N ys wx K h hn hab hb hy hs)
  have HY := Lib.hid (fun d => sym_is W g n c kb f N K hn d)
  have H0 : Hid (MX f xs n 0 20 1 ∧ RA xs xs 0 n ∧ InN N xs) := Lib.hid ⟨MX.first hs, RA.refl _ _ _, hx⟩
  clear K hs hx
  unfold SymOk at HY
  unfold cmpV at HI HY ⊢
  go_enter Tryz.func97, Tryz.ntmps97
  go_wp2_with fail
  go_loopg [7, 8] n (fun gk v7 v8 wr => ∃ (q : Nat) (ys : List Int), 20 * q ≤ n ∧ gk = n - 20 * q ∧ v7 = .int .i64 ((20 * q : Nat) : Int) ∧ v8 = .int .i64 ((20 * q + 20 : Nat) : Int) ∧ Dt W wr g n c ys ∧ Hid (MX f ys n (20 * q) 20 1 ∧ RA xs ys 0 n ∧ InN N ys))
  case atStart => exact ⟨0, xs, by omega, by omega, by go_num, by go_num, h, H0⟩
  case round =>
    clear h H0
    obtain ⟨q, ys, hq, hgk, rfl, rfl, h, HM⟩ := hrel
    have HG := Lib.hid hgk
    clear hgk
    obtain ⟨a, ha⟩ : ∃ a, 20 * q = a := ⟨_, rfl⟩
    rw [ha] at hq HM HG ⊢
    have HA := Lib.hid ha
    clear ha
    by_cases hb : a + 20 ≤ n
    · have hb' : ((a + 20 : Nat) : Int) ≤ (n : Int) := by omega
      have HC := Lib.hid (HI.out ys wr a (a + 20) h (by omega) hb HM.out.2.2 (fun i j h1 h2 h3 => HM.out.1.s2 i j h1 h2 (by omega) (by rw [Nat.div_one, Nat.div_one]; exact h2)))
      obtain ⟨b, hbb⟩ : ∃ b, a + 20 = b := ⟨_, rfl⟩
      rw [hbb] at HC hb' hb ⊢
      obtain ⟨b2, hb2⟩ : ∃ b2, b + 20 = b2 := ⟨_, rfl⟩
      have e20 : (b : Int) + 20 = (b2 : Int) := by omega
      have hb3 : b2 ≤ 2000000 := by omega
      have HB := Lib.hid hbb
      clear hbb
      go_wp2_with (go_at_call 99; refine (HC.out).mono ?_; rintro _ w1 ⟨rfl, zs, hz, hra, hsg⟩)
      go_roundg (n - b)
      case measure => have := HG.out; have := HB.out; omega
      case rel =>
        have e1 := HA.out
        have e2 := HB.out
        refine ⟨q + 1, zs, by omega, by omega, by go_num, by go_num, hz, Lib.hid ?_⟩
        obtain ⟨m1, m2, m3⟩ := HM.out
        rw [← e2] at hra hsg
        have hmx := m1.step (q := q) (c := 20) (by omega) (by omega) e1.symm (by omega) (by omega) hra hsg
        rw [show 20 * (q + 1) = a + 20 by omega]
        exact ⟨hmx, m2.trans (hra.wide (by omega) (by omega)), m3.ra hra⟩
    · have hb' : ¬ ((a + 20 : Nat) : Int) ≤ (n : Int) := by omega
      have HC := Lib.hid (HI.out ys wr a n h hq (Nat.le_refl _) HM.out.2.2 (fun i j h1 h2 h3 => HM.out.1.s2 i j h1 h2 h3 (by rw [Nat.div_one, Nat.div_one]; exact h2)))
      go_wp2_with (go_at_call 99; refine (HC.out).mono ?_; rintro _ w1 ⟨rfl, zs, hz, hra, hsg⟩)
      have H1 : Hid (BL f zs n 20 ∧ RA xs zs 0 n ∧ InN N zs) := Lib.hid (by
        obtain ⟨m1, m2, m3⟩ := HM.out
        exact ⟨m1.last (q := q) HA.out.symm (by omega) hra hsg, m2.trans (hra.wide (by omega) (Nat.le_refl _)), m3.ra hra⟩)
      clear HM HG HA hra hsg h hb' hb HC HI
      go_loopg [6] (n - 20) (fun gk v6 wr => ∃ (B : Nat) (ys : List Int), 0 < B ∧ B ≤ 2000000 ∧ gk = n - B ∧ v6 = .int .i64 (B : Int) ∧ Dt W wr g n c ys ∧ Hid (BL f ys n B ∧ RA xs ys 0 n ∧ InN N ys))
      case atStart => exact ⟨20, zs, by omega, by omega, rfl, by go_num, hz, H1⟩
      case round =>
        clear hz H1
        obtain ⟨B, ys, hB0, hB1, hgk, rfl, h, HM⟩ := hrel
        have HG := Lib.hid hgk
        clear hgk
        by_cases hBn : B < n
        · have hBn' : (B : Int) < (n : Int) := by omega
          have H2 : Hid (MX f ys n 0 (2 * B) B ∧ RA xs ys 0 n ∧ InN N ys) := Lib.hid ⟨MX.of HM.out.1, HM.out.2⟩
          obtain ⟨D, hD⟩ : ∃ D, 2 * B = D := ⟨_, rfl⟩
          have eB : (2 : Int) * (B : Int) = (D : Int) := by omega
          have hDl : D ≤ 2000000 ∧ 0 < D := by omega
          rw [hD] at H2
          have HD := Lib.hid hD
          clear HM hD
          go_wp2_with fail
          go_loopg [7, 8] n (fun gk v7 v8 wr => ∃ (q a : Nat) (ys : List Int), a ≤ n ∧ gk = n - a ∧ v7 = .int .i64 (a : Int) ∧ v8 = .int .i64 ((a + D : Nat) : Int) ∧ Dt W wr g n c ys ∧ Hid (a = D * q) ∧ Hid (MX f ys n a D B ∧ RA xs ys 0 n ∧ InN N ys))
          case atStart => exact ⟨0, 0, ys, by omega, by omega, by go_num, by go_num, h, Lib.hid (by omega), H2⟩
          case round =>
            clear h H2
            obtain ⟨q, a, ys, ha, hgk, rfl, rfl, h, HA, HM⟩ := hrel
            have HG2 := Lib.hid hgk
            clear hgk
            obtain ⟨b, hb⟩ : ∃ b, a + D = b := ⟨_, rfl⟩
            obtain ⟨m, hm⟩ : ∃ m, a + B = m := ⟨_, rfl⟩
            have em : (a : Int) + (B : Int) = (m : Int) := by omega
            rw [hb]
            have HB := Lib.hid (And.intro hb hm)
            have hr : a < m ∧ m < b ∧ b ≤ 4000000 := by have := HD.out; omega
            clear hb hm
            by_cases hbn : b ≤ n
            · have hbn' : (b : Int) ≤ (n : Int) := by omega
              obtain ⟨b2, hb2⟩ : ∃ b2, b + D = b2 := ⟨_, rfl⟩
              have eb : (b : Int) + (D : Int) = (b2 : Int) := by omega
              have hb3 : b2 ≤ 6000000 := by omega
              have HC := Lib.hid (HY.out (b - a + 1) ys wr a m b (by omega) h HM.out.2.2 hr.1 hr.2.1 hbn
                (by have := HM.out.1.block (double_at (by rw [HD.out]; exact HA.out)) (by have := HB.out; have := HD.out; omega); rw [HB.out.2] at this; exact this)
                (by have := HM.out.1.second (double_at (by rw [HD.out]; exact HA.out)) hbn (by have := HB.out; have := HD.out; omega); rw [HB.out.2] at this; exact this)
                (by have := HM.out.1.apart hB0 (double_at (by rw [HD.out]; exact HA.out)) hbn; rw [HB.out.2] at this; exact this))
              go_wp2_with (go_at_call 100; refine (HC.out).mono ?_; rintro _ w2 ⟨rfl, zs, hz, hra, hsg⟩)
              go_roundg (n - b)
              case measure => have := HG2.out; omega
              case rel =>
                refine ⟨q + 1, b, zs, by omega, by omega, by go_num, by go_num, hz, Lib.hid (by rw [Nat.mul_add, ← HA.out, ← HB.out.1]; omega), Lib.hid ?_⟩
                obtain ⟨m1, m2, m3⟩ := HM.out
                have e2 := HB.out.1
                rw [← e2] at hra hsg
                have hmx := m1.step (q := q) (c := 2) (by omega) hB0 HA.out (by have := HD.out; omega) (by omega) hra hsg
                rw [← e2]
                exact ⟨hmx, m2.trans (hra.wide (by omega) (by omega)), m3.ra hra⟩
            · have hbn' : ¬ (b : Int) ≤ (n : Int) := by omega
              have eB2 : (B : Int) * 2 = (D : Int) := by have := HD.out; omega
              by_cases hmn : m < n
              · have hmn' : (m : Int) < (n : Int) := by omega
                have HC := Lib.hid (HY.out (n - a + 1) ys wr a m n (by omega) h HM.out.2.2 hr.1 hmn (Nat.le_refl _)
                  (by have := HM.out.1.block (double_at (by rw [HD.out]; exact HA.out)) (by have := HB.out; have := HD.out; omega); rw [HB.out.2] at this; exact this)
                  (by have := HM.out.1.second (e := n) (double_at (by rw [HD.out]; exact HA.out)) (Nat.le_refl _) (by have := HB.out; have := HD.out; omega); rw [HB.out.2] at this; exact this)
                  (by have := HM.out.1.apart (e := n) hB0 (double_at (by rw [HD.out]; exact HA.out)) (Nat.le_refl _); rw [HB.out.2] at this; exact this))
                go_wp2_with (go_at_call 100; refine (HC.out).mono ?_; rintro _ w2 ⟨rfl, zs, hz, hra, hsg⟩)
                go_roundg (n - D)
                case measure => have := HG.out; have := HD.out; omega
                case rel =>
                  refine ⟨D, zs, by omega, by omega, rfl, by go_num, hz, Lib.hid ?_⟩
                  obtain ⟨m1, m2, m3⟩ := HM.out
                  have e2 := HB.out.1
                  exact ⟨m1.last (q := q) HA.out (by omega) hra hsg, m2.trans (hra.wide (by omega) (Nat.le_refl _)), m3.ra hra⟩
              · have hmn' : ¬ (m : Int) < (n : Int) := by omega
                go_wp2_with fail
                go_roundg (n - D)
                case measure => have := HG.out; have := HD.out; omega
                case rel =>
                  refine ⟨D, ys, by omega, by omega, rfl, by go_num, h, Lib.hid ?_⟩
                  obtain ⟨m1, m2, m3⟩ := HM.out
                  have e2 := HB.out
                  exact ⟨m1.last (q := q) HA.out (by omega) (RA.refl _ _ _) (m1.rest (double_at (by rw [HD.out]; exact HA.out)) (by omega)), m2, m3⟩
        · have hBn' : ¬ (B : Int) < (n : Int) := by omega
          go_wp2_with fail
          go_end0
          obtain ⟨m1, m2, m3⟩ := HM.out
          refine ⟨rfl, ys, h, m2.perm, Asc.of_SG ?_⟩
          rw [h.len]
          exact m1.all (by omega)

set_option maxRecDepth 100000 in
set_option maxHeartbeats 4000000 in
theorem stable_zero (v v' : Value) (w : World) :
    Calls Tryz.prog 97 #[v, .int .i64 0, v'] w fun e w' => e = .returned (.tuple #[]) ∧ w' = w := by
  have HI := Lib.hid (fun wx => ins_zero v v' 0 wx (by omega))
  go_enter Tryz.func97, Tryz.ntmps97
  go_wp2_with fail
  go_loopg [7, 8] 0 (fun gk v7 v8 wr => v7 = .int .i64 0 ∧ v8 = .int .i64 20 ∧ wr = w)
  case atStart => exact ⟨rfl, rfl, rfl⟩
  case round =>
    obtain ⟨rfl, rfl, rfl⟩ := hrel
    go_wp2_with (go_at_call 99; refine (HI.out _).mono ?_; rintro _ w1 ⟨rfl, rfl⟩)
    go_loopg [6] 0 (fun gk v6 wr => v6 = .int .i64 20 ∧ wr = w1)
    case atStart => exact ⟨rfl, rfl⟩
    case round =>
      obtain ⟨rfl, rfl⟩ := hrel
      go_wp2_with fail
      go_end0
      exact ⟨rfl, rfl⟩

set_option maxHeartbeats 1000000 in
theorem sort_is (W : World) (g n c kb : Nat) (f : Int → Int) (N : Int) (xs : List Int) (w : World) (K : CmpK W kb f N) (h : Dt W w g n c xs) (hn : n ≤ 1000000) (hx : InN N xs)
    (hs : ∀ i j, i < j → j < n → nthI xs i < nthI xs j) :
    Calls Tryz.prog 88 #[.slice (some ⟨g, 0, none⟩) n c, cmpV kb] w fun e w' => StRes W w' e g n c f xs := by
  have HS := Lib.hid (stable_is W g n c kb f N xs w K h hn hx hs)
  unfold cmpV at HS ⊢
  go_enter Tryz.func88, Tryz.ntmps88
  go_wp2_with (go_at_call 97; refine (HS.out).mono ?_; rintro _ w1 ⟨rfl, ys, h1, h2, h3⟩)
  go_end0
  exact ⟨rfl, ys, h1, h2, h3⟩
set_option maxHeartbeats 1000000 in
theorem sort_zero (A : Option Addr) (c : Nat) (v' : Value) (w : World) :
    Calls Tryz.prog 88 #[.slice A 0 c, v'] w fun e w' => e = .returned (.tuple #[]) ∧ w' = w := by
  have HS := Lib.hid (stable_zero (.slice A 0 c) v' w)
  go_enter Tryz.func88, Tryz.ntmps88
  go_wp2_with (go_at_call 97; refine (HS.out).mono ?_; rintro _ w1 ⟨rfl, rfl⟩)
  go_end0
  exact ⟨rfl, rfl⟩
end Go.Proofs.YtfcefhaaphieeaaGreat
