/-
  The law CanonFull, walked.
-/
import Derived.Test.YtnggkenlgpcidaaCanonE
namespace Go.Proofs.Ytnggkenlgpcidaa
open Go.RowKit

theorem begins_15 (a n b : Nat) (t : Bool) (w : World) (ha : a < 4294967296) (hb : b < 4294967296) (hn : n ≤ 255) (h : begB (a, n) (b, 15) = t) :
    Calls Try.prog 16 #[.agg #[.int .u32 (a : Int), .int .u8 (n : Int)], .agg #[.int .u32 (b : Int), .int .u8 15]] w fun e w' => e = .returned (.bool t) ∧ Below w.heap.size w w' := by
  subst h
  exact begins_any a n b 15 w ha hb hn (Nat.le_refl _)
theorem and_15 (row : Nat) (h : row < 65536) : bits .and .u32 (row : Int) 32767 = ((row % 32768 : Nat) : Int) := by
  rw [show (32767 : Int) = ((32767 : Nat) : Int) from rfl, and_u32 row 32767 (by omega) (by omega)]
  rw [show (32767 : Nat) = 2 ^ 15 - 1 from rfl, Nat.and_two_pow_sub_one_eq_mod]

set_option maxHeartbeats 4000000 in
set_option maxRecDepth 100000 in
theorem law_full (A : Option Addr) (l : List Nat) (c : Nat) (m : Int) (row : Nat) (w : World) (hin : InBs w A l) (h1 : -9223372036854775808 ≤ m) (h2 : m ≤ 9223372036854775807) (h3 : row < 65536) :
    Calls Try.prog 6 #[.slice A l.length c, .int .i64 m, .int .u16 (row : Int)] w fun e w' => e = .returned (.bool true) ∧ Below w.heap.size w w' := by
  obtain ⟨hl, hA, hm⟩ := hin
  unfold maxLen at hm
  by_cases hbig : 1000 < l.length
  · go_enter Try.func6, Try.ntmps6
    go_wp2_with fail
    refine (canon_alive_any _).mono ?_
    rintro e w1 ⟨rfl, hb1⟩
    go_wp2_with fail
    go_ret
    exact ⟨rfl, hb1⟩
  · have HQ := Lib.hid fun w h => codes_any A c l m w h (by omega) h1 h2
    simp only [CodRes] at HQ
    by_cases h0 : canE l m = 0
    · obtain ⟨g1, g2, g3, g4, g5, g6⟩ := canE_ok h0
      have g15 : ∀ x ∈ l, x ≤ 15 := fun x hx => by have := g4 x hx; omega
      have hc : canL l m = codesL l := by unfold canL; rw [if_pos h0]
      rw [hc, h0, codesL_length] at HQ
      have hmask := and_15 row h3
      obtain ⟨R, hR, hRlt⟩ : ∃ R, row % 32768 = R ∧ R < 32768 := ⟨_, rfl, Nat.mod_lt _ (by omega)⟩
      rw [hR] at hmask
      have hone := hits_one g15 R
      have hful : used l < 2 ∨ hits l R l.length = 1 := by
        rcases g6 with g6 | g6 | g6
        · exact .inr (hits_full g15 (by omega))
        · omega
        · omega
      have HF := Lib.hid (And.intro hone hful)
      have HCL := Lib.hid fun i hi => code_le g15 g5 (i := i) hi
      have H15 := Lib.hid (nth_15 g15)
      have hul := used_le l
      clear hc g4 h0 g5 g6 g15 hone hful hR
      go_enter Try.func6, Try.ntmps6
      go_wp2_with fail
      refine (canon_alive_any _).mono ?_
      rintro e w1 ⟨rfl, hb1⟩
      go_wp2_with fail
      refine (HQ.out _ (hl.below hb1)).mono ?_
      rintro e w2 ⟨B, d, rfl, hB⟩
      have b2 := hb1.trans (hB.1.mono hb1.size)
      have hrd := hB.rd
      go_wp2_with fail
      go_loopg [10, 11, 12] l.length (fun gk nv uv v wr => ∃ i : Nat, i ≤ l.length ∧ gk = l.length - i ∧ v = .int .i64 (i : Int) ∧ nv = .int .i64 ((hits l R i : Nat) : Int) ∧ uv = .int .i64 ((used (l.take i) : Nat) : Int) ∧ Below w2.heap.size w2 wr)
      case atStart => exact ⟨0, by omega, by omega, rfl, rfl, rfl, Below.refl _ _⟩
      case round =>
        obtain ⟨i, hi, hk, rfl, rfl, rfl, hbw⟩ := hrel
        have hui := used_le (l.take i)
        have hu2 : (l.take i).length ≤ i := List.length_take_le _ _
        have hhi := hits_le l R i
        by_cases hlt : i < l.length
        · obtain ⟨g, off, rfl, hc1, hc2⟩ := (hrd.below hbw).at_code hlt
          obtain ⟨_, s2⟩ := kraft_step hlt
          have hs := hits_succ l R i
          have hcl := HCL.out i hlt
          have hni := H15.out i
          have e2 : codeAt l i = ((codeAt l i).1, nth l i) := by rw [← code_two]
          by_cases hb : begB (codeAt l i) (R, 15) = true
          · have HB := Lib.hid fun w => begins_15 (codeAt l i).1 (nth l i) R true w (by omega) (by omega) (by omega) (by rw [← e2]; exact hb)
            rw [if_pos hb] at hs
            have HS := Lib.hid hs
            clear hs hb e2
            generalize (codeAt l i).1 = bi at *
            by_cases hz0 : nth l i = 0
            · rw [if_pos hz0] at s2
              have HU := Lib.hid s2
              rw [hz0] at hc2 HB
              clear s2 hz0 hni
              go_wp2_with fail
              refine (HB.out _).mono ?_
              rintro e w4 ⟨rfl, hb4⟩
              go_wp2_with fail
              go_roundg (l.length - (i + 1))
              case measure => omega
              case rel => exact ⟨i + 1, by omega, by omega, by go_num, by rw [HS.out]; go_num, by rw [HU.out]; rfl, hbw.trans (hb4.mono hbw.size)⟩
            · rw [if_neg hz0] at s2
              have HU := Lib.hid s2
              have hpos : 0 < nth l i := by omega
              clear s2
              generalize nth l i = ni at *
              go_wp2_with fail
              refine (HB.out _).mono ?_
              rintro e w4 ⟨rfl, hb4⟩
              go_wp2_with fail
              go_roundg (l.length - (i + 1))
              case measure => omega
              case rel => exact ⟨i + 1, by omega, by omega, by go_num, by rw [HS.out]; go_num, by rw [HU.out]; go_num, hbw.trans (hb4.mono hbw.size)⟩
          · have HB := Lib.hid fun w => begins_15 (codeAt l i).1 (nth l i) R false w (by omega) (by omega) (by omega) (by rw [← e2]; exact Bool.eq_false_iff.2 hb)
            rw [if_neg hb] at hs
            have HS := Lib.hid hs
            clear hs hb e2
            generalize (codeAt l i).1 = bi at *
            by_cases hz0 : nth l i = 0
            · rw [if_pos hz0] at s2
              have HU := Lib.hid s2
              rw [hz0] at hc2 HB
              clear s2 hz0 hni
              go_wp2_with fail
              refine (HB.out _).mono ?_
              rintro e w4 ⟨rfl, hb4⟩
              go_wp2_with fail
              go_roundg (l.length - (i + 1))
              case measure => omega
              case rel => exact ⟨i + 1, by omega, by omega, by go_num, by rw [HS.out]; rfl, by rw [HU.out]; rfl, hbw.trans (hb4.mono hbw.size)⟩
            · rw [if_neg hz0] at s2
              have HU := Lib.hid s2
              have hpos : 0 < nth l i := by omega
              clear s2
              generalize nth l i = ni at *
              go_wp2_with fail
              refine (HB.out _).mono ?_
              rintro e w4 ⟨rfl, hb4⟩
              go_wp2_with fail
              go_roundg (l.length - (i + 1))
              case measure => omega
              case rel => exact ⟨i + 1, by omega, by omega, by go_num, by rw [HS.out]; rfl, by rw [HU.out]; go_num, hbw.trans (hb4.mono hbw.size)⟩
        · obtain rfl : i = l.length := by omega
          rw [List.take_length] at *
          obtain ⟨f1, f2⟩ := HF.out
          have bend := b2.trans (hbw.mono b2.size)
          generalize hits l R l.length = H at *
          generalize used l = U at *
          rcases Nat.lt_or_ge U 2 with hU | hU
          · have d1 : decide ((H : Int) ≤ 1) = true := by simp; omega
            have d2 : decide ((U : Int) < 2) = true := by simp; omega
            go_wp2_with fail
            go_ret
            exact ⟨rfl, bend⟩
          · obtain rfl : H = 1 := by omega
            go_wp2_with fail
            go_ret
            exact ⟨rfl, bend⟩
    · have he : ((canE l m : Int) != 0) = true := by rw [bne_iff_ne]; omega
      have hcn : canL l m = [] := by unfold canL; rw [if_neg h0]
      rw [hcn] at HQ
      generalize canE l m = E at *
      go_enter Try.func6, Try.ntmps6
      go_wp2_with fail
      refine (canon_alive_any _).mono ?_
      rintro e w1 ⟨rfl, hb1⟩
      go_wp2_with fail
      refine (HQ.out _ (hl.below hb1)).mono ?_
      rintro e w2 ⟨B, d, rfl, hB⟩
      have b2 := hb1.trans (hB.1.mono hb1.size)
      go_wp2_with fail
      go_ret
      exact ⟨rfl, b2⟩
end Go.Proofs.Ytnggkenlgpcidaa
