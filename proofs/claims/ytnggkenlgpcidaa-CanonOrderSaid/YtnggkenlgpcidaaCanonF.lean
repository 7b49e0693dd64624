/-
  The law CanonOrder, walked.
-/
import Derived.Test.YtnggkenlgpcidaaCanonE
namespace Go.Proofs.Ytnggkenlgpcidaa
open Go.RowKit

theorem s0_u32 {l : List Nat} (h15 : ∀ x ∈ l, x ≤ 15) (hk : kraft l ≤ 32768) {i : Nat} (hi : i < l.length) (h0 : nth l i ≠ 0) : ((codeAt l i).1 : Int) * 2 ^ (15 - nth l i) % 4294967296 = ((S0 l i : Nat) : Int) := by
  have h1 := S0_top h15 hk hi h0
  have h2 : S0 l i = (codeAt l i).1 * 2 ^ (15 - nth l i) := by unfold S0; rw [code_two]; rfl
  have h3 : ((codeAt l i).1 : Int) * 2 ^ (15 - nth l i) = ((S0 l i : Nat) : Int) := by rw [h2]; simp
  rw [h3]
  omega

set_option maxHeartbeats 4000000 in
set_option maxRecDepth 100000 in
theorem law_order (A : Option Addr) (l : List Nat) (c : Nat) (m i k : Int) (w : World) (hin : InBs w A l) (h1 : -9223372036854775808 ≤ m) (h2 : m ≤ 9223372036854775807) (h3 : -9223372036854775808 ≤ i) (h4 : i ≤ 9223372036854775807) (h5 : -9223372036854775808 ≤ k) (h6 : k ≤ 9223372036854775807) :
    Calls Try.prog 7 #[.slice A l.length c, .int .i64 m, .int .i64 i, .int .i64 k] w fun e w' => e = .returned (.bool true) ∧ Below w.heap.size w w' := by
  obtain ⟨hl, hA, hm⟩ := hin
  unfold maxLen at hm
  by_cases hbig : 1000 < l.length
  · go_enter Try.func7, Try.ntmps7
    go_wp2_with fail
    refine (canon_alive_any _).mono ?_
    rintro e w1 ⟨rfl, hb1⟩
    go_wp2_with fail
    go_ret
    exact ⟨rfl, hb1⟩
  · have HQ := Lib.hid fun w h => codes_any A c l m w h (by omega) h1 h2
    simp only [CodRes] at HQ
    by_cases h0 : canE l m = 0
    · obtain ⟨g1, g2, g3, g4, g5, _⟩ := canE_ok h0
      have g15 : ∀ x ∈ l, x ≤ 15 := fun x hx => by have := g4 x hx; omega
      have hc : canL l m = codesL l := by unfold canL; rw [if_pos h0]
      rw [hc, h0, codesL_length] at HQ
      clear hc g4 h0
      by_cases hout : i < 0 ∨ l.length ≤ i ∨ k < 0 ∨ l.length ≤ k
      · clear g15 g5
        have q : i < 0 ∨ ¬ i < 0 ∧ l.length ≤ i ∨ ¬ i < 0 ∧ ¬ l.length ≤ i ∧ k < 0 ∨ ¬ i < 0 ∧ ¬ l.length ≤ i ∧ ¬ k < 0 ∧ l.length ≤ k := by omega
        rcases q with q | ⟨q1, q2⟩ | ⟨q1, q2, q3⟩ | ⟨q1, q2, q3, q4⟩
        all_goals
          go_enter Try.func7, Try.ntmps7
          go_wp2_with fail
          refine (canon_alive_any _).mono ?_
          rintro e w1 ⟨rfl, hb1⟩
          go_wp2_with fail
          refine (HQ.out _ (hl.below hb1)).mono ?_
          rintro e w2 ⟨B, d, rfl, hB⟩
          have b2 := hb1.trans (hB.1.mono hb1.size)
          go_wp2_with fail
          go_ret
          exact ⟨rfl, b2⟩
      · obtain ⟨i, rfl⟩ := Int.eq_ofNat_of_zero_le (show 0 ≤ i by omega)
        obtain ⟨k, rfl⟩ := Int.eq_ofNat_of_zero_le (show 0 ≤ k by omega)
        have hi : i < l.length := by omega
        have hk : k < l.length := by omega
        have hci := code_le g15 g5 hi
        have hck := code_le g15 g5 hk
        have hni := nth_15 g15 i
        have hnk := nth_15 g15 k
        have HSI := Lib.hid fun h => s0_u32 g15 g5 hi h
        have HSK := Lib.hid fun h => s0_u32 g15 g5 hk h
        have HO := Lib.hid fun a b => order (l := l) g15 hi hk a b
        clear g15 hout g5
        by_cases hni0 : nth l i = 0
        · clear HSI HSK HO
          go_enter Try.func7, Try.ntmps7
          go_wp2_with fail
          refine (canon_alive_any _).mono ?_
          rintro e w1 ⟨rfl, hb1⟩
          go_wp2_with fail
          refine (HQ.out _ (hl.below hb1)).mono ?_
          rintro e w2 ⟨B, d, rfl, hB⟩
          have b2 := hb1.trans (hB.1.mono hb1.size)
          obtain ⟨g, off, rfl, hc1, hc2⟩ := hB.rd.at_code hi
          obtain ⟨g', off2, e', hd1, hd2⟩ := hB.rd.at_code hk
          obtain ⟨rfl, rfl⟩ : g' = g ∧ off2 = off := by injection e' with e'; injection e' with e1 e2; exact ⟨e1.symm, e2.symm⟩
          clear e'
          rw [hni0] at hc2
          clear hni0 hni
          generalize (codeAt l i).1 = bi at *
          generalize (codeAt l k).1 = bk at *
          generalize nth l k = nk at *
          go_wp2_with fail
          go_ret
          exact ⟨rfl, b2⟩
        · by_cases hnk0 : nth l k = 0
          · have e1 : (((nth l i : Nat) : Int) == 0) = false := by rw [beq_eq_false_iff_ne]; omega
            clear HSI HSK HO
            go_enter Try.func7, Try.ntmps7
            go_wp2_with fail
            refine (canon_alive_any _).mono ?_
            rintro e w1 ⟨rfl, hb1⟩
            go_wp2_with fail
            refine (HQ.out _ (hl.below hb1)).mono ?_
            rintro e w2 ⟨B, d, rfl, hB⟩
            have b2 := hb1.trans (hB.1.mono hb1.size)
            obtain ⟨g, off, rfl, hc1, hc2⟩ := hB.rd.at_code hi
            obtain ⟨g', off2, e', hd1, hd2⟩ := hB.rd.at_code hk
            obtain ⟨rfl, rfl⟩ : g' = g ∧ off2 = off := by injection e' with e'; injection e' with e1 e2; exact ⟨e1.symm, e2.symm⟩
            clear e'
            rw [hnk0] at hd2
            clear hnk0 hnk
            generalize (codeAt l i).1 = bi at *
            generalize (codeAt l k).1 = bk at *
            generalize nth l i = ni at *
            go_wp2_with fail
            go_ret
            exact ⟨rfl, b2⟩
          · have e1 : (((nth l i : Nat) : Int) == 0) = false := by rw [beq_eq_false_iff_ne]; omega
            have e2 : (((nth l k : Nat) : Int) == 0) = false := by rw [beq_eq_false_iff_ne]; omega
            have hsi := HSI.out hni0
            have hsk := HSK.out hnk0
            have hor := HO.out hni0 hnk0
            have q : nth l i < nth l k ∧ S0 l i < S0 l k ∨ nth l i = nth l k ∧ i < k ∧ S0 l i < S0 l k ∨ nth l i = nth l k ∧ ¬ i < k ∧ ¬ S0 l i < S0 l k ∨ nth l k < nth l i ∧ ¬ S0 l i < S0 l k := by omega
            clear HSI HSK HO hor
            generalize S0 l i = si at *
            generalize S0 l k = sk at *
            rcases q with ⟨q1, q2⟩ | ⟨q1, q2, q3⟩ | ⟨q1, q2, q3⟩ | ⟨q1, q2⟩
            · have f4 : decide (si < sk) = true := by simp; omega
              go_enter Try.func7, Try.ntmps7
              go_wp2_with fail
              refine (canon_alive_any _).mono ?_
              rintro e w1 ⟨rfl, hb1⟩
              go_wp2_with fail
              refine (HQ.out _ (hl.below hb1)).mono ?_
              rintro e w2 ⟨B, d, rfl, hB⟩
              have b2 := hb1.trans (hB.1.mono hb1.size)
              obtain ⟨g, off, rfl, hc1, hc2⟩ := hB.rd.at_code hi
              obtain ⟨g', off2, e', hd1, hd2⟩ := hB.rd.at_code hk
              obtain ⟨rfl, rfl⟩ : g' = g ∧ off2 = off := by injection e' with e'; injection e' with e1 e2; exact ⟨e1.symm, e2.symm⟩
              clear e'
              generalize (codeAt l i).1 = bi at *
              generalize (codeAt l k).1 = bk at *
              generalize nth l i = ni at *
              generalize nth l k = nk at *
              have f1 : decide (ni < nk) = true := by simp; omega
              go_wp2_with fail
              go_quiet (fail)
              go_wp2_with fail
              go_quiet (fail)
              go_wp2_with fail
              go_ret
              exact ⟨rfl, below_drewN' b2 _⟩
            · have f3 : decide (i < k) = true := by simp; omega
              have f4 : decide (si < sk) = true := by simp; omega
              go_enter Try.func7, Try.ntmps7
              go_wp2_with fail
              refine (canon_alive_any _).mono ?_
              rintro e w1 ⟨rfl, hb1⟩
              go_wp2_with fail
              refine (HQ.out _ (hl.below hb1)).mono ?_
              rintro e w2 ⟨B, d, rfl, hB⟩
              have b2 := hb1.trans (hB.1.mono hb1.size)
              obtain ⟨g, off, rfl, hc1, hc2⟩ := hB.rd.at_code hi
              obtain ⟨g', off2, e', hd1, hd2⟩ := hB.rd.at_code hk
              obtain ⟨rfl, rfl⟩ : g' = g ∧ off2 = off := by injection e' with e'; injection e' with e1 e2; exact ⟨e1.symm, e2.symm⟩
              clear e'
              generalize (codeAt l i).1 = bi at *
              generalize (codeAt l k).1 = bk at *
              generalize nth l i = ni at *
              generalize nth l k = nk at *
              subst q1
              go_wp2_with fail
              go_quiet (fail)
              go_wp2_with fail
              go_quiet (fail)
              go_wp2_with fail
              go_ret
              exact ⟨rfl, below_drewN' b2 _⟩
            · have f3 : decide (i < k) = false := by simp; omega
              have f4 : decide (si < sk) = false := by simp; omega
              go_enter Try.func7, Try.ntmps7
              go_wp2_with fail
              refine (canon_alive_any _).mono ?_
              rintro e w1 ⟨rfl, hb1⟩
              go_wp2_with fail
              refine (HQ.out _ (hl.below hb1)).mono ?_
              rintro e w2 ⟨B, d, rfl, hB⟩
              have b2 := hb1.trans (hB.1.mono hb1.size)
              obtain ⟨g, off, rfl, hc1, hc2⟩ := hB.rd.at_code hi
              obtain ⟨g', off2, e', hd1, hd2⟩ := hB.rd.at_code hk
              obtain ⟨rfl, rfl⟩ : g' = g ∧ off2 = off := by injection e' with e'; injection e' with e1 e2; exact ⟨e1.symm, e2.symm⟩
              clear e'
              generalize (codeAt l i).1 = bi at *
              generalize (codeAt l k).1 = bk at *
              generalize nth l i = ni at *
              generalize nth l k = nk at *
              subst q1
              go_wp2_with fail
              go_quiet (fail)
              go_wp2_with fail
              go_quiet (fail)
              go_wp2_with fail
              go_ret
              exact ⟨rfl, below_drewN' b2 _⟩
            · have f4 : decide (si < sk) = false := by simp; omega
              go_enter Try.func7, Try.ntmps7
              go_wp2_with fail
              refine (canon_alive_any _).mono ?_
              rintro e w1 ⟨rfl, hb1⟩
              go_wp2_with fail
              refine (HQ.out _ (hl.below hb1)).mono ?_
              rintro e w2 ⟨B, d, rfl, hB⟩
              have b2 := hb1.trans (hB.1.mono hb1.size)
              obtain ⟨g, off, rfl, hc1, hc2⟩ := hB.rd.at_code hi
              obtain ⟨g', off2, e', hd1, hd2⟩ := hB.rd.at_code hk
              obtain ⟨rfl, rfl⟩ : g' = g ∧ off2 = off := by injection e' with e'; injection e' with e1 e2; exact ⟨e1.symm, e2.symm⟩
              clear e'
              generalize (codeAt l i).1 = bi at *
              generalize (codeAt l k).1 = bk at *
              generalize nth l i = ni at *
              generalize nth l k = nk at *
              have f1 : decide (ni < nk) = false := by simp; omega
              have f2 : ((ni : Int) == (nk : Int)) = false := by rw [beq_eq_false_iff_ne]; omega
              go_wp2_with fail
              go_quiet (fail)
              go_wp2_with fail
              go_quiet (fail)
              go_wp2_with fail
              go_ret
              exact ⟨rfl, below_drewN' b2 _⟩
    · have hcn : canL l m = [] := by unfold canL; rw [if_neg h0]
      rw [hcn] at HQ
      have he : ((canE l m : Int) != 0) = true := by rw [bne_iff_ne]; omega
      clear hcn
      generalize canE l m = E at *
      go_enter Try.func7, Try.ntmps7
      go_wp2_with fail
      refine (canon_alive_any _).mono ?_
      rintro e w1 ⟨rfl, hb1⟩
      go_wp2_with fail
      refine (HQ.out _ (hl.below hb1)).mono ?_
      rintro e w2 ⟨B, d, rfl, hB⟩
      have b2 := hb1.trans (hB.1.mono hb1.size)
      go_wp2_with fail
      go_ret
      exact ⟨rfl, b2⟩
end Go.Proofs.Ytnggkenlgpcidaa
