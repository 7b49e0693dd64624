/-
  begins; the law CanonApart, walked.
-/
import Derived.Test.YtnggkenlgpcidaaCanonD
import Derived.Test.YtnggkenlgpcidaaCanonP
namespace Go.Proofs.Ytnggkenlgpcidaa
open Go.RowKit

/-- Does a code begin another one: what is answered. -/
def BegRes (w w' : World) (e : Ending) (a b : Nat × Nat) : Prop := e = .returned (.bool (begB a b)) ∧ Below w.heap.size w w'
theorem BegRes.mk' {w w' : World} {e : Ending} {a b : Nat × Nat} {t : Bool} (h : begB a b = t) (he : e = .returned (.bool t)) (hb : Below w.heap.size w w') : BegRes w w' e a b := by
  subst h; exact ⟨he, hb⟩
set_option maxHeartbeats 1000000 in
theorem begins_any (a n b m : Nat) (w : World) (ha : a < 4294967296) (hb : b < 4294967296) (hn : n ≤ 255) (hm : m ≤ 15) :
    Calls Try.prog 16 #[.agg #[.int .u32 (a : Int), .int .u8 (n : Int)], .agg #[.int .u32 (b : Int), .int .u8 (m : Int)]] w fun e w' => BegRes w w' e (a, n) (b, m) := by
  by_cases h0 : n = 0
  · subst h0
    have H := Lib.hid fun w' e => BegRes.mk' (w := w) (w' := w') (e := e) (show begB (a, 0) (b, m) = false by unfold begB; simp)
    go_enter Try.func16, Try.ntmps16
    go_wp2_with fail
    go_ret
    exact H.out _ _ rfl (((Below.refl _ _).alloc (Nat.le_refl _) _).alloc (by simp) _)
  · by_cases h1 : m < n
    · have H := Lib.hid fun w' e => BegRes.mk' (w := w) (w' := w') (e := e) (show begB (a, n) (b, m) = false by unfold begB; rw [decide_eq_false_iff_not]; simp only; omega)
      have h0' : 0 < n := by omega
      go_enter Try.func16, Try.ntmps16
      go_wp2_with fail
      go_ret
      exact H.out _ _ rfl (((Below.refl _ _).alloc (Nat.le_refl _) _).alloc (by simp) _)
    · have h0' : 0 < n := by omega
      have HD := Lib.hid (cast_shr b (m - n))
      have hdl : b / 2 ^ (m - n) ≤ b := shr_le b (m - n)
      have H := Lib.hid fun w' e => BegRes.mk' (w := w) (w' := w') (e := e) (show begB (a, n) (b, m) = ((b : Int) / 2 ^ (m - n) == (a : Int)) by
        rw [HD.out]; unfold begB; rw [Bool.eq_iff_iff, decide_eq_true_iff, beq_iff_eq]
        constructor
        · rintro ⟨_, _, h⟩; simp only at h; omega
        · intro h; exact ⟨h0', by simp only; omega, by simp only; omega⟩)
      go_enter Try.func16, Try.ntmps16
      go_wp2_with fail
      go_ret
      exact H.out _ _ rfl (((Below.refl _ _).alloc (Nat.le_refl _) _).alloc (by simp) _)

theorem u64_pow (n : Nat) (h : n ≤ 15) : IntKind.u64.wrap ((2 : Int) ^ n) = ((2 ^ n : Nat) : Int) := by
  have h1 : 2 ^ n ≤ 2 ^ 15 := pow2_le n 15 h
  have h2 : (2 : Nat) ^ 15 = 32768 := by decide
  rw [show ((2 : Int) ^ n) = ((2 ^ n : Nat) : Int) by simp]
  generalize 2 ^ n = P at *
  rw [IntKind.wrap_u64]
  omega
theorem fits_u64 {b n : Nat} (hn : n ≤ 15) (h : b < 2 ^ n) : decide ((b : Int) < IntKind.u64.wrap (2 ^ n)) = true := by
  rw [u64_pow n hn]
  exact decide_eq_true (by omega)
theorem begins_no (a n b m : Nat) (w : World) (ha : a < 4294967296) (hb : b < 4294967296) (hn : n ≤ 255) (hm : m ≤ 15) (h : begB (a, n) (b, m) = false) :
    Calls Try.prog 16 #[.agg #[.int .u32 (a : Int), .int .u8 (n : Int)], .agg #[.int .u32 (b : Int), .int .u8 (m : Int)]] w fun e w' => e = .returned (.bool false) ∧ Below w.heap.size w w' := by
  have := begins_any a n b m w ha hb hn hm
  refine this.mono fun e w' hh => ?_
  unfold BegRes at hh
  rw [h] at hh
  exact hh

theorem codesL_get (l : List Nat) (i : Nat) (h : i < (codesL l).length) : (codesL l)[i] = codeAt l i := by simp [codesL]
/-- The two cells of a place's code. -/
theorem Rd.at_code {w : World} {A : Option Addr} {l : List Nat} (h : Rd w A (codV (codesL l))) {i : Nat} (hi : i < l.length) :
    ∃ b off, A = some ⟨b, off, none⟩ ∧ w.cell? ⟨b, off + i * 2, none⟩ = some (.int .u32 (((codeAt l i).1 : Nat) : Int)) ∧ w.cell? ⟨b, off + i * 2 + 1, none⟩ = some (.int .u8 (((nth l i : Nat)) : Int)) := by
  obtain ⟨b, off, h1, h2, h3⟩ := h.cod (i := i) (by rw [codesL_length]; exact hi)
  rw [codesL_get] at h2 h3
  rw [code_two] at h3
  exact ⟨b, off, h1, h2, h3⟩

set_option maxHeartbeats 4000000 in
set_option maxRecDepth 100000 in
theorem law_apart (A : Option Addr) (l : List Nat) (c : Nat) (m i k : Int) (w : World) (hin : InBs w A l) (h1 : -9223372036854775808 ≤ m) (h2 : m ≤ 9223372036854775807) (h3 : -9223372036854775808 ≤ i) (h4 : i ≤ 9223372036854775807) (h5 : -9223372036854775808 ≤ k) (h6 : k ≤ 9223372036854775807) :
    Calls Try.prog 5 #[.slice A l.length c, .int .i64 m, .int .i64 i, .int .i64 k] w fun e w' => e = .returned (.bool true) ∧ Below w.heap.size w w' := by
  obtain ⟨hl, hA, hm⟩ := hin
  unfold maxLen at hm
  by_cases hbig : 1000 < l.length
  · go_enter Try.func5, Try.ntmps5
    go_wp2_with fail
    refine (canon_alive_any _).mono ?_
    rintro e w1 ⟨rfl, hb1⟩
    go_wp2_with fail
    go_ret
    exact ⟨rfl, hb1⟩
  · have HQ := Lib.hid fun w h => codes_any A c l m w h (by omega) h1 h2
    simp only [CodRes] at HQ
    by_cases h0 : canE l m = 0
    · obtain ⟨g1, g2, g3, g4, g5, _⟩ := canE_ok h0
      have g15 : ∀ x ∈ l, x ≤ 15 := fun x hx => by have := g4 x hx; omega
      have hc : canL l m = codesL l := by unfold canL; rw [if_pos h0]
      rw [hc, h0, codesL_length] at HQ
      clear hc g4 h0
      by_cases hout : i < 0 ∨ l.length ≤ i ∨ k < 0 ∨ l.length ≤ k
      · clear g15 g5
        have q : i < 0 ∨ ¬ i < 0 ∧ l.length ≤ i ∨ ¬ i < 0 ∧ ¬ l.length ≤ i ∧ k < 0 ∨ ¬ i < 0 ∧ ¬ l.length ≤ i ∧ ¬ k < 0 ∧ l.length ≤ k := by omega
        rcases q with q | ⟨q1, q2⟩ | ⟨q1, q2, q3⟩ | ⟨q1, q2, q3, q4⟩
        all_goals
          go_enter Try.func5, Try.ntmps5
          go_wp2_with fail
          refine (canon_alive_any _).mono ?_
          rintro e w1 ⟨rfl, hb1⟩
          go_wp2_with fail
          refine (HQ.out _ (hl.below hb1)).mono ?_
          rintro e w2 ⟨B, d, rfl, hB⟩
          have b2 := hb1.trans (hB.1.mono hb1.size)
          go_wp2_with fail
          go_ret
          exact ⟨rfl, b2⟩
      · obtain ⟨i, rfl⟩ := Int.eq_ofNat_of_zero_le (show 0 ≤ i by omega)
        obtain ⟨k, rfl⟩ := Int.eq_ofNat_of_zero_le (show 0 ≤ k by omega)
        have hi : i < l.length := by omega
        have hk : k < l.length := by omega
        have hfit := code_fits g15 g5 hi
        have hci := code_le g15 g5 hi
        have hck := code_le g15 g5 hk
        have hni := nth_15 g15 i
        have hnk := nth_15 g15 k
        have HAP := Lib.hid fun h => apart (l := l) g15 hi hk h
        have hF := fits_u64 hni hfit
        clear g15 hout
        by_cases hik : i = k
        · subst hik
          go_enter Try.func5, Try.ntmps5
          go_wp2_with fail
          refine (canon_alive_any _).mono ?_
          rintro e w1 ⟨rfl, hb1⟩
          go_wp2_with fail
          refine (HQ.out _ (hl.below hb1)).mono ?_
          rintro e w2 ⟨B, d, rfl, hB⟩
          have b2 := hb1.trans (hB.1.mono hb1.size)
          obtain ⟨g, off, rfl, hc1, hc2⟩ := hB.rd.at_code hi
          obtain ⟨b, off', rfl, hcell, hx⟩ := (hl.below b2).at_ hi
          go_wp2_with fail
          go_quiet (fail)
          go_wp2_with fail
          go_quiet (fail)
          go_wp2_with fail
          go_ret
          exact ⟨rfl, below_drewN' (below_drewN' b2 _) _⟩
        · have hd : ((i : Int) == (k : Int)) = false := by rw [beq_eq_false_iff_ne]; omega
          have HNO := Lib.hid fun w => begins_no (codeAt l i).1 (nth l i) (codeAt l k).1 (nth l k) w (by omega) (by omega) (by omega) hnk (by rw [← code_two (l := l) i, ← code_two (l := l) k]; exact HAP.out hik)
          clear hik hfit
          go_enter Try.func5, Try.ntmps5
          go_wp2_with fail
          refine (canon_alive_any _).mono ?_
          rintro e w1 ⟨rfl, hb1⟩
          go_wp2_with fail
          refine (HQ.out _ (hl.below hb1)).mono ?_
          rintro e w2 ⟨B, d, rfl, hB⟩
          have b2 := hb1.trans (hB.1.mono hb1.size)
          obtain ⟨g, off, rfl, hc1, hc2⟩ := hB.rd.at_code hi
          obtain ⟨g', off2, e', hd1, hd2⟩ := hB.rd.at_code hk
          obtain ⟨rfl, rfl⟩ : g' = g ∧ off2 = off := by injection e' with e'; injection e' with e1 e2; exact ⟨e1.symm, e2.symm⟩
          obtain ⟨b, off', rfl, hcell, hx⟩ := (hl.below b2).at_ hi
          have hglt := cell_lt hc1
          clear e'
          generalize (codeAt l i).1 = bi at *
          generalize (codeAt l k).1 = bk at *
          generalize nth l i = ni at *
          generalize nth l k = nk at *
          go_wp2_with fail
          go_quiet (fail)
          go_wp2_with fail
          have hS : ∀ wx, Below w2.heap.size w2 wx → wx.cell? ⟨g', off2 + i * 2, none⟩ = some (.int .u32 (bi : Int)) ∧ wx.cell? ⟨g', off2 + i * 2 + 1, none⟩ = some (.int .u8 (ni : Int)) ∧ wx.cell? ⟨g', off2 + k * 2, none⟩ = some (.int .u32 (bk : Int)) ∧ wx.cell? ⟨g', off2 + k * 2 + 1, none⟩ = some (.int .u8 (nk : Int)) := fun wx hb => ⟨(hb.cell (cell_lt hc1)).trans hc1, (hb.cell (cell_lt hc2)).trans hc2, (hb.cell (cell_lt hd1)).trans hd1, (hb.cell (cell_lt hd2)).trans hd2⟩
          have HS := Lib.hid hS
          clear hS
          go_region_held3 (fun wx => wx.cell? ⟨g', off2 + i * 2, none⟩ = some (.int .u32 (bi : Int)) ∧ wx.cell? ⟨g', off2 + i * 2 + 1, none⟩ = some (.int .u8 (ni : Int)) ∧ wx.cell? ⟨g', off2 + k * 2, none⟩ = some (.int .u32 (bk : Int)) ∧ wx.cell? ⟨g', off2 + k * 2 + 1, none⟩ = some (.int .u8 (nk : Int))) (first | exact ⟨hc1, hc2, hd1, hd2⟩ | exact x4) ((go_at_call 16; refine (HNO.out _).mono ?_; rintro e w4 ⟨rfl, hb4⟩; have b4 := (below_drewN' (Below.refl w2.heap.size w2) _).trans hb4; have x4 := HS.out _ b4))
          go_wp2_with fail
          go_ret
          exact ⟨rfl, b2.trans (b4.mono b2.size)⟩
    · have hcn : canL l m = [] := by unfold canL; rw [if_neg h0]
      rw [hcn] at HQ
      have he : ((canE l m : Int) != 0) = true := by rw [bne_iff_ne]; omega
      clear hcn
      generalize canE l m = E at *
      go_enter Try.func5, Try.ntmps5
      go_wp2_with fail
      refine (canon_alive_any _).mono ?_
      rintro e w1 ⟨rfl, hb1⟩
      go_wp2_with fail
      refine (HQ.out _ (hl.below hb1)).mono ?_
      rintro e w2 ⟨B, d, rfl, hB⟩
      have b2 := hb1.trans (hB.1.mono hb1.size)
      go_wp2_with fail
      go_ret
      exact ⟨rfl, b2⟩
end Go.Proofs.Ytnggkenlgpcidaa
