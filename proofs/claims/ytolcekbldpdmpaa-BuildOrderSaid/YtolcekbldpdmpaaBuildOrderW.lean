/-
  Walks: the law BuildOrder.
-/
import Derived.Test.YtolcekbldpdmpaaBuildE
import Derived.Test.YtolcekbldpdmpaaOpenI
namespace Go.Proofs.Ytolcekbldpdmpaa
open Go.RowKit

theorem out_order {fr ys : List Int} {L i k : Nat} (h : Items fr ys) (hi : i < fr.length) (hk : k < fr.length) (hx : 0 < nthI fr i) (hy : 0 < nthI fr k) (hl : nthI fr i < nthI fr k ∨ nthI fr i = nthI fr k ∧ i < k) : outF fr ys L k ≤ outF fr ys L i := by
  obtain ⟨a, ha, rfl⟩ := item_of h hi hx
  obtain ⟨b, hb, rfl⟩ := item_of h hk hy
  rw [out_at h ha, out_at h hb]
  have hy0 : ∀ j, j < ys.length → nthI ys j = (itF ys j : Int) := fun j hj => by
    have := h.rng (nthI ys j) (by rw [nthI_el hj]; exact List.getElem_mem hj)
    unfold itF; omega
  have hab : a < b := by
    have hlx : LX (fun x => nthI fr x.toNat) (nthI ys a) (nthI ys b) := by
      rw [hy0 a ha, hy0 b hb]
      unfold LX
      dsimp only
      rw [Int.toNat_natCast, Int.toNat_natCast]
      omega
    rcases Nat.lt_trichotomy a b with e | e | e
    · exact e
    · subst e; exact absurd hlx LX.irr
    · have := List.pairwise_iff_getElem.1 h.asc b a hb ha e
      rw [← nthI_el hb, ← nthI_el ha] at this
      exact absurd (this.trans hlx) LX.irr
  unfold blF
  by_cases e : ys.length = 1
  · omega
  · rw [if_neg e, if_neg e]
    exact len_falls _ _ (by omega)

set_option maxRecDepth 100000 in
set_option maxHeartbeats 4000000 in
theorem law_border' (F : Option Addr) (fr : List Int) (cF : Nat) (most i k : Int) (w : World) (nl : Nat) (hnl : nl = fr.length) (hF : Rd w F (ints fr)) (hlm : nl ≤ maxLen) (h1 : -9223372036854775808 ≤ most) (h2 : most ≤ 9223372036854775807) :
    Calls Try.prog 5 #[.slice F nl cF, .int .i64 most, .int .i64 i, .int .i64 k] w fun e w' => e = .returned (.bool true) ∧ Below w.heap.size w w' := by
  unfold maxLen at hlm
  have HV := Lib.hid balive_any
  have HN := Lib.hid hnl
  clear hnl
  by_cases hbig : 400 < nl
  · have d1 : decide ((nl : Int) > 400) = true := decide_eq_true (by omega)
    go_enter Try.func5, Try.ntmps5
    go_wp2_with fail
    refine (HV.out _).mono ?_
    rintro e w1 ⟨rfl, b1⟩
    go_wp2_with fail
    go_ret
    exact ⟨rfl, b1⟩
  · have d1 : decide ((nl : Int) > 400) = false := decide_eq_false (by omega)
    have g1 : nl ≤ 400 := by omega
    have HQ := Lib.hid (fun wx (h : Rd wx F (ints fr)) => lengths_is F nl cF fr most wx h HN.out (by omega) h1 h2)
    clear hbig
    go_enter Try.func5, Try.ntmps5
    go_wp2_with fail
    refine (HV.out _).mono ?_
    rintro e w1 ⟨rfl, b1⟩
    have hF1 := hF.below b1
    go_wp2_with fail
    refine (HQ.out _ hF1).mono ?_
    rintro e w2 (⟨hE, rfl, b2⟩ | ⟨hE, A, c, ys, hI, hyl, rfl, hB⟩)
    · have hne : (((askE fr most : Nat) : Int) != 0) = true := by rw [bne_iff_ne]; omega
      have hb2 := b1.trans (b2.mono b1.size)
      generalize askE fr most = E at *
      go_wp2_with fail
      go_ret
      exact ⟨rfl, hb2⟩
    · have hb2 := b1.trans (hB.1.mono b1.size)
      have hF2 := hF1.below hB.1
      rw [← HN.out] at hB ⊢
      have hnn : ((nl : Int) != (nl : Int)) = false := by simp
      by_cases hbad : i < 0 ∨ (nl : Int) ≤ i ∨ k < 0 ∨ (nl : Int) ≤ k
      · have hcases : i < 0 ∨ (¬ i < 0 ∧ (nl : Int) ≤ i) ∨ (¬ i < 0 ∧ ¬ (nl : Int) ≤ i ∧ k < 0) ∨ (¬ i < 0 ∧ ¬ (nl : Int) ≤ i ∧ ¬ k < 0 ∧ (nl : Int) ≤ k) := by omega
        clear hbad
        rcases hcases with q1 | ⟨q1, q2⟩ | ⟨q1, q2, q3⟩ | ⟨q1, q2, q3, q4⟩
        · have e1 : decide (i < 0) = true := decide_eq_true q1
          go_wp2_with fail
          go_ret
          exact ⟨rfl, hb2⟩
        · have e1 : decide (i < 0) = false := decide_eq_false q1
          have e2 : decide (i ≥ (nl : Int)) = true := decide_eq_true q2
          go_wp2_with fail
          go_ret
          exact ⟨rfl, hb2⟩
        · have e1 : decide (i < 0) = false := decide_eq_false q1
          have e2 : decide (i ≥ (nl : Int)) = false := decide_eq_false q2
          have e3 : decide (k < 0) = true := decide_eq_true q3
          go_wp2_with fail
          go_ret
          exact ⟨rfl, hb2⟩
        · have e1 : decide (i < 0) = false := decide_eq_false q1
          have e2 : decide (i ≥ (nl : Int)) = false := decide_eq_false q2
          have e3 : decide (k < 0) = false := decide_eq_false q3
          have e4 : decide (k ≥ (nl : Int)) = true := decide_eq_true q4
          go_wp2_with fail
          go_ret
          exact ⟨rfl, hb2⟩
      · obtain ⟨i, rfl⟩ : ∃ j : Nat, i = (j : Int) := ⟨i.toNat, by omega⟩
        obtain ⟨k, rfl⟩ : ∃ j : Nat, k = (j : Int) := ⟨k.toNat, by omega⟩
        have hin : i < nl := by omega
        have hkn : k < nl := by omega
        have e1 : decide ((i : Int) < 0) = false := decide_eq_false (by omega)
        have e2 : decide ((i : Int) ≥ (nl : Int)) = false := decide_eq_false (by omega)
        have e3 : decide ((k : Int) < 0) = false := decide_eq_false (by omega)
        have e4 : decide ((k : Int) ≥ (nl : Int)) = false := decide_eq_false (by omega)
        have e5 : decide (nl ≤ i) = false := decide_eq_false (by omega)
        have e6 : decide (nl ≤ k) = false := decide_eq_false (by omega)
        obtain ⟨a1, a2, a3, a4, a5⟩ := askE_ok hE
        obtain ⟨L, rfl⟩ : ∃ L : Nat, most = (L : Int) := ⟨most.toNat, by omega⟩
        rw [Int.toNat_natCast] at hB a5
        have hil : i < fr.length := by rw [← HN.out]; exact hin
        have hkl : k < fr.length := by rw [← HN.out]; exact hkn
        have p1 := out_pos (L := L) hI (by omega) (by omega) hil
        have p2 := out_pos (L := L) hI (by omega) (by omega) hkl
        have p3 := out_order (L := L) hI hil hkl
        have p4 := a4 i hil
        have p5 := a4 k hkl
        have u1 := out_le (L := L) hI (by omega) (by omega) i hil
        have u2 := out_le (L := L) hI (by omega) (by omega) k hkl
        obtain ⟨g, rfl, hg1, hg2⟩ := hB.at_ (by omega)
        have ci := Builds.cell hB i (by omega)
        have ck := Builds.cell hB k (by omega)
        rw [u8s_get _ _ (by rw [outL_length]; exact hil), outL_nth _ hil] at ci
        rw [u8s_get _ _ (by rw [outL_length]; exact hkl), outL_nth _ hkl] at ck
        obtain ⟨b, off, rfl, hcell⟩ := hF2.at_ (by rw [ints_length]; omega)
        have fi := hcell i _ (ints_get fr i hil)
        have fk := hcell k _ (ints_get fr k hkl)
        generalize outF fr ys L i = u at *
        generalize outF fr ys L k = v at *
        generalize nthI fr i = x at *
        generalize nthI fr k = y at *
        have hu0 : ((u : Int) == 0) = (x == 0) := by
          rw [Bool.eq_iff_iff, beq_iff_eq, beq_iff_eq]; omega
        have HP := Lib.hid p3
        have hx0 : 0 ≤ x ∧ 0 ≤ y := by omega
        clear hcell p1 p2 p3 p4 p5 a1 a2 a3 a4 a5 hbad hI hyl hE HQ hB hF2 hF1 hF
        have hcases : (x < y) ∨ (¬ x < y ∧ x = y ∧ i < k) ∨ (¬ x < y ∧ x = y ∧ ¬ i < k) ∨ (¬ x < y ∧ x ≠ y) := by omega
        have hcases2 : x = 0 ∨ (x ≠ 0 ∧ y = 0) ∨ (x ≠ 0 ∧ y ≠ 0) := by omega
        rcases hcases with q | ⟨q, q2, q3⟩ | ⟨q, q2, q3⟩ | ⟨q, q2⟩
        · have f1 : decide (x < y) = true := decide_eq_true q
          rcases hcases2 with r | ⟨r, r2⟩ | ⟨r, r2⟩
          · have f4 : (x == 0) = true := by rw [beq_iff_eq]; exact r
            rw [f4] at hu0
            clear q r
            go_wp2_with fail
            go_quiet (fail)
            go_wp2_with fail
            go_quiet (fail)
            go_wp2_with fail
            go_quiet (fail)
            go_wp2_with fail
            go_ret
            exact ⟨rfl, below_drewN' (below_drewN' (below_drewN' hb2 _) _) _⟩
          · have f4 : (x == 0) = false := by rw [beq_eq_false_iff_ne]; exact r
            have f5 : (y == 0) = true := by rw [beq_iff_eq]; exact r2
            rw [f4] at hu0
            clear q r r2
            go_wp2_with fail
            go_quiet (fail)
            go_wp2_with fail
            go_quiet (fail)
            go_wp2_with fail
            go_quiet (fail)
            go_wp2_with fail
            go_ret
            exact ⟨rfl, below_drewN' (below_drewN' (below_drewN' hb2 _) _) _⟩
          · have f4 : (x == 0) = false := by rw [beq_eq_false_iff_ne]; exact r
            have f5 : (y == 0) = false := by rw [beq_eq_false_iff_ne]; exact r2
            have f6 : v ≤ u := HP.out (by omega) (by omega) (by omega)
            have f7 : decide ((u : Int) ≥ (v : Int)) = true := decide_eq_true (by omega)
            rw [f4] at hu0
            clear q r r2
            go_wp2_with fail
            go_quiet (fail)
            go_wp2_with fail
            go_quiet (fail)
            go_wp2_with fail
            go_quiet (fail)
            go_wp2_with fail
            go_ret
            exact ⟨rfl, below_drewN' (below_drewN' (below_drewN' hb2 _) _) _⟩
        · have f1 : decide (x < y) = false := decide_eq_false q
          have f2 : (x == y) = true := by rw [beq_iff_eq]; exact q2
          have f3 : decide ((i : Int) < (k : Int)) = true := decide_eq_true (by omega)
          have f3' : decide (i < k) = true := decide_eq_true q3
          rcases hcases2 with r | ⟨r, r2⟩ | ⟨r, r2⟩
          · have f4 : (x == 0) = true := by rw [beq_iff_eq]; exact r
            rw [f4] at hu0
            clear q r q2 q3
            go_wp2_with fail
            go_quiet (fail)
            go_wp2_with fail
            go_quiet (fail)
            go_wp2_with fail
            go_quiet (fail)
            go_wp2_with fail
            go_ret
            exact ⟨rfl, below_drewN' (below_drewN' (below_drewN' hb2 _) _) _⟩
          · have f4 : (x == 0) = false := by rw [beq_eq_false_iff_ne]; exact r
            have f5 : (y == 0) = true := by rw [beq_iff_eq]; exact r2
            rw [f4] at hu0
            clear q r q2 q3 r2
            go_wp2_with fail
            go_quiet (fail)
            go_wp2_with fail
            go_quiet (fail)
            go_wp2_with fail
            go_quiet (fail)
            go_wp2_with fail
            go_ret
            exact ⟨rfl, below_drewN' (below_drewN' (below_drewN' hb2 _) _) _⟩
          · have f4 : (x == 0) = false := by rw [beq_eq_false_iff_ne]; exact r
            have f5 : (y == 0) = false := by rw [beq_eq_false_iff_ne]; exact r2
            have f6 : v ≤ u := HP.out (by omega) (by omega) (by omega)
            have f7 : decide ((u : Int) ≥ (v : Int)) = true := decide_eq_true (by omega)
            rw [f4] at hu0
            clear q r q2 q3 r2
            go_wp2_with fail
            go_quiet (fail)
            go_wp2_with fail
            go_quiet (fail)
            go_wp2_with fail
            go_quiet (fail)
            go_wp2_with fail
            go_ret
            exact ⟨rfl, below_drewN' (below_drewN' (below_drewN' hb2 _) _) _⟩
        · have f1 : decide (x < y) = false := decide_eq_false q
          have f2 : (x == y) = true := by rw [beq_iff_eq]; exact q2
          have f3 : decide ((i : Int) < (k : Int)) = false := decide_eq_false (by omega)
          have f3' : decide (i < k) = false := decide_eq_false q3
          rcases hcases2 with r | ⟨r, r2⟩ | ⟨r, r2⟩
          · have f4 : (x == 0) = true := by rw [beq_iff_eq]; exact r
            rw [f4] at hu0
            clear q r q2 q3
            go_wp2_with fail
            go_quiet (fail)
            go_wp2_with fail
            go_quiet (fail)
            go_wp2_with fail
            go_quiet (fail)
            go_wp2_with fail
            go_ret
            exact ⟨rfl, below_drewN' (below_drewN' (below_drewN' hb2 _) _) _⟩
          · have f4 : (x == 0) = false := by rw [beq_eq_false_iff_ne]; exact r
            have f5 : (y == 0) = true := by rw [beq_iff_eq]; exact r2
            rw [f4] at hu0
            clear q r q2 q3 r2
            go_wp2_with fail
            go_quiet (fail)
            go_wp2_with fail
            go_quiet (fail)
            go_wp2_with fail
            go_quiet (fail)
            go_wp2_with fail
            go_ret
            exact ⟨rfl, below_drewN' (below_drewN' (below_drewN' hb2 _) _) _⟩
          · have f4 : (x == 0) = false := by rw [beq_eq_false_iff_ne]; exact r
            have f5 : (y == 0) = false := by rw [beq_eq_false_iff_ne]; exact r2
            rw [f4] at hu0
            clear q r q2 q3 r2
            go_wp2_with fail
            go_quiet (fail)
            go_wp2_with fail
            go_quiet (fail)
            go_wp2_with fail
            go_quiet (fail)
            go_wp2_with fail
            go_ret
            exact ⟨rfl, below_drewN' (below_drewN' (below_drewN' hb2 _) _) _⟩
        · have f1 : decide (x < y) = false := decide_eq_false q
          have f2 : (x == y) = false := by rw [beq_eq_false_iff_ne]; exact q2
          rcases hcases2 with r | ⟨r, r2⟩ | ⟨r, r2⟩
          · have f4 : (x == 0) = true := by rw [beq_iff_eq]; exact r
            rw [f4] at hu0
            clear q r q2
            go_wp2_with fail
            go_quiet (fail)
            go_wp2_with fail
            go_quiet (fail)
            go_wp2_with fail
            go_quiet (fail)
            go_wp2_with fail
            go_ret
            exact ⟨rfl, below_drewN' (below_drewN' (below_drewN' hb2 _) _) _⟩
          · have f4 : (x == 0) = false := by rw [beq_eq_false_iff_ne]; exact r
            have f5 : (y == 0) = true := by rw [beq_iff_eq]; exact r2
            rw [f4] at hu0
            clear q r q2 r2
            go_wp2_with fail
            go_quiet (fail)
            go_wp2_with fail
            go_quiet (fail)
            go_wp2_with fail
            go_quiet (fail)
            go_wp2_with fail
            go_ret
            exact ⟨rfl, below_drewN' (below_drewN' (below_drewN' hb2 _) _) _⟩
          · have f4 : (x == 0) = false := by rw [beq_eq_false_iff_ne]; exact r
            have f5 : (y == 0) = false := by rw [beq_eq_false_iff_ne]; exact r2
            rw [f4] at hu0
            clear q r q2 r2
            go_wp2_with fail
            go_quiet (fail)
            go_wp2_with fail
            go_quiet (fail)
            go_wp2_with fail
            go_quiet (fail)
            go_wp2_with fail
            go_ret
            exact ⟨rfl, below_drewN' (below_drewN' (below_drewN' hb2 _) _) _⟩

theorem law_border (F : Option Addr) (fr : List Int) (cF : Nat) (most i k : Int) (w : World) (hF : InIs w F cF fr) (h1 : -9223372036854775808 ≤ most) (h2 : most ≤ 9223372036854775807) (_ : -9223372036854775808 ≤ i) (_ : i ≤ 9223372036854775807) (_ : -9223372036854775808 ≤ k) (_ : k ≤ 9223372036854775807) :
    Calls Try.prog 5 #[.slice F fr.length cF, .int .i64 most, .int .i64 i, .int .i64 k] w fun e w' => e = .returned (.bool true) ∧ Below w.heap.size w w' :=
  law_border' F fr cF most i k w _ rfl hF.rd hF.len h1 h2
end Go.Proofs.Ytolcekbldpdmpaa
