/-
  Walks: build.asked, its comparison, cmp.Compare.
-/
import Derived.Test.YtfcefhaaphieeaaGreatG05
import Derived.Test.YtfcefhaaphieeaaGreatGSortE
namespace Go.Proofs.YtfcefhaaphieeaaGreat
open Go.RowKit

set_option maxHeartbeats 1000000 in
theorem nan_is (x : Int) (w : World) : Calls Tryz.prog 98 #[.int .i64 x] w fun e w' => e = .returned (.bool false) ∧ w' = w := by
  have h : (x != x) = false := by simp
  go_enter Tryz.func98, Tryz.ntmps98
  go_wp2_with fail
  go_ret
  exact ⟨rfl, rfl⟩

set_option maxHeartbeats 2000000 in
theorem compare_is (x y : Int) (w : World) : Calls Tryz.prog 90 #[.int .i64 x, .int .i64 y] w fun e w' => e = .returned (.int .i64 (cmpI x y)) ∧ w' = w := by
  have HN := Lib.hid nan_is
  unfold cmpI
  by_cases h1 : x < y
  · rw [if_pos h1]
    go_enter Tryz.func90, Tryz.ntmps90
    go_wp2_with (go_at_call 98; refine (HN.out _ _).mono ?_; rintro _ w1 ⟨rfl, rfl⟩)
    go_ret
    exact ⟨rfl, rfl⟩
  · rw [if_neg h1]
    by_cases h2 : y < x
    · rw [if_pos h2]
      have h3 : decide (x > y) = true := decide_eq_true h2
      go_enter Tryz.func90, Tryz.ntmps90
      go_wp2_with (go_at_call 98; refine (HN.out _ _).mono ?_; rintro _ w1 ⟨rfl, rfl⟩)
      go_ret
      exact ⟨rfl, rfl⟩
    · rw [if_neg h2]
      have h3 : decide (x > y) = false := decide_eq_false h2
      go_enter Tryz.func90, Tryz.ntmps90
      go_wp2_with (go_at_call 98; refine (HN.out _ _).mono ?_; rintro _ w1 ⟨rfl, rfl⟩)
      go_ret
      exact ⟨rfl, rfl⟩

/-- The comparison of build.asked. -/
theorem cmpK_is (W : World) (kb nf cF : Nat) (F : Option Addr) (fr : List Int) (hk : kb < W.heap.size) (hc : W.cell? ⟨kb, 0, none⟩ = some (.slice F nf cF)) (hF : Rd W F (ints fr)) (hn : nf = fr.length) (hs : nf ≤ 1000000) :
    CmpK W kb (fun x => nthI fr x.toNat) nf := by
  intro wx hb x y hx1 hx2 hy1 hy2
  obtain ⟨i, rfl⟩ : ∃ i : Nat, x = (i : Int) := ⟨x.toNat, by omega⟩
  obtain ⟨j, rfl⟩ : ∃ j : Nat, y = (j : Int) := ⟨y.toNat, by omega⟩
  show Calls Tryz.prog 89 #[.int .i64 (i : Int), .int .i64 (j : Int), .pointer (some ⟨kb, 0, none⟩)] wx fun e w' => e = .returned (.int .i64 (cmpI (nthI fr i) (nthI fr j))) ∧ ∃ q, w' = wx.drewN q
  have hi : i < nf := by omega
  have hj : j < nf := by omega
  have hcx : wx.cell? ⟨kb, 0, none⟩ = some (.slice F nf cF) := (hb.cell (p := ⟨kb, 0, none⟩) hk).trans hc
  obtain ⟨b, off, rfl, hcell⟩ := (hF.below hb).at_ (by rw [ints_length]; omega)
  have ci := hcell i _ (ints_get fr i (by omega))
  have cj := hcell j _ (ints_get fr j (by omega))
  have HN := Lib.hid (fun wy => compare_is (nthI fr i) (nthI fr j) wy)
  clear hcell hF hn hb hc hk hx1 hx2 hy1 hy2
  generalize cmpI (nthI fr i) (nthI fr j) = r at *
  generalize nthI fr i = u at *
  generalize nthI fr j = v at *
  go_enter Tryz.func89, Tryz.ntmps89
  go_wp2_with fail
  go_quiet ((go_at_call 90; exact Calls.quiet_of_same ((HN.out _).mono fun e w' ⟨he, hw⟩ => ⟨he, hw⟩)))
  go_wp2_with fail
  go_ret
  exact ⟨rfl, _, rfl⟩

/-- The symbols above 0 among the first i, by number. -/
def posL (fr : List Int) : Nat → List Int
  | 0 => []
  | i + 1 => if 0 < nthI fr i then posL fr i ++ [(i : Int)] else posL fr i
theorem posL_ok (fr : List Int) : ∀ i, i ≤ fr.length → PosN fr i (posL fr i)
  | 0, _ => PosN.zero fr
  | i + 1, h => by
    unfold posL
    by_cases h0 : 0 < nthI fr i
    · rw [if_pos h0]; exact (posL_ok fr i (by omega)).put (by omega) h0
    · rw [if_neg h0]; exact (posL_ok fr i (by omega)).skip h0
theorem posL_len (fr : List Int) : ∀ i, (posL fr i).length ≤ i
  | 0 => Nat.le_refl _
  | i + 1 => by
    have := posL_len fr i
    unfold posL
    by_cases h0 : 0 < nthI fr i
    · rw [if_pos h0]; simp only [List.length_append, List.length_cons, List.length_nil]; omega
    · rw [if_neg h0]; omega
/-- Is a frequency no frequency? -/
def badX (x : Int) : Bool := decide (x < 0 ∨ 1073741824 < x)
/-- What is wrong with frequencies. -/
def askE (fr : List Int) (most : Int) : Nat :=
  if most < 1 ∨ 15 < most then 2 else if 320 < fr.length then 4 else if fr.any badX = true then 2 else if 2 ^ most.toNat < (posL fr fr.length).length then 4 else 0

theorem askE_ok {fr : List Int} {most : Int} (h : askE fr most = 0) : 1 ≤ most ∧ most ≤ 15 ∧ fr.length ≤ 320 ∧ (∀ i, i < fr.length → 0 ≤ nthI fr i ∧ nthI fr i ≤ 1073741824) ∧ (posL fr fr.length).length ≤ 2 ^ most.toNat := by
  unfold askE at h
  by_cases h1 : most < 1 ∨ 15 < most
  · rw [if_pos h1] at h; omega
  · rw [if_neg h1] at h
    by_cases h2 : 320 < fr.length
    · rw [if_pos h2] at h; omega
    · rw [if_neg h2] at h
      by_cases h3 : fr.any badX = true
      · rw [if_pos h3] at h; omega
      · rw [if_neg h3] at h
        by_cases h4 : 2 ^ most.toNat < (posL fr fr.length).length
        · rw [if_pos h4] at h; omega
        · refine ⟨by omega, by omega, by omega, fun i hi => ?_, by omega⟩
          rw [nthI_el hi]
          have h5 : badX fr[i] = false := by
            rcases hb : badX fr[i] with _ | _
            · rfl
            · exact absurd (List.any_eq_true.2 ⟨_, List.getElem_mem hi, hb⟩) h3
          unfold badX at h5
          have := of_decide_eq_false h5
          omega

def AskRes (w w' : World) (e : Ending) (fr : List Int) (most : Int) : Prop :=
  (askE fr most ≠ 0 ∧ e = .returned (.tuple #[.slice none 0 0, .int .i64 (askE fr most : Nat)]) ∧ Below w.heap.size w w') ∨
  (askE fr most = 0 ∧ ∃ A c ys, e = .returned (.tuple #[.slice A ys.length c, .int .i64 0]) ∧ Builds w w' 3 1 A ys.length c (ints ys) ∧ Items fr ys ∧ ys.length = (posL fr fr.length).length)
theorem AskRes.no {w w' : World} {e : Ending} {fr : List Int} {most : Int} (E : Nat) (h : askE fr most = E) (h0 : E ≠ 0) (he : e = .returned (.tuple #[.slice none 0 0, .int .i64 (E : Nat)])) (hb : Below w.heap.size w w') : AskRes w w' e fr most :=
  .inl ⟨by rw [h]; exact h0, by rw [h]; exact he, hb⟩

set_option maxRecDepth 100000 in
set_option maxHeartbeats 4000000 in
theorem asked_is (F : Option Addr) (nf cF : Nat) (fr : List Int) (most : Int) (w : World) (hF : Rd w F (ints fr)) (hn : nf = fr.length) (hs : nf ≤ 1000000) (h1 : -9223372036854775808 ≤ most) (h2 : most ≤ 9223372036854775807) :
    Calls Tryz.prog 67 #[.slice F nf cF, .int .i64 most] w fun e w' => AskRes w w' e fr most := by
  have hW : Below w.heap.size w (w.alloc (.cells #[.slice F nf cF] 89)) := (Below.refl _ _).alloc (Nat.le_refl _) _
  have hk : Blk (w.alloc (.cells #[.slice F nf cF] 89)) w.heap.size 89 #[.slice F nf cF] := Blk.new _ _ _
  have c0 : (w.alloc (.cells #[.slice F nf cF] 89)).cell? ⟨w.heap.size, 0, none⟩ = some (.slice F nf cF) := Blk.cell hk 0
  have hFW := hF.alloc (.cells #[.slice F nf cF] 89)
  have HN := Lib.hid hn
  have hfl : fr.length ≤ 1000000 := by omega
  clear hn
  by_cases hm : most < 1 ∨ 15 < most
  · have hE : askE fr most = 2 := by unfold askE; rw [if_pos hm]
    have hcases : most < 1 ∨ (¬ most < 1 ∧ 15 < most) := by omega
    clear hm
    rcases hcases with hm | ⟨hm, hm2⟩
    case' inl => have d1 : decide (most < 1) = true := decide_eq_true hm
    case' inr =>
      have d1 : decide (most < 1) = false := decide_eq_false hm
      have d2 : decide (most > 15) = true := decide_eq_true hm2
    all_goals
      go_enter Tryz.func67, Tryz.ntmps67
      go_wp2_with fail
      go_returns
      exact AskRes.no 2 hE (by omega) rfl hW
  · obtain ⟨L, rfl⟩ : ∃ L : Nat, most = (L : Int) := ⟨most.toNat, by omega⟩
    have hL : 1 ≤ L ∧ L ≤ 15 := by omega
    have d1 : decide ((L : Int) < 1) = false := decide_eq_false (by omega)
    have d2 : decide ((L : Int) > 15) = false := decide_eq_false (by omega)
    by_cases h3 : 320 < nf
    · have hE : askE fr L = 4 := by unfold askE; rw [if_neg hm, if_pos (by have := HN.out; omega)]
      have d3 : decide ((nf : Int) > 320) = true := decide_eq_true (by omega)
      go_enter Tryz.func67, Tryz.ntmps67
      go_wp2_with fail
      go_returns
      exact AskRes.no 4 hE (by omega) rfl hW
    · have d3 : decide ((nf : Int) > 320) = false := decide_eq_false (by omega)
      have HE := Lib.hid (show askE fr L = if fr.any badX = true then 2 else if 2 ^ L < (posL fr fr.length).length then 4 else 0 from by unfold askE; rw [if_neg hm, if_neg (by have := HN.out; omega), Int.toNat_natCast])
      clear hm
      go_enter Tryz.func67, Tryz.ntmps67
      go_upto_region 5 with (fail)
      generalize hWW : w.alloc (.cells #[.slice F nf cF] 89) = W at *
      have HW := Lib.hid hWW
      clear hWW
      go_wp2_with fail
      have hb0 : Below W.heap.size W W := Below.refl _ _
      have H0 := Lib.hid (show posL fr 0 = [] from rfl)
      go_loopg [4, 19] nf (fun gk v4 v19 wr => ∃ (i : Nat) (A : Option Addr) (c : Nat) (out : List Int), i ≤ nf ∧ gk = nf - i ∧ v19 = .int .i64 (i : Int) ∧ v4 = .slice A out.length c ∧ Builds W wr 3 1 A out.length c (ints out) ∧ Hid (out = posL fr i ∧ out.length ≤ i ∧ ∀ j, j < i → badX (nthI fr j) = false))
      case atStart => exact ⟨0, none, 0, [], by omega, rfl, rfl, rfl, Builds.nil_ _ _ _, Lib.hid ⟨rfl, Nat.le_refl _, fun j h => by omega⟩⟩
      case round =>
        clear H0
        obtain ⟨i, A, c, out, hi, hgk, rfl, rfl, hB, HO⟩ := hrel
        have HG := Lib.hid hgk
        clear hgk
        by_cases hlt : i < nf
        · have hlt' : (i : Int) < (nf : Int) := by omega
          have hil : i < fr.length := by have := HN.out; omega
          obtain ⟨b, off, rfl, hcell⟩ := (hFW.below hB.1).at_ (by rw [ints_length]; omega)
          have ci := hcell i _ (ints_get fr i hil)
          obtain ⟨x, hx⟩ : ∃ x, nthI fr i = x := ⟨_, rfl⟩
          rw [hx] at ci
          have HX := Lib.hid hx
          clear hcell hx
          by_cases hb : x < 0 ∨ 1073741824 < x
          · have hany : fr.any badX = true := by
              rw [List.any_eq_true]
              refine ⟨x, ?_, by unfold badX; exact decide_eq_true hb⟩
              rw [← HX.out, nthI_el hil]; exact List.getElem_mem hil
            have hE := HE.out
            rw [if_pos hany] at hE
            have hcases : x < 0 ∨ (¬ x < 0 ∧ 1073741824 < x) := by omega
            have HE2 := Lib.hid hE
            clear hb hany hE
            rcases hcases with hb | ⟨hb, hb2⟩
            case' inl => have e1 : decide (x < 0) = true := decide_eq_true hb
            case' inr =>
              have e1 : decide (x < 0) = false := decide_eq_false hb
              have e2 : decide (x > 1073741824) = true := decide_eq_true hb2
            all_goals
              go_wp2_with fail
              go_returns
              exact AskRes.no 2 HE2.out (by omega) rfl (hW.trans (hB.1.mono hW.size))
          · have e1 : decide (x < 0) = false := decide_eq_false (by omega)
            have e2 : decide (x > 1073741824) = false := decide_eq_false (by omega)
            have hgood : ∀ j, j < i + 1 → badX (nthI fr j) = false := fun j hj => by
              by_cases e : j = i
              · subst e; rw [HX.out]; unfold badX; exact decide_eq_false hb
              · exact HO.out.2.2 j (by omega)
            have HGd := Lib.hid hgood
            clear hgood hb
            by_cases h0 : 0 < x
            · have e3 : decide (x > 0) = true := decide_eq_true h0
              have HO2 : Hid (out ++ [(i : Int)] = posL fr (i + 1) ∧ (out ++ [(i : Int)]).length ≤ i + 1) := Lib.hid (by
                obtain ⟨o1, o2, o3⟩ := HO.out
                refine ⟨?_, by simp; omega⟩
                unfold posL
                rw [HX.out, if_pos h0, o1])
              have hol : out.length ≤ 1000000 := by have := HO.out.2.1; omega
              clear HO
              go_wp2_with (at_builtin; refine grow elem_num rfl (.tmp 32) (.tmp 34) rfl rfl (hB.alloc _) rfl (Rd.new' _ _ _ (ints [(i : Int)]) _ (by simp) rfl) rfl (ints_one _) (out.length + 1) rfl (ints (out ++ [(i : Int)])) (ints_append _ _).symm (by omega) (by omega) ?_; intro A2 c2 w2 hB2 hg2)
              go_roundg (nf - (i + 1))
              case measure => have := HG.out; omega
              case rel => exact ⟨i + 1, A2, c2, out ++ [(i : Int)], by omega, rfl, by go_num, by simp, by rw [List.length_append]; exact hB2, Lib.hid ⟨HO2.out.1, HO2.out.2, HGd.out⟩⟩
            · have e3 : decide (x > 0) = false := decide_eq_false h0
              have HO2 : Hid (out = posL fr (i + 1) ∧ out.length ≤ i + 1) := Lib.hid (by
                obtain ⟨o1, o2, o3⟩ := HO.out
                refine ⟨?_, by omega⟩
                unfold posL
                rw [HX.out, if_neg h0, o1])
              go_wp2_with fail
              go_roundg (nf - (i + 1))
              case measure => have := HG.out; omega
              case rel => exact ⟨i + 1, A, c, out, by omega, rfl, by go_num, rfl, hB, Lib.hid ⟨HO2.out.1, HO2.out.2, HGd.out⟩⟩
        · obtain rfl : i = nf := by omega
          have hlt' : ¬ (i : Int) < (i : Int) := by omega
          have hany : ¬ fr.any badX = true := by
            rw [List.any_eq_true]
            rintro ⟨x, hx, hb⟩
            obtain ⟨j, hj, rfl⟩ := List.getElem_of_mem hx
            have := HO.out.2.2 j (by have := HN.out; omega)
            rw [nthI_el hj] at this
            rw [this] at hb; cases hb
          have hE := HE.out
          rw [if_neg hany] at hE
          have hout : out = posL fr fr.length := by rw [← HN.out]; exact HO.out.1
          rw [← hout] at hE
          obtain ⟨M, hM⟩ : ∃ M, out.length = M := ⟨_, rfl⟩
          have hP := posL_ok fr fr.length (Nat.le_refl _)
          rw [← hout] at hP
          have HP := Lib.hid (And.intro hP hM)
          have HPo := Lib.hid hout
          rw [hM] at hE hB ⊢
          have hMi : M ≤ i := by rw [← hM]; exact HO.out.2.1
          obtain ⟨R, hR⟩ : ∃ R, 2 ^ L = R := ⟨_, rfl⟩
          have hRz : (2 : Int) ^ L = (R : Int) := by rw [← hR]; simp
          have hRl : R ≤ 32768 := by rw [← hR]; exact Nat.le_trans (Nat.pow_le_pow_right (n := 2) (by omega) hL.2) (by decide)
          rw [hR] at hE
          clear hR hany hout hP hM HO
          by_cases hMR : R < M
          · have e1 : decide ((M : Int) > (R : Int)) = true := decide_eq_true (by omega)
            rw [if_pos hMR] at hE
            have HE2 := Lib.hid hE
            clear hE
            go_wp2_with fail
            go_returns
            exact AskRes.no 4 HE2.out (by omega) rfl (hW.trans (hB.1.mono hW.size))
          · have e1 : decide ((M : Int) > (R : Int)) = false := decide_eq_false (by omega)
            rw [if_neg hMR] at hE
            have HE2 := Lib.hid hE
            have hK := cmpK_is W w.heap.size i cF F fr (Blk.lt hk) c0 hFW HN.out hs
            clear hE
            rcases Nat.eq_zero_or_pos M with rfl | hM0
            · have HS := Lib.hid (fun v' => sort_zero A c v' wr)
              have ho : out = [] := List.eq_nil_of_length_eq_zero HP.out.2
              have hI : Items fr [] := HP.out.1.sorted (by rw [ho]) List.Pairwise.nil
              rw [ho] at hB
              have HI := Lib.hid (And.intro hI (show ([] : List Int).length = (posL fr fr.length).length by rw [← HPo.out, ho]))
              clear hI ho HP hK
              go_wp2_with (go_at_call 88; refine (HS.out _).mono ?_; rintro _ w2 ⟨rfl, rfl⟩)
              go_returns
              exact .inr ⟨HE2.out, A, c, [], rfl, hB.rebase hW, HI.out.1, HI.out.2⟩
            · obtain ⟨g, rfl, hg1, hg2⟩ := hB.at_ hM0
              have HS := Lib.hid (sort_is W g M c w.heap.size _ i out wr hK hB (by omega)
                (fun y hy => by obtain ⟨a1, a2, a3, a4⟩ := HP.out.1.rng y hy; have := HN.out; omega)
                (fun p q h1 h2 => HP.out.1.rises p q h1 (by rw [HP.out.2]; exact h2)))
              unfold cmpV at HS
              clear hK
              go_wp2_with (go_at_call 88; refine (HS.out).mono ?_; rintro _ w2 ⟨rfl, ys, hys, hperm, hasc⟩)
              go_returns
              have hyl : ys.length = M := hys.len
              subst hyl
              exact .inr ⟨HE2.out, _, c, ys, rfl, Builds.rebase hys hW, HP.out.1.sorted hperm hasc, by rw [← HPo.out, HP.out.2]⟩
end Go.Proofs.YtfcefhaaphieeaaGreat
