/-
  Walks: the law BuildWider.
-/
import Derived.Test.YtolcekbldpdmpaaBuildF
import Derived.Test.YtolcekbldpdmpaaBuildLeastW
namespace Go.Proofs.Ytolcekbldpdmpaa
open Go.RowKit

/-- All frequencies times c. -/
def timesL (fr : List Int) (c : Nat) (n : Nat) : List Int := (List.range n).map fun i => max (nthI fr i) (-1) * (c : Int)
theorem timesL_nth (fr : List Int) (c n i : Nat) (h : i < n) : nthI (timesL fr c n) i = max (nthI fr i) (-1) * (c : Int) := by simp [timesL, nthI, h]
theorem timesL_len (fr : List Int) (c n : Nat) : (timesL fr c n).length = n := by simp [timesL]
theorem timesL_succ (fr : List Int) (c n : Nat) : timesL fr c (n + 1) = timesL fr c n ++ [max (nthI fr n) (-1) * (c : Int)] := by simp [timesL, List.range_succ]
theorem any_bad {xs : List Int} : xs.any badX = true ↔ ∃ i, i < xs.length ∧ badX (nthI xs i) = true := by
  rw [List.any_eq_true]
  constructor
  · rintro ⟨x, hx, hb⟩
    obtain ⟨j, hj, rfl⟩ := List.getElem_of_mem hx
    exact ⟨j, hj, by rw [nthI_el hj]; exact hb⟩
  · rintro ⟨i, hi, hb⟩
    exact ⟨xs[i], List.getElem_mem hi, by rw [nthI_el hi] at hb; exact hb⟩
theorem posL_congr {fr gr : List Int} {n : Nat} (h : ∀ i, i < n → (0 < nthI fr i ↔ 0 < nthI gr i)) : ∀ i, i ≤ n → posL fr i = posL gr i
  | 0, _ => rfl
  | i + 1, hi => by
    unfold posL
    rw [posL_congr h i (by omega)]
    have := h i (by omega)
    by_cases h0 : 0 < nthI fr i
    · rw [if_pos h0, if_pos (this.1 h0)]
    · rw [if_neg h0, if_neg (fun e => h0 (this.2 e))]
theorem ask_times {fr : List Int} {c : Nat} (hc : 1 ≤ c) (hc2 : c ≤ 256) (hm : ∀ i, i < fr.length → nthI fr i ≤ 1048576) (most : Int) : askE (timesL fr c fr.length) most = askE fr most := by
  have hb : ((timesL fr c fr.length).any badX = true) ↔ (fr.any badX = true) := by
    rw [any_bad, any_bad, timesL_len]
    refine exists_congr fun i => and_congr_right fun hi => ?_
    rw [timesL_nth _ _ _ _ hi]
    have := hm i hi
    generalize nthI fr i = x at *
    unfold badX
    rw [decide_eq_true_iff, decide_eq_true_iff]
    by_cases hx : x < 0
    · have e : max x (-1) = -1 := by omega
      rw [e]
      have : (-1 : Int) * (c : Int) = -(c : Int) := by omega
      omega
    · have e : max x (-1) = x := by omega
      rw [e]
      have h1 : 0 ≤ x * (c : Int) := Int.mul_nonneg (by omega) (by omega)
      have h2 : x * (c : Int) ≤ 1048576 * 256 := Int.mul_le_mul (by omega) (by omega) (by omega) (by omega)
      omega
  have hp : posL (timesL fr c fr.length) fr.length = posL fr fr.length := by
    refine (posL_congr (n := fr.length) (fun i hi => ?_) _ (Nat.le_refl _)).symm
    rw [timesL_nth _ _ _ _ hi]
    generalize nthI fr i = x at *
    by_cases hx : 0 < x
    · have e : max x (-1) = x := by omega
      rw [e]
      exact ⟨fun _ => Int.mul_pos hx (by omega), fun _ => hx⟩
    · refine ⟨fun h => absurd h hx, fun h => ?_⟩
      have : max x (-1) * (c : Int) ≤ 0 := Int.mul_nonpos_of_nonpos_of_nonneg (by omega) (by omega)
      omega
  unfold askE
  rw [timesL_len, hp]
  simp only [hb]
theorem out_times {fr ys zs : List Int} {c L : Nat} (hc : 1 ≤ c) (h0 : ∀ i, i < fr.length → 0 ≤ nthI fr i) (hI : Items fr ys) (hz : Items (timesL fr c fr.length) zs) : outL (timesL fr c fr.length) zs L = outL fr ys L := by
  have hn : ∀ i, nthI (timesL fr c fr.length) i = (c : Int) * nthI fr i := fun i => by
    by_cases hi : i < fr.length
    · rw [timesL_nth _ _ _ _ hi, show max (nthI fr i) (-1) = nthI fr i by have := h0 i hi; omega, Int.mul_comm]
    · have e1 : nthI fr i = 0 := by unfold nthI; rw [List.getElem?_eq_none (by omega)]; rfl
      have e2 : nthI (timesL fr c fr.length) i = 0 := by unfold nthI; rw [List.getElem?_eq_none (by rw [timesL_len]; omega)]; rfl
      rw [e1, e2]; omega
  have hs := hI.scale (c := (c : Int)) (by omega) hn (timesL_len _ _ _)
  rw [hz.uniq hs]
  refine out_scale (c := c) (by omega) (fun i => ?_) (timesL_len _ _ _) L
  rw [hn]
  by_cases hi : i < fr.length
  · have := h0 i hi
    obtain ⟨x, hx⟩ : ∃ x : Nat, nthI fr i = (x : Int) := ⟨(nthI fr i).toNat, by omega⟩
    rw [hx, ← Int.natCast_mul, Int.toNat_natCast, Int.toNat_natCast]
  · have e1 : nthI fr i = 0 := by unfold nthI; rw [List.getElem?_eq_none (by omega)]; rfl
    rw [e1]; simp

set_option maxRecDepth 100000 in
set_option maxHeartbeats 4000000 in
theorem law_bwider' (F : Option Addr) (fr : List Int) (cF : Nat) (most : Int) (by_ : Nat) (w : World) (nl : Nat) (hnl : nl = fr.length) (hF : Rd w F (ints fr)) (hlm : nl ≤ maxLen) (h1 : -9223372036854775808 ≤ most) (h2 : most ≤ 9223372036854775807) (hby : by_ < 256) (h64 : ∀ i, -9223372036854775808 ≤ nthI fr i ∧ nthI fr i ≤ 9223372036854775807) :
    Calls Try.prog 6 #[.slice F nl cF, .int .i64 most, .int .u8 (by_ : Int)] w fun e w' => e = .returned (.bool true) ∧ Below w.heap.size w w' := by
  unfold maxLen at hlm
  have HV := Lib.hid balive_any
  have HN := Lib.hid hnl
  by_cases hbig : 400 < nl
  · have d1 : decide ((nl : Int) > 400) = true := decide_eq_true (by omega)
    clear hnl
    go_enter Try.func6, Try.ntmps6
    go_wp2_with fail
    refine (HV.out _).mono ?_
    rintro e w1 ⟨rfl, b1⟩
    go_wp2_with fail
    go_ret
    exact ⟨rfl, b1⟩
  · have d1 : decide ((nl : Int) > 400) = false := decide_eq_false (by omega)
    have g1 : nl ≤ 400 := by omega
    have HQ := Lib.hid (fun m wx (h : Rd wx F (ints fr)) (h1 : -9223372036854775808 ≤ m) (h2 : m ≤ 9223372036854775807) => lengths_is F nl cF fr m wx h hnl (by omega) h1 h2)
    have HT := Lib.hid h64
    obtain ⟨c, hc⟩ : ∃ c, 1 + by_ = c := ⟨_, rfl⟩
    have ec : (1 : Int) + (by_ : Int) = (c : Int) := by omega
    have hc2 : 1 ≤ c ∧ c ≤ 256 := by omega
    clear hbig hnl h64 hc
    go_enter Try.func6, Try.ntmps6
    go_wp2_with fail
    refine (HV.out _).mono ?_
    rintro e w1 ⟨rfl, b1⟩
    have hF1 := hF.below b1
    go_wp2_with fail
    go_loopg [8, 9] nl (fun gk v8 v9 wr => ∃ (A : Option Addr) (cA i : Nat), i ≤ nl ∧ gk = nl - i ∧ v8 = .slice A i cA ∧ v9 = .int .i64 (i : Int) ∧ Builds w1 wr 3 1 A i cA (ints (timesL fr c i)) ∧ Hid (∀ j, j < i → nthI fr j ≤ 1048576))
    case atStart => exact ⟨none, 0, 0, by omega, rfl, rfl, rfl, Builds.nil_ _ _ _, Lib.hid (fun j h => by omega)⟩
    case round =>
      obtain ⟨A, cA, i, hi, hgk, rfl, rfl, hB, HJ⟩ := hrel
      have HG := Lib.hid hgk
      clear hgk
      by_cases hlt : i < nl
      · have hlt' : (i : Int) < (nl : Int) := by omega
        obtain ⟨b, off, rfl, hcell⟩ := (hF1.below hB.1).at_ (by rw [ints_length]; have := HN.out; omega)
        have ci := hcell i _ (ints_get fr i (by have := HN.out; omega))
        have h64 := HT.out i
        obtain ⟨x, hx⟩ : ∃ x, nthI fr i = x := ⟨_, rfl⟩
        rw [hx] at ci h64
        have HX := Lib.hid hx
        clear hx hcell
        by_cases hbig : 1048576 < x
        · have e1 : decide (x > 1048576) = true := decide_eq_true hbig
          have hbb := b1.trans (hB.1.mono b1.size)
          go_wp2_with fail
          go_ret
          exact ⟨rfl, hbb⟩
        · have e1 : decide (x > 1048576) = false := decide_eq_false hbig
          have HJ2 := Lib.hid (show ∀ j, j < i + 1 → nthI fr j ≤ 1048576 from fun j hj => by
            by_cases e : j = i
            · subst e; rw [HX.out]; omega
            · exact HJ.out j (by omega))
          obtain ⟨z, hz⟩ : ∃ z, max x (-1) * (c : Int) = z := ⟨_, rfl⟩
          have hz2 : -256 ≤ z ∧ z ≤ 268435456 := by
            rw [← hz]
            have hm1 : -1 ≤ max x (-1) := by omega
            have hm2 : max x (-1) ≤ 1048576 := by omega
            constructor
            · have h3 : (-1) * (c : Int) ≤ max x (-1) * (c : Int) := Int.mul_le_mul_of_nonneg_right hm1 (by omega)
              omega
            · exact Int.le_trans (Int.mul_le_mul_of_nonneg_right hm2 (by omega)) (Int.mul_le_mul_of_nonneg_left (by omega : (c : Int) ≤ 256) (by omega))
          have HY := Lib.hid (show ints (timesL fr c i) ++ ints [z] = ints (timesL fr c (i + 1)) by rw [timesL_succ, HX.out, hz, ints_append])
          by_cases hx1 : x < -1
          case' pos => replace hz : -(c : Int) = z := by rw [← hz, show max x (-1) = -1 by omega]; omega
          case' neg => replace hz : x * (c : Int) = z := by rw [← hz, show max x (-1) = x by omega]
          all_goals
            go_wp2_with (at_builtin; refine grow elem_num rfl (.tmp 37) (.tmp 47) rfl rfl (hB.alloc _) rfl (Rd.new' _ _ _ (ints [z]) _ (by simp) rfl) rfl (ints_one _) (i + 1) rfl (ints (timesL fr c (i + 1))) HY.out (by omega) (by omega) ?_; intro A2 c2 w2 hB2 hg2)
            go_roundg (nl - (i + 1))
            case measure => have := HG.out; omega
            case rel => exact ⟨A2, c2, i + 1, by omega, rfl, rfl, by go_num, hB2, HJ2⟩
      · obtain rfl : nl = i := by omega
        have hlt' : ¬ (nl : Int) < (nl : Int) := by omega
        have hm := HJ.out
        rw [HN.out] at hm
        have hask := fun m => ask_times hc2.1 hc2.2 hm m
        have HB := Lib.hid (fun wx (b : Below wr.heap.size wr wx) => lengths_is A nl cA (timesL fr c nl) most wx (hB.rd.below b) (timesL_len _ _ _).symm (by omega) h1 h2)
        have hbw := b1.trans (hB.1.mono b1.size)
        have hFw := hF1.below hB.1
        have HA := Lib.hid (fun m => show askE (timesL fr c nl) m = askE fr m from by rw [HN.out]; exact hask m)
        have HO := Lib.hid (fun (h0 : ∀ i, i < fr.length → 0 ≤ nthI fr i) (ys zs : List Int) (L : Nat) (hI : Items fr ys) (hz : Items (timesL fr c nl) zs) => show outL (timesL fr c nl) zs L = outL fr ys L from by
          have e := HN.out
          rw [e] at hz ⊢
          exact out_times hc2.1 h0 hI hz)
        have hTl := timesL_len fr c nl
        have HTl := Lib.hid hTl
        generalize timesL fr c nl = gr at *
        clear hm hask HJ HG hlt hi hB hF1 hF hTl
        go_wp2_with fail
        refine (HQ.out most _ hFw h1 h2).mono ?_
        rintro e w2 (⟨hE, rfl, b2⟩ | ⟨hE, B, cB, ys, hI, hyl, rfl, hB⟩)
        · have hne : (((askE fr most : Nat) : Int) != 0) = true := by rw [bne_iff_ne]; omega
          have hb2 := hbw.trans (b2.mono hbw.size)
          have HB2 := HB.out w2 b2
          have HAm := HA.out most
          have hE2 : askE gr most ≠ 0 := by rw [HAm]; exact hE
          have HR := Lib.hid (fun w' e (h : LenRes w2 w' e gr most) => show e = .returned (.tuple #[.slice none 0 0, .int .i64 (askE fr most : Nat)]) ∧ Below w2.heap.size w2 w' from by
            rcases h with ⟨_, he, hb⟩ | ⟨he, _⟩
            · rw [HAm] at he; exact ⟨he, hb⟩
            · exact absurd he hE2)
          have HB3 := Lib.hid HB2
          clear hE hE2 HAm HB2
          generalize askE fr most = E at *
          go_wp2_with fail
          refine (HB3.out).mono ?_
          rintro e w3 h3
          obtain ⟨rfl, b3⟩ := HR.out _ _ h3
          go_wp2_with fail
          go_ret
          exact ⟨rfl, hb2.trans (b3.mono hb2.size)⟩
        · have hb2 := hbw.trans (hB.1.mono hbw.size)
          have hF2 := hFw.below hB.1
          obtain ⟨a1, a2, a3, a4, a5⟩ := askE_ok hE
          obtain ⟨L, rfl⟩ : ∃ L : Nat, most = (L : Int) := ⟨most.toNat, by omega⟩
          rw [Int.toNat_natCast] at hB a5
          rw [← HN.out] at hB ⊢
          have hL1 : 1 ≤ L := by omega
          have hL15 : L ≤ 15 := by omega
          have hn2 : ys.length ≤ 2 ^ L := by omega
          have hEg : askE gr L = 0 := by rw [HA.out]; exact hE
          have HR := Lib.hid (fun w' e (h : LenRes w2 w' e gr L) => show ∃ C cC, e = .returned (.tuple #[.slice C nl cC, .int .i64 0]) ∧ Builds w2 w' 5 1 C nl cC (u8s (outL fr ys L)) from by
            rcases h with ⟨he, _⟩ | ⟨_, C, cC, zs, hz, _, he, hBz⟩
            · exact absurd hEg he
            · rw [HTl.out] at he hBz
              rw [Int.toNat_natCast, HO.out (fun i hi => (a4 i hi).1) ys zs L hI hz] at hBz
              exact ⟨C, cC, he, hBz⟩)
          have HB3 := Lib.hid (HB.out w2 hB.1)
          have hlb : ∀ x ∈ outL fr ys L, x < 256 := fun x hx => by
            obtain ⟨i, hi, rfl⟩ := List.mem_map.1 hx
            have := out_le hI hL1 hn2 i (by simpa using hi)
            omega
          have hln : nl = (outL fr ys L).length := by rw [outL_length]; exact HN.out
          obtain ⟨L1, hL1'⟩ : ∃ L1, L + 1 = L1 := ⟨_, rfl⟩
          have eL1 : (L : Int) + 1 = (L1 : Int) := by omega
          have HQ3 := Lib.hid (fun wx (h : Rd wx F (ints fr)) => show (L = 15 → Calls Try.prog 9 #[.slice F nl cF, .int .i64 (L1 : Int)] wx fun e w' => e = .returned (.tuple #[.slice none 0 0, .int .i64 2]) ∧ Below wx.heap.size wx w') ∧
              (L ≠ 15 → Calls Try.prog 9 #[.slice F nl cF, .int .i64 (L1 : Int)] wx fun e w' => ∃ D cD, e = .returned (.tuple #[.slice D nl cD, .int .i64 0]) ∧ Builds wx w' 5 1 D nl cD (u8s (outL fr ys L1))) from by
            have hq := HQ.out (L1 : Int) wx h (by omega) (by omega)
            refine ⟨fun h15 => hq.mono ?_, fun h15 => hq.mono ?_⟩
            · have e16 : askE fr (L1 : Int) = 2 := by unfold askE; rw [if_pos (by omega)]
              rintro e w' (⟨_, he, hb⟩ | ⟨he, _⟩)
              · rw [e16] at he; exact ⟨he, hb⟩
              · omega
            · have e0 : askE fr (L1 : Int) = 0 := by
                unfold askE
                rw [if_neg (by omega), if_neg (by omega), if_neg (by
                  rw [any_bad]
                  rintro ⟨i, hi, hb⟩
                  have := a4 i hi
                  unfold badX at hb
                  have := of_decide_eq_true hb
                  omega), if_neg]
                rw [Int.toNat_natCast, ← hL1', Nat.pow_succ]
                omega
              rintro e w' (⟨he, _⟩ | ⟨_, D, cD, zs, hz, _, he, hBz⟩)
              · exact absurd e0 he
              · rw [← HN.out] at he hBz
                rw [Int.toNat_natCast, hz.uniq hI] at hBz
                exact ⟨D, cD, he, hBz⟩)
          have hmo := may_out hI hL1 hn2 hL15
          have HC := Lib.hid (fun (h15 : L ≠ 15) => cost_out (L := L1) hI (by omega) (by rw [← hL1', Nat.pow_succ]; omega) (by omega) (o := outL fr ys L) ⟨hmo.1, fun i hi => ⟨by have := (hmo.2.1 i hi).1; omega, (hmo.2.1 i hi).2⟩, hmo.2.2⟩)
          have hlb1 : L ≠ 15 → ∀ x ∈ outL fr ys L1, x < 256 := fun h15 x hx => by
            obtain ⟨i, hi, rfl⟩ := List.mem_map.1 hx
            have := out_le (L := L1) hI (by omega) (by rw [← hL1', Nat.pow_succ]; omega) i (by simpa using hi)
            omega
          have hln1 : nl = (outL fr ys L1).length := by rw [outL_length]; exact HN.out
          rw [← HN.out] at HC
          have HL := Lib.hid (And.intro hlb (And.intro hln (And.intro hlb1 (And.intro hln1 a4))))
          clear hI hyl hE hEg hmo hlb hln hlb1 hln1 a1 a2 a3 a4 a5 hn2 hL1' HB HA HO HQ hFw hbw
          generalize outL fr ys L = o at *
          generalize outL fr ys L1 = o1 at *
          go_wp2_with fail
          refine (HB3.out).mono ?_
          rintro e w3 h3
          obtain ⟨C, cC, rfl, hC⟩ := HR.out _ _ h3
          have hb3 := hb2.trans (hC.1.mono hb2.size)
          have hF3 := hF2.below hC.1
          have hB3 := rd_u8 (hB.below hC.1).rd HL.out.1
          have hC3 := rd_u8 hC.rd HL.out.1
          have hcv1 := conv_bytes (P := Try.prog) w3 24 5 Try.underlying24 Try.underlying5 9 Try.underlying9 B o cB hB3 (fun e => by have := (hB.below hC.1).rd.2 e; simpa [u8s] using this)
          have hcv2 := conv_bytes (P := Try.prog) w3 24 5 Try.underlying24 Try.underlying5 9 Try.underlying9 C o cC hC3 (fun e => by have := hC.rd.2 e; simpa [u8s] using this)
          rw [← HL.out.2.1] at hcv1 hcv2
          clear HB3 HR h3
          by_cases h15 : L = 15
          · have e15 : ((L : Int) == 15) = true := by rw [beq_iff_eq]; omega
            have HQ4 := Lib.hid ((HQ3.out w3 hF3).1 h15)
            clear HQ3 h15
            go_wp2_with fail
            refine (HQ4.out).mono ?_
            rintro e w4 ⟨rfl, hb4⟩
            go_wp2_with fail
            go_ret
            exact ⟨rfl, hb3.trans (hb4.mono hb3.size)⟩
          · have e15 : ((L : Int) == 15) = false := by rw [beq_eq_false_iff_ne]; omega
            have HQ4 := Lib.hid ((HQ3.out w3 hF3).2 h15)
            have hle := HC.out h15
            have hlb1 := HL.out.2.2.1 h15
            clear HQ3 HC
            go_wp2_with fail
            refine (HQ4.out).mono ?_
            rintro e w4 ⟨D, cD, rfl, hD⟩
            have hb4 := hb3.trans (hD.1.mono hb3.size)
            have hF4 := hF3.below hD.1
            have hB4 := hB3.below hD.1
            have HCa := Lib.hid (cost_is F nl cF fr D cD o1 w4 hF4 (rd_u8 hD.rd hlb1) HN.out HL.out.2.2.2.1 (by omega) HL.out.2.2.2.2)
            have HCb := Lib.hid (fun q => cost_is F nl cF fr B cB o (w4.drewN q) (hF4.drewN q) ⟨hB4.1, hB4.2⟩ HN.out HL.out.2.1 (by omega) HL.out.2.2.2.2)
            generalize costL fr o1 nl = s1 at *
            generalize costL fr o nl = s2 at *
            have hd : decide ((s1 : Int) ≤ (s2 : Int)) = true := decide_eq_true (by omega)
            clear hcv1 hcv2
            go_wp2_with fail
            refine (HCa.out).mono ?_
            rintro e w6 ⟨rfl, q, rfl⟩
            go_wp2_with fail
            refine (HCb.out _).mono ?_
            rintro e w7 ⟨rfl, q2, rfl⟩
            go_wp2_with fail
            go_ret
            exact ⟨rfl, below_drewN' hb4 _⟩

theorem law_bwider (F : Option Addr) (fr : List Int) (cF : Nat) (most : Int) (by_ : Nat) (w : World) (hF : InIs w F cF fr) (h1 : -9223372036854775808 ≤ most) (h2 : most ≤ 9223372036854775807) (hby : by_ < 256) :
    Calls Try.prog 6 #[.slice F fr.length cF, .int .i64 most, .int .u8 (by_ : Int)] w fun e w' => e = .returned (.bool true) ∧ Below w.heap.size w w' :=
  law_bwider' F fr cF most by_ w _ rfl hF.rd hF.len h1 h2 hby hF.in64
end Go.Proofs.Ytolcekbldpdmpaa
