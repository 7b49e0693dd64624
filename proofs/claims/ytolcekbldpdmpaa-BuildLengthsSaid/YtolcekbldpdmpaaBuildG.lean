/-
  Walks: the document's Asked, Items.
-/
import Derived.Test.YtolcekbldpdmpaaBuildE
import Derived.Deep.CutRange
namespace Go.Proofs.Ytolcekbldpdmpaa
open Go.RowKit

set_option maxRecDepth 100000 in
set_option maxHeartbeats 4000000 in
theorem rasked_is (F : Option Addr) (nf cF : Nat) (fr : List Int) (most : Int) (w : World) (hF : Rd w F (ints fr)) (hn : nf = fr.length) (hs : nf ≤ 1000000) (h1 : -9223372036854775808 ≤ most) (h2 : most ≤ 9223372036854775807) :
    Calls Try.prog 11 #[.slice F nf cF, .int .i64 most] w fun e w' => e = .returned (.int .i64 (askE fr most : Nat)) ∧ w' = w := by
  have HN := Lib.hid hn
  have hfl : fr.length ≤ 1000000 := by omega
  clear hn
  by_cases hm : most < 1 ∨ 15 < most
  · have hE : askE fr most = 2 := by unfold askE; rw [if_pos hm]
    have hcases : most < 1 ∨ (¬ most < 1 ∧ 15 < most) := by omega
    clear hm
    rw [hE]
    rcases hcases with hm | ⟨hm, hm2⟩
    case' inl => have d1 : decide (most < 1) = true := decide_eq_true hm
    case' inr =>
      have d1 : decide (most < 1) = false := decide_eq_false hm
      have d2 : decide (most > 15) = true := decide_eq_true hm2
    all_goals
      go_enter Try.func11, Try.ntmps11
      go_wp2_with fail
      go_ret
      exact ⟨rfl, rfl⟩
  · obtain ⟨L, rfl⟩ : ∃ L : Nat, most = (L : Int) := ⟨most.toNat, by omega⟩
    have hL : 1 ≤ L ∧ L ≤ 15 := by omega
    have d1 : decide ((L : Int) < 1) = false := decide_eq_false (by omega)
    have d2 : decide ((L : Int) > 15) = false := decide_eq_false (by omega)
    by_cases h3 : 320 < nf
    · have hE : askE fr L = 4 := by unfold askE; rw [if_neg hm, if_pos (by have := HN.out; omega)]
      have d3 : decide ((nf : Int) > 320) = true := decide_eq_true (by omega)
      rw [hE]
      go_enter Try.func11, Try.ntmps11
      go_wp2_with fail
      go_ret
      exact ⟨rfl, rfl⟩
    · have d3 : decide ((nf : Int) > 320) = false := decide_eq_false (by omega)
      have HE := Lib.hid (show askE fr L = if fr.any badX = true then 2 else if 2 ^ L < (posL fr fr.length).length then 4 else 0 from by unfold askE; rw [if_neg hm, if_neg (by have := HN.out; omega), Int.toNat_natCast])
      clear hm
      generalize askE fr L = E at *
      go_enter Try.func11, Try.ntmps11
      go_wp2_with fail
      go_loopg [5, 6] nf (fun gk v5 v6 wr => ∃ i : Nat, i ≤ nf ∧ gk = nf - i ∧ v6 = .int .i64 (i : Int) ∧ v5 = .int .i64 ((posL fr i).length : Nat) ∧ wr = w ∧ Hid (∀ j, j < i → badX (nthI fr j) = false))
      case atStart => exact ⟨0, by omega, rfl, rfl, rfl, rfl, Lib.hid (fun j h => by omega)⟩
      case round =>
        obtain ⟨i, hi, hgk, rfl, rfl, rfl, HO⟩ := hrel
        have HG := Lib.hid hgk
        clear hgk
        by_cases hlt : i < nf
        · have hlt' : (i : Int) < (nf : Int) := by omega
          have hil : i < fr.length := by have := HN.out; omega
          obtain ⟨b, off, rfl, hcell⟩ := hF.at_ (by rw [ints_length]; omega)
          have ci := hcell i _ (ints_get fr i hil)
          have hpl := posL_len fr i
          have hps : (posL fr (i + 1)).length = (posL fr i).length + if 0 < nthI fr i then 1 else 0 := by
            conv => lhs; unfold posL
            split <;> simp
          obtain ⟨x, hx⟩ : ∃ x, nthI fr i = x := ⟨_, rfl⟩
          rw [hx] at ci hps
          have HX := Lib.hid hx
          clear hcell hx
          by_cases hb : x < 0 ∨ 1073741824 < x
          · have hany : fr.any badX = true := by
              rw [List.any_eq_true]
              refine ⟨x, ?_, by unfold badX; exact decide_eq_true hb⟩
              rw [← HX.out, nthI_el hil]; exact List.getElem_mem hil
            have hE := HE.out
            rw [if_pos hany] at hE
            have hcases : x < 0 ∨ (¬ x < 0 ∧ 1073741824 < x) := by omega
            have HE2 := Lib.hid hE
            clear hb hany hE hps
            rcases hcases with hb | ⟨hb, hb2⟩
            case' inl => have e1 : decide (x < 0) = true := decide_eq_true hb
            case' inr =>
              have e1 : decide (x < 0) = false := decide_eq_false hb
              have e2 : decide (x > 1073741824) = true := decide_eq_true hb2
            all_goals
              go_wp2_with fail
              go_ret
              exact ⟨by rw [HE2.out]; rfl, rfl⟩
          · have e1 : decide (x < 0) = false := decide_eq_false (by omega)
            have e2 : decide (x > 1073741824) = false := decide_eq_false (by omega)
            have HGd := Lib.hid (show ∀ j, j < i + 1 → badX (nthI fr j) = false from fun j hj => by
              by_cases e : j = i
              · subst e; rw [HX.out]; unfold badX; exact decide_eq_false hb
              · exact HO.out j (by omega))
            clear hb HO
            obtain ⟨s, hs2⟩ : ∃ s, (posL fr i).length = s := ⟨_, rfl⟩
            obtain ⟨s1, hs1⟩ : ∃ s1, (posL fr (i + 1)).length = s1 := ⟨_, rfl⟩
            rw [hs2] at hpl hps ⊢
            rw [hs1] at hps
            have HS1 := Lib.hid hs1
            clear hs1 hs2
            by_cases h0 : 0 < x
            · have e3 : decide (x > 0) = true := decide_eq_true h0
              rw [if_pos h0] at hps
              have HPS := Lib.hid hps
              clear hps
              go_wp2_with fail
              go_roundg (nf - (i + 1))
              case measure => have := HG.out; omega
              case rel => exact ⟨i + 1, by omega, rfl, by go_num, by rw [HS1.out, HPS.out]; go_num, rfl, HGd⟩
            · have e3 : decide (x > 0) = false := decide_eq_false h0
              rw [if_neg h0] at hps
              have HPS := Lib.hid hps
              clear hps
              go_wp2_with fail
              go_roundg (nf - (i + 1))
              case measure => have := HG.out; omega
              case rel => exact ⟨i + 1, by omega, rfl, by go_num, by rw [HS1.out, HPS.out]; rfl, rfl, HGd⟩
        · obtain rfl : nf = i := by omega
          have hlt' : ¬ (nf : Int) < (nf : Int) := by omega
          have hany : ¬ fr.any badX = true := by
            rw [List.any_eq_true]
            rintro ⟨x, hx, hb⟩
            obtain ⟨j, hj, rfl⟩ := List.getElem_of_mem hx
            have := HO.out j (by have := HN.out; omega)
            rw [nthI_el hj] at this
            rw [this] at hb; cases hb
          have hE := HE.out
          rw [if_neg hany, ← HN.out] at hE
          have hpl := posL_len fr nf
          obtain ⟨M, hM⟩ : ∃ M, (posL fr nf).length = M := ⟨_, rfl⟩
          rw [hM] at hE hpl ⊢
          have HE2 := Lib.hid hE
          clear hE hany HO HG hlt hi hM HE
          go_wp2_with fail
          go_loopg [7, 8] L (fun gk v7 v8 wr' => ∃ k P : Nat, k ≤ L ∧ gk = L - k ∧ v8 = .int .i64 (k : Int) ∧ v7 = .int .i64 (P : Int) ∧ P ≤ 32768 ∧ wr' = wr ∧ Hid (P = 2 ^ k))
          case atStart => exact ⟨0, 1, by omega, rfl, rfl, rfl, by omega, rfl, Lib.hid rfl⟩
          case round =>
            obtain ⟨k, P, hk, hgk, rfl, rfl, hP2, rfl, HP⟩ := hrel
            have HG := Lib.hid hgk
            clear hgk
            by_cases hlt : k < L
            · have hlt' : (k : Int) < (L : Int) := by omega
              obtain ⟨P2, hP2'⟩ : ∃ P2, 2 * P = P2 := ⟨_, rfl⟩
              have eP : (2 : Int) * (P : Int) = (P2 : Int) := by omega
              have hP3 : P2 = 2 ^ (k + 1) := by rw [← hP2', HP.out, Nat.pow_succ, Nat.mul_comm]
              have hP4 : P2 ≤ 32768 := by rw [hP3]; exact Nat.le_trans (Nat.pow_le_pow_right (n := 2) (by omega) (show k + 1 ≤ 15 by omega)) (by decide)
              have HP3 := Lib.hid hP3
              clear hP3 hP2'
              go_wp2_with fail
              go_roundg (L - (k + 1))
              case measure => have := HG.out; omega
              case rel => exact ⟨k + 1, P2, by omega, rfl, by go_num, by go_num, hP4, rfl, HP3⟩
            · obtain rfl : L = k := by omega
              have hlt' : ¬ (L : Int) < (L : Int) := by omega
              have hE := HE2.out
              rw [← HP.out] at hE
              by_cases hMP : P < M
              · have e1 : decide ((M : Int) > (P : Int)) = true := decide_eq_true (by omega)
                rw [if_pos hMP] at hE
                have HE3 := Lib.hid hE
                clear hE
                go_wp2_with fail
                go_ret
                exact ⟨by rw [HE3.out]; rfl, rfl⟩
              · have e1 : decide ((M : Int) > (P : Int)) = false := decide_eq_false (by omega)
                rw [if_neg hMP] at hE
                have HE3 := Lib.hid hE
                clear hE
                go_wp2_with fail
                go_ret
                exact ⟨by rw [HE3.out]; rfl, rfl⟩

theorem Rd.tail {w : World} {g : Nat} {xs : List Value} (h : Rd w (some ⟨g, 0, none⟩) xs) (t : Nat) : Rd w (some ⟨g, t, none⟩) (xs.drop t) := by
  have := h.drop t
  simp only [Option.map_some, add_plain, Nat.zero_add] at this
  exact this
theorem Rd.empty (w : World) (A : Option Addr) : Rd w A [] := ⟨fun hn => by simp at hn, fun _ => rfl⟩

set_option maxRecDepth 100000 in
set_option maxHeartbeats 4000000 in
theorem ritems_is (F : Option Addr) (nf cF : Nat) (fr : List Int) (w : World) (hF : Rd w F (ints fr)) (hn : nf = fr.length) (hs : nf ≤ 1000000) :
    Calls Try.prog 24 #[.slice F nf cF] w fun e w' => ∃ A c ys, e = .returned (.slice A ys.length c) ∧ Builds w w' 3 1 A ys.length c (ints ys) ∧ Items fr ys := by
  have HN := Lib.hid hn
  clear hn
  go_enter Try.func24, Try.ntmps24
  go_wp2_with fail
  go_loopg [3, 4] nf (fun gk v3 v4 wr => ∃ (A : Option Addr) (c i n : Nat) (out : List Int), i ≤ nf ∧ gk = nf - i ∧ v4 = .int .i64 (i : Int) ∧ v3 = .slice A n c ∧ Builds w wr 3 1 A n c (ints out) ∧ n ≤ i ∧ Hid (ItemsN fr i out ∧ n = out.length))
  case atStart => exact ⟨none, 0, 0, 0, [], by omega, rfl, rfl, rfl, Builds.nil_ _ _ _, Nat.le_refl _, Lib.hid ⟨ItemsN.zero fr, rfl⟩⟩
  case round =>
    obtain ⟨A, c, i, n, out, hi, hgk, rfl, rfl, hB, hni, HO⟩ := hrel
    have HG := Lib.hid hgk
    clear hgk
    by_cases hlt : i < nf
    · have hlt' : (i : Int) < (nf : Int) := by omega
      have hil : i < fr.length := by have := HN.out; omega
      obtain ⟨b, off, rfl, hcell⟩ := (hF.below hB.1).at_ (by rw [ints_length]; omega)
      have ci := hcell i _ (ints_get fr i hil)
      obtain ⟨x, hx⟩ : ∃ x, nthI fr i = x := ⟨_, rfl⟩
      rw [hx] at ci
      have HX := Lib.hid hx
      clear hcell hx
      by_cases h0 : 0 < x
      · have e3 : decide (x ≤ 0) = false := decide_eq_false (by omega)
        have hcap := hB.cap
        have H0 := Lib.hid (show ∀ t, n ≤ t → t < out.length → nthI fr i < nthI fr (nthI out t).toNat from fun t h1 h2 => by have := HO.out.2; omega)
        go_wp2_with fail
        go_loopg [5] n (fun gt v5 wr2 => ∃ t : Nat, t ≤ n ∧ gt = t ∧ v5 = .int .i64 (t : Int) ∧ (∃ q, wr2 = wr.drewN q) ∧ Hid (∀ u, t ≤ u → u < out.length → nthI fr i < nthI fr (nthI out u).toNat))
        case atStart => exact ⟨n, Nat.le_refl _, rfl, rfl, ⟨0, rfl⟩, H0⟩
        case round =>
          clear H0
          obtain ⟨t, ht, hgt, rfl, ⟨q, hwq⟩, HU⟩ := hrel
          have HG2 := Lib.hid hgt
          clear hgt
          have hB2 : Builds w wr 3 1 A n c (ints out) := by rw [hwq]; exact hB.drewN q
          have hF2 := hF.below hB2.1
          have ci2 : wr.cell? ⟨b, off + i, none⟩ = some (.int .i64 x) := by rw [hwq]; exact ci
          have HWQ := Lib.hid hwq
          clear hwq hB ci
          obtain ⟨BB, hBB⟩ : ∃ BB, decide (0 < t ∧ x < nthI fr (nthI out (t - 1)).toNat) = BB := ⟨_, rfl⟩
          have HBB := Lib.hid hBB
          clear hBB
          go_upto_region 7 with (fail)
          go_cut [36] from 20 to 38 (fun v wx => v = .bool BB ∧ ∃ q, wx = wr.drewN q)
          case first =>
            by_cases ht0 : t = 0
            · have e1 : decide ((t : Int) > 0) = false := decide_eq_false (by omega)
              go_quiet (fail)
              go_wp2_with fail
              go_meet
              exact ⟨congrArg Value.bool ((decide_eq_false (p := 0 < t ∧ x < nthI fr (nthI out (t - 1)).toNat) (fun h => by omega)).symm.trans HBB.out), _, rfl⟩
            · have e1 : decide ((t : Int) > 0) = true := decide_eq_true (by omega)
              have e1' : decide (0 < t) = true := decide_eq_true (by omega)
              obtain ⟨u, hu⟩ : ∃ u, t - 1 = u := ⟨_, rfl⟩
              have eu : (t : Int) - 1 = (u : Int) := by omega
              have hun : u < n := by omega
              rw [hu] at HBB
              obtain ⟨g, rfl, hg1, hg2⟩ := hB2.at_ (by omega)
              have cu := Builds.cell hB2 u (by omega)
              rw [ints_get out u (by have := HO.out.2; omega)] at cu
              have hr := HO.out.1.rng (nthI out u) (by rw [nthI_el (by have := HO.out.2; omega)]; exact List.getElem_mem _)
              obtain ⟨y, hy⟩ : ∃ y : Nat, nthI out u = (y : Int) := ⟨(nthI out u).toNat, by omega⟩
              rw [hy] at cu hr HBB
              rw [Int.toNat_natCast] at HBB
              have hyf : y < fr.length := by omega
              obtain ⟨b', off', he', hcell⟩ := hF2.at_ (by rw [ints_length]; omega)
              simp only [Option.some.injEq, Addr.mk.injEq, and_true] at he'
              obtain ⟨rfl, rfl⟩ := he'
              have cy := hcell y _ (ints_get fr y hyf)
              have hyn : y < nf := by have := HN.out; omega
              generalize nthI fr y = z at *
              clear hcell hr hy hu
              by_cases hz : x < z
              · have e2 : decide (z > x) = true := decide_eq_true hz
                go_quiet (fail)
                go_wp2_with fail
                go_meet
                exact ⟨congrArg Value.bool ((decide_eq_true (p := 0 < t ∧ x < z) ⟨by omega, hz⟩).symm.trans HBB.out), _, rfl⟩
              · have e2 : decide (z > x) = false := decide_eq_false hz
                go_quiet (fail)
                go_wp2_with fail
                go_meet
                exact ⟨congrArg Value.bool ((decide_eq_false (p := 0 < t ∧ x < z) (fun h => by omega)).symm.trans HBB.out), _, rfl⟩
          case rest =>
            obtain ⟨rfl, q2, hwc⟩ := hcut
            have hB4 : Builds w wc 3 1 A n c (ints out) := by rw [hwc]; exact hB2.drewN q2
            have HWC := Lib.hid hwc
            clear hwc hB2 ci2
            cases BB
            · have hP := of_decide_eq_false HBB.out
              have hnl := HO.out.2
              have HZ := Lib.hid (show ItemsN fr (i + 1) (out.take t ++ (i : Int) :: out.drop t) from HO.out.1.put hil (by rw [HX.out]; exact h0) (by omega) (fun h1 => by rw [HX.out]; omega) HU.out)
              have HZl := Lib.hid (show n + 1 = (out.take t ++ (i : Int) :: out.drop t).length by simp; omega)
              have hTk : Rd wc A (ints (out.take t)) := by have := hB4.rd.take t; rw [show (ints out).take t = ints (out.take t) by simp [ints]] at this; exact this
              have hlt1 : (ints (out.take t)).length = t * 1 := by rw [ints_length, List.length_take]; omega
              have hlt2 : (ints (out.drop t)).length = (n - t) * 1 := by rw [ints_length, List.length_drop]; omega
              have HAp := Lib.hid (show ints (out.take t ++ [(i : Int)]) ++ ints (out.drop t) = ints (out.take t ++ (i : Int) :: out.drop t) by rw [← ints_append, List.append_assoc]; rfl)
              clear hP HU HBB
              have hways : (n = 0 ∧ c = t) ∨ (n = 0 ∧ ¬ c = t) ∨ (0 < n ∧ n = t ∧ c = t) ∨ (0 < n ∧ n = t ∧ ¬ c = t) ∨ (0 < n ∧ t < n) := by omega
              have HTl : Hid (∀ g, A = some ⟨g, 0, none⟩ → Rd wc (some ⟨g, t, none⟩) (ints (out.drop t))) := Lib.hid (fun g hg => by
                have h := hB4.rd
                rw [hg] at h
                have := h.tail t
                rw [show (ints out).drop t = ints (out.drop t) by simp [ints]] at this
                exact this)
              have HDe : Hid (n = t → out.drop t = []) := Lib.hid (fun h => List.drop_eq_nil_of_le (by omega))
              clear hnl
              rcases hways with ⟨y1, y2⟩ | ⟨y1, y2⟩ | ⟨y1, y2, y3⟩ | ⟨y1, y2, y3⟩ | ⟨y1, y2⟩
              · have HY1 := Lib.hid y1
                clear y1
                go_wp2_with (first
                  | (at_builtin; refine grow elem_num rfl (.tmp 39) (.tmp 42) rfl rfl (Builds.nil_ wc _ _) rfl hTk hlt1 (ints_one _) t (by omega) (ints (out.take t)) (by simp) (by omega) (by omega) ?_; intro A5 c5 w5 hB5 hg5)
                  | (at_builtin; have hh := hB5; clear hh; refine grow elem_num rfl (.tmp 44) (.tmp 46) rfl rfl (hB5.alloc _) rfl (Rd.new' _ _ _ (ints [(i : Int)]) _ (by simp) rfl) rfl (ints_one _) (t + 1) rfl (ints (out.take t ++ [(i : Int)])) (ints_append _ _).symm (by omega) (by omega) ?_; intro A6 c6 w6 hB6 hg6)
                  | (at_builtin; have hh := hB6; clear hh; refine grow elem_num rfl (.tmp 48) (.tmp 51) rfl rfl hB6 rfl (by rw [HDe.out (by have := HY1.out; omega)]; exact Rd.empty _ _) hlt2 (ints_one _) (n + 1) (by omega) (ints (out.take t ++ (i : Int) :: out.drop t)) HAp.out (by omega) (by omega) ?_; intro A7 c7 w7 hB7 hg7))
                go_roundg (nf - (i + 1))
                case measure => have := HG.out; omega
                case rel => exact ⟨A7, c7, i + 1, n + 1, _, by omega, rfl, by go_num, rfl, hB7.rebase hB4.1, by omega, Lib.hid ⟨HZ.out, HZl.out⟩⟩
              · have HY1 := Lib.hid y1
                clear y1
                go_wp2_with (first
                  | (at_builtin; refine grow elem_num rfl (.tmp 39) (.tmp 42) rfl rfl (Builds.nil_ wc _ _) rfl hTk hlt1 (ints_one _) t (by omega) (ints (out.take t)) (by simp) (by omega) (by omega) ?_; intro A5 c5 w5 hB5 hg5)
                  | (at_builtin; have hh := hB5; clear hh; refine grow elem_num rfl (.tmp 44) (.tmp 46) rfl rfl (hB5.alloc _) rfl (Rd.new' _ _ _ (ints [(i : Int)]) _ (by simp) rfl) rfl (ints_one _) (t + 1) rfl (ints (out.take t ++ [(i : Int)])) (ints_append _ _).symm (by omega) (by omega) ?_; intro A6 c6 w6 hB6 hg6)
                  | (at_builtin; have hh := hB6; clear hh; refine grow elem_num rfl (.tmp 48) (.tmp 51) rfl rfl hB6 rfl (by rw [HDe.out (by have := HY1.out; omega)]; exact Rd.empty _ _) hlt2 (ints_one _) (n + 1) (by omega) (ints (out.take t ++ (i : Int) :: out.drop t)) HAp.out (by omega) (by omega) ?_; intro A7 c7 w7 hB7 hg7))
                go_roundg (nf - (i + 1))
                case measure => have := HG.out; omega
                case rel => exact ⟨A7, c7, i + 1, n + 1, _, by omega, rfl, by go_num, rfl, hB7.rebase hB4.1, by omega, Lib.hid ⟨HZ.out, HZl.out⟩⟩
              · obtain ⟨g, rfl, hg1, hg2⟩ := hB4.at_ y1
                have HY1 := Lib.hid y2
                clear y2
                go_wp2_with (first
                  | (at_builtin; refine grow elem_num rfl (.tmp 39) (.tmp 42) rfl rfl (Builds.nil_ wc _ _) rfl hTk hlt1 (ints_one _) t (by omega) (ints (out.take t)) (by simp) (by omega) (by omega) ?_; intro A5 c5 w5 hB5 hg5)
                  | (at_builtin; have hh := hB5; clear hh; refine grow elem_num rfl (.tmp 44) (.tmp 46) rfl rfl (hB5.alloc _) rfl (Rd.new' _ _ _ (ints [(i : Int)]) _ (by simp) rfl) rfl (ints_one _) (t + 1) rfl (ints (out.take t ++ [(i : Int)])) (ints_append _ _).symm (by omega) (by omega) ?_; intro A6 c6 w6 hB6 hg6)
                  | (at_builtin; have hh := hB6; clear hh; refine grow elem_num rfl (.tmp 48) (.tmp 51) rfl rfl hB6 rfl (by rw [HDe.out (by have := HY1.out; omega)]; exact Rd.empty _ _) hlt2 (ints_one _) (n + 1) (by omega) (ints (out.take t ++ (i : Int) :: out.drop t)) HAp.out (by omega) (by omega) ?_; intro A7 c7 w7 hB7 hg7))
                go_roundg (nf - (i + 1))
                case measure => have := HG.out; omega
                case rel => exact ⟨A7, c7, i + 1, n + 1, _, by omega, rfl, by go_num, rfl, hB7.rebase hB4.1, by omega, Lib.hid ⟨HZ.out, HZl.out⟩⟩
              · obtain ⟨g, rfl, hg1, hg2⟩ := hB4.at_ y1
                have HY1 := Lib.hid y2
                clear y2
                go_wp2_with (first
                  | (at_builtin; refine grow elem_num rfl (.tmp 39) (.tmp 42) rfl rfl (Builds.nil_ wc _ _) rfl hTk hlt1 (ints_one _) t (by omega) (ints (out.take t)) (by simp) (by omega) (by omega) ?_; intro A5 c5 w5 hB5 hg5)
                  | (at_builtin; have hh := hB5; clear hh; refine grow elem_num rfl (.tmp 44) (.tmp 46) rfl rfl (hB5.alloc _) rfl (Rd.new' _ _ _ (ints [(i : Int)]) _ (by simp) rfl) rfl (ints_one _) (t + 1) rfl (ints (out.take t ++ [(i : Int)])) (ints_append _ _).symm (by omega) (by omega) ?_; intro A6 c6 w6 hB6 hg6)
                  | (at_builtin; have hh := hB6; clear hh; refine grow elem_num rfl (.tmp 48) (.tmp 51) rfl rfl hB6 rfl (by rw [HDe.out (by have := HY1.out; omega)]; exact Rd.empty _ _) hlt2 (ints_one _) (n + 1) (by omega) (ints (out.take t ++ (i : Int) :: out.drop t)) HAp.out (by omega) (by omega) ?_; intro A7 c7 w7 hB7 hg7))
                go_roundg (nf - (i + 1))
                case measure => have := HG.out; omega
                case rel => exact ⟨A7, c7, i + 1, n + 1, _, by omega, rfl, by go_num, rfl, hB7.rebase hB4.1, by omega, Lib.hid ⟨HZ.out, HZl.out⟩⟩
              · obtain ⟨g, rfl, hg1, hg2⟩ := hB4.at_ y1
                have hct : ¬ c = t := by omega
                go_wp2_with (first
                  | (at_builtin; refine grow elem_num rfl (.tmp 39) (.tmp 42) rfl rfl (Builds.nil_ wc _ _) rfl hTk hlt1 (ints_one _) t (by omega) (ints (out.take t)) (by simp) (by omega) (by omega) ?_; intro A5 c5 w5 hB5 hg5)
                  | (at_builtin; have hh := hB5; clear hh; refine grow elem_num rfl (.tmp 44) (.tmp 46) rfl rfl (hB5.alloc _) rfl (Rd.new' _ _ _ (ints [(i : Int)]) _ (by simp) rfl) rfl (ints_one _) (t + 1) rfl (ints (out.take t ++ [(i : Int)])) (ints_append _ _).symm (by omega) (by omega) ?_; intro A6 c6 w6 hB6 hg6)
                  | (at_builtin; have hh := hB6; clear hh; refine grow elem_num rfl (.tmp 48) (.tmp 51) rfl rfl hB6 rfl ((HTl.out g rfl).below hB6.1) hlt2 (ints_one _) (n + 1) (by omega) (ints (out.take t ++ (i : Int) :: out.drop t)) HAp.out (by omega) (by omega) ?_; intro A7 c7 w7 hB7 hg7))
                go_roundg (nf - (i + 1))
                case measure => have := HG.out; omega
                case rel => exact ⟨A7, c7, i + 1, n + 1, _, by omega, rfl, by go_num, rfl, hB7.rebase hB4.1, by omega, Lib.hid ⟨HZ.out, HZl.out⟩⟩
            · have hP := of_decide_eq_true HBB.out
              obtain ⟨u, hu⟩ : ∃ u, t = u + 1 := ⟨t - 1, by omega⟩
              have eu : (t : Int) - 1 = (u : Int) := by omega
              have HU2 := Lib.hid (show ∀ v, u ≤ v → v < out.length → nthI fr i < nthI fr (nthI out v).toNat from fun v h1 h2 => by
                by_cases e : v = u
                · subst e; rw [HX.out]; have := hP.2; rw [hu] at this; exact this
                · exact HU.out v (by omega) h2)
              clear hP HU HBB
              go_wp2_with fail
              go_roundg u
              case measure => have := HG2.out; omega
              case rel => exact ⟨u, by omega, rfl, by go_num, ⟨q + q2, by rw [HWC.out, HWQ.out, World.drewN_drewN]⟩, HU2⟩
      · have e3 : decide (x ≤ 0) = true := decide_eq_true (by omega)
        have HO2 := Lib.hid (And.intro (HO.out.1.skip (by rw [HX.out]; exact h0)) HO.out.2)
        go_wp2_with fail
        go_roundg (nf - (i + 1))
        case measure => have := HG.out; omega
        case rel => exact ⟨A, c, i + 1, n, out, by omega, rfl, by go_num, rfl, hB, by omega, HO2⟩
    · obtain rfl : nf = i := by omega
      have hlt' : ¬ (nf : Int) < (nf : Int) := by omega
      go_wp2_with fail
      go_ret
      obtain ⟨o1, o2⟩ := HO.out
      subst o2
      refine ⟨A, c, out, rfl, hB, ?_⟩
      rw [HN.out] at o1
      exact o1.full
end Go.Proofs.Ytolcekbldpdmpaa
