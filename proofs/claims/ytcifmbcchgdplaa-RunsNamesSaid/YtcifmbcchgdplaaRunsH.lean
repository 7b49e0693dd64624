/-
  is, alive; the laws RunsBack and RunsCount, walked.
-/
import Derived.Test.YtcifmbcchgdplaaRunsG
import Derived.Test.YtcifmbcchgdplaaRunsP
namespace Go.Proofs.Ytcifmbcchgdplaa
open Go.RowKit

set_option maxHeartbeats 1000000 in
theorem is_any (A B : Option Addr) (c d nl nm : Nat) (l : List Nat) (m : List (Int × Int)) (w : World) (hl : Bs w A l) (hB : Rd w B (runV m)) (hnl : nl = l.length) (hnm : nm = m.length) (hm : l.length ≤ 1000) (h0 : sqE l = 0) (h1 : sq l = m) :
    Calls Try.prog 15 #[.slice A nl c, .slice B nm d] w fun e w' => e = .returned (.bool true) ∧ Below w.heap.size w w' := by
  subst hnl hnm
  have hsl := sq_len l
  have HQ := Lib.hid fun w h => sq_any A c l w h hm
  simp only [SqRes] at HQ
  rw [h0, h1] at HQ
  rw [h1] at hsl
  clear h0 h1
  go_enter Try.func15, Try.ntmps15
  go_wp2_with fail
  refine (HQ.out _ hl).mono ?_
  rintro e w1 ⟨C, f, rfl, hC⟩
  have hB1 := hB.below hC.1
  have hC1 := hC.rd
  go_wp2_with fail
  go_loopg [7] m.length (fun gk v wr => ∃ n : Nat, n ≤ m.length ∧ gk = m.length - n ∧ v = .int .i64 n ∧ ∃ q, wr = w1.drewN q)
  case atStart => exact ⟨0, by omega, by omega, rfl, 0, rfl⟩
  case round =>
    obtain ⟨n, h2, hk, rfl, q, rfl⟩ := hrel
    by_cases hlt : n < m.length
    · obtain ⟨b, off, rfl, hc1, hc2⟩ := hC1.pair hlt
      obtain ⟨b', off', rfl, hd1, hd2⟩ := hB1.pair hlt
      generalize m[n] = r at *
      obtain ⟨s, x⟩ := r
      dsimp only at *
      go_wp2_with fail
      go_quiet (fail)
      go_wp2_with fail
      go_roundg (m.length - (n + 1))
      case measure => omega
      case rel => exact ⟨n + 1, by omega, by omega, by go_num, _, rfl⟩
    · go_wp2_with fail
      go_ret
      exact ⟨rfl, below_drewN' hC.1 _⟩

set_option maxHeartbeats 1000000 in
theorem alive_any (w : World) : Calls Try.prog 16 #[] w fun e w' => e = .returned (.bool true) ∧ Below w.heap.size w w' := by
  obtain ⟨l, hl⟩ : ∃ l, l = [5, 5, 5, 5, 0, 0, 0, 7] := ⟨_, rfl⟩
  obtain ⟨m, hm⟩ : ∃ m : List (Int × Int), m = [(5, 0), (16, 0), (17, 0), (7, 0)] := ⟨_, rfl⟩
  have h0 : sqE l = 0 := by subst hl; decide
  have h1 : sq l = m := by subst hl hm; decide
  have n1 : 8 = l.length := by subst hl; rfl
  have n2 : 4 = m.length := by subst hm; rfl
  have b1 : ∀ x ∈ l, x < 256 := by subst hl; simp
  have c1 : u8s l = [.int .u8 5, .int .u8 5, .int .u8 5, .int .u8 5, .int .u8 0, .int .u8 0, .int .u8 0, .int .u8 7] := by subst hl; rfl
  have c2 : runV m = [.int .i64 5, .int .i64 0, .int .i64 16, .int .i64 0, .int .i64 17, .int .i64 0, .int .i64 7, .int .i64 0] := by subst hm; rfl
  have H := Lib.hid fun A B c d w hl hB => is_any A B c d 8 4 l m w hl hB n1 n2 (by omega) h0 h1
  have HC := Lib.hid (And.intro c1 (And.intro c2 b1))
  clear h0 h1 n1 n2 b1 c1 c2 hl hm
  go_enter Try.func16, Try.ntmps16
  go_wp2_with fail
  refine (H.out _ _ _ _ _ (rd_u8 ((Rd.new' _ _ _ _ _ (by simp) (by rw [HC.out.1])).alloc _) HC.out.2.2) (Rd.new' _ _ _ _ _ (by simp) (by rw [HC.out.2.1]))).mono ?_
  rintro e w1 ⟨rfl, hb1⟩
  obtain ⟨b1, _⟩ := box2 hb1
  go_wp2_with fail
  go_ret
  exact ⟨rfl, b1⟩

set_option maxHeartbeats 1000000 in
theorem back_walk (A : Option Addr) (l : List Nat) (c : Nat) (w : World) (hin : InBs w A l) :
    Calls Try.prog 6 #[.slice A l.length c] w fun e w' => e = .returned (.bool true) ∧ Below w.heap.size w w' := by
  obtain ⟨hl, hA, hm⟩ := hin
  unfold maxLen at hm
  have HA := Lib.hid hA; clear hA
  by_cases hbig : 1000 < l.length
  · go_enter Try.func6, Try.ntmps6
    go_wp2_with fail
    refine (alive_any _).mono ?_
    rintro e w1 ⟨rfl, hb1⟩
    go_wp2_with fail
    go_ret
    exact ⟨rfl, hb1⟩
  · have hsl := sq_len l
    have HQ := Lib.hid fun w h => sq_any A c l w h (by omega)
    simp only [SqRes] at HQ
    by_cases h0 : sqE l = 0
    · have hback := sq_back h0
      have hr : ∀ r ∈ sq l, -9223372036854775808 ≤ r.1 ∧ r.1 ≤ 9223372036854775807 ∧ -9223372036854775808 ≤ r.2 ∧ r.2 ≤ 9223372036854775807 := fun r hr => by
        have := runOk_bounds ((strL_sum hback).2.2.2.2.1 r hr)
        omega
      have HS := Lib.hid fun A c w h => str_all A c (sq l) (l.length : Int) w h (by omega) hr (by omega) (by omega)
      simp only [StrRes] at HS
      rw [hback] at HS
      rw [h0] at HQ
      clear hback hr h0
      generalize sq l = S at *
      go_enter Try.func6, Try.ntmps6
      go_wp2_with fail
      refine (alive_any _).mono ?_
      rintro e w1 ⟨rfl, hb1⟩
      go_wp2_with fail
      refine (HQ.out _ (hl.below hb1)).mono ?_
      rintro e w2 ⟨B, d, rfl, hB⟩
      have b2 := hb1.trans (hB.1.mono hb1.size)
      go_wp2_with fail
      refine (HS.out B d _ hB.rd).mono ?_
      rintro e w3 ⟨C, f, rfl, hC⟩
      dsimp only at *
      have b3 := b2.trans (hC.1.mono b2.size)
      have hc1 := conv_bytes (P := Try.prog) w3 22 5 Try.underlying22 Try.underlying5 9 Try.underlying9 C l f (rd_u8 hC.rd hl.2) (fun h => List.map_eq_nil_iff.1 (hC.rd.2 h))
      have hc2 := conv_bytes (P := Try.prog) w3 22 5 Try.underlying22 Try.underlying5 9 Try.underlying9 A l c (hl.below b3) HA.out
      go_wp2_with fail
      go_ret
      exact ⟨rfl, b3⟩
    · have hn : sq l = [] := by unfold sq; rw [if_neg h0]
      rw [hn] at HQ
      have he : ((sqE l : Int) != 0) = true := by rw [bne_iff_ne]; omega
      clear hn hsl
      generalize sqE l = E at *
      go_enter Try.func6, Try.ntmps6
      go_wp2_with fail
      refine (alive_any _).mono ?_
      rintro e w1 ⟨rfl, hb1⟩
      go_wp2_with fail
      refine (HQ.out _ (hl.below hb1)).mono ?_
      rintro e w2 ⟨B, d, rfl, hB⟩
      have b2 := hb1.trans (hB.1.mono hb1.size)
      go_wp2_with fail
      go_ret
      exact ⟨rfl, b2⟩

theorem sumT_take (l : List (Int × Int)) (i : Nat) (h : i < l.length) : sumT (l.take (i + 1)) = sumT (l.take i) + timesOf l[i] := by
  rw [List.take_succ_eq_append_getElem h, sumT_snoc]
theorem sumT_le (l : List (Int × Int)) (h : ∀ r ∈ l, runOk r = true) (i : Nat) : sumT (l.take i) ≤ i * 138 := by
  induction i with
  | zero => simp [sumT]
  | succ i ih =>
    rcases Nat.lt_or_ge i l.length with hi | hi
    · rw [sumT_take l i hi]
      have := timesOf_le (h l[i] (List.getElem_mem hi))
      omega
    · rw [List.take_of_length_le (by omega)]
      rw [List.take_of_length_le hi] at ih
      omega

set_option maxHeartbeats 2000000 in
set_option maxRecDepth 100000 in
theorem count_walk (A : Option Addr) (l : List (Int × Int)) (c : Nat) (n m : Int) (w : World) (hin : InPairs w A l) (h1 : -9223372036854775808 ≤ n) (h2 : n ≤ 9223372036854775807) (h3 : -9223372036854775808 ≤ m) (h4 : m ≤ 9223372036854775807) :
    Calls Try.prog 7 #[.slice A l.length c, .int .i64 n, .int .i64 m] w fun e w' => e = .returned (.bool true) ∧ Below w.heap.size w w' := by
  obtain ⟨hl, hm, hr⟩ := hin
  change Rd w A (runV l) at hl
  unfold maxLen at hm
  by_cases hbig : 1000 < l.length
  · go_enter Try.func7, Try.ntmps7
    go_wp2_with fail
    refine (alive_any _).mono ?_
    rintro e w1 ⟨rfl, hb1⟩
    go_wp2_with fail
    go_ret
    exact ⟨rfl, hb1⟩
  · have HS := Lib.hid fun w h => str_all A c l n w h (by omega) hr h1 h2
    have HT := Lib.hid fun w h => str_all A c l m w h (by omega) hr h3 h4
    simp only [StrRes] at HS HT
    by_cases h0 : (strL l n).2 = 0
    · obtain ⟨x, hx⟩ : ∃ x, strL l n = (x, 0) := ⟨(strL l n).1, by rw [← h0]⟩
      obtain ⟨g1, g2, g3, g4, g5, g6⟩ := strL_sum hx
      rw [hx] at HS
      dsimp only at HS
      have hother : m ≠ n → (strL l m).2 ≠ 0 := fun h => strL_other hx h
      have HO := Lib.hid hother
      have HG := Lib.hid (And.intro g4 (And.intro g5 g6))
      have HX := Lib.hid (strL_ok l n).1
      rw [hx] at HX
      dsimp only at HX
      clear hother g4 g5 g6 hx h0 hr
      obtain ⟨n, rfl⟩ := Int.eq_ofNat_of_zero_le g1
      have hxn : x.length = n := by omega
      subst hxn
      clear g3
      obtain ⟨b138, _⟩ : sumT (l.take l.length) ≤ l.length * 138 ∧ True := ⟨sumT_le l HG.out.2.1 _, trivial⟩
      clear b138
      go_enter Try.func7, Try.ntmps7
      go_wp2_with fail
      refine (alive_any _).mono ?_
      rintro e w1 ⟨rfl, hb1⟩
      go_wp2_with fail
      refine (HS.out _ (hl.below hb1)).mono ?_
      rintro e w2 ⟨C, f, rfl, hC⟩
      have b2 := hb1.trans (hC.1.mono hb1.size)
      have hl2 := hl.below b2
      go_wp2_with fail
      go_loop [10, 11] (fun a v => ∃ i : Nat, i ≤ l.length ∧ v = .int .i64 i ∧ a = .int .i64 ((sumT (l.take i) : Nat) : Int)) (fun _ v => l.length - (intOf v).toNat)
      case atStart => exact ⟨0, by omega, rfl, rfl⟩
      case round =>
        obtain ⟨i, hi, rfl, rfl⟩ := hrel
        have hle := sumT_le l HG.out.2.1 i
        by_cases hlt : i < l.length
        · obtain ⟨b, off, rfl, hc1, hc2⟩ := hl2.pair hlt
          have hok := HG.out.2.1 l[i] (List.getElem_mem hlt)
          have hbd := runOk_bounds hok
          have HN := Lib.hid (sumT_take l i hlt)
          generalize hT2 : sumT (l.take (i + 1)) = T2 at *
          have HT2 := Lib.hid hT2; clear hT2
          generalize sumT (l.take i) = T at *
          generalize l[i] = r at *
          obtain ⟨s, y⟩ := r
          dsimp only at *
          obtain ⟨k1, k2, k3, k4⟩ := hbd
          have q : s = 16 ∨ s = 17 ∨ s = 18 ∨ s < 16 := by omega
          clear hok
          rcases q with rfl | rfl | rfl | q
          · have ht : timesOf ((16 : Int), y) = y.toNat + 3 := by unfold timesOf; simp
            have hz : T2 = T + (y.toNat + 3) := by rw [HN.out, ht]
            have HZ := Lib.hid hz; clear ht hz
            go_wp2_with fail
            go_round
            case rel => exact ⟨i + 1, by omega, by go_num, by rw [HT2.out, HZ.out]; go_num⟩
            case measure => simp [intOf]; omega
          · have ht : timesOf ((17 : Int), y) = y.toNat + 3 := by unfold timesOf; simp
            have hz : T2 = T + (y.toNat + 3) := by rw [HN.out, ht]
            have HZ := Lib.hid hz; clear ht hz
            go_wp2_with fail
            go_round
            case rel => exact ⟨i + 1, by omega, by go_num, by rw [HT2.out, HZ.out]; go_num⟩
            case measure => simp [intOf]; omega
          · have ht : timesOf ((18 : Int), y) = y.toNat + 11 := by unfold timesOf; simp
            have hz : T2 = T + (y.toNat + 11) := by rw [HN.out, ht]
            have HZ := Lib.hid hz; clear ht hz
            go_wp2_with fail
            go_round
            case rel => exact ⟨i + 1, by omega, by go_num, by rw [HT2.out, HZ.out]; go_num⟩
            case measure => simp [intOf]; omega
          · have ht : timesOf (s, y) = 1 := by unfold timesOf; rw [if_neg (by dsimp only; omega), if_neg (by dsimp only; omega)]
            have hz : T2 = T + 1 := by rw [HN.out, ht]
            have HZ := Lib.hid hz; clear ht hz
            have d1 : (s == 16) = false := by rw [beq_eq_false_iff_ne]; omega
            have d2 : (s == 17) = false := by rw [beq_eq_false_iff_ne]; omega
            have d3 : (s == 18) = false := by rw [beq_eq_false_iff_ne]; omega
            go_wp2_with fail
            go_round
            case rel => exact ⟨i + 1, by omega, by go_num, by rw [HT2.out, HZ.out]; go_num⟩
            case measure => simp [intOf]; omega
        · obtain rfl : i = l.length := by omega
          have hT : sumT (l.take l.length) = x.length := by rw [List.take_length]; have := HG.out.1; omega
          rw [hT]
          clear hT hle
          have hC1 := rd_u8 hC.rd HX.out
          go_wp2_with fail
          go_loop [12] (fun v => ∃ i : Nat, i ≤ x.length ∧ v = .int .i64 i) (fun v => x.length - (intOf v).toNat)
          case atStart => exact ⟨0, by omega, rfl⟩
          case round =>
            obtain ⟨i, hi, rfl⟩ := hrel
            by_cases hlt : i < x.length
            · obtain ⟨b, off, rfl, hcell, hx⟩ := hC1.at_ hlt
              have h15 : nth x i ≤ 15 := by
                have e : nth x i = x[i] := by simp [nth, List.getElem?_eq_getElem hlt]
                rw [e]; exact HG.out.2.2 _ (List.getElem_mem hlt)
              generalize nth x i = y at *
              go_wp2_with fail
              go_round
              case rel => exact ⟨i + 1, by omega, by go_num⟩
              case measure => simp [intOf]; omega
            · go_wp2_with fail
              refine (HT.out _ hl2).mono ?_
              rintro e w3 ⟨D, g, rfl, hD⟩
              have b3 := b2.trans (hD.1.mono b2.size)
              by_cases hmn : m = (x.length : Int)
              · subst hmn
                go_wp2_with fail
                go_ret
                exact ⟨rfl, b3⟩
              · have he : (((strL l m).2 : Int) != 0) = true := by have := HO.out hmn; rw [bne_iff_ne]; omega
                have hd : (m == (x.length : Int)) = false := by rw [beq_eq_false_iff_ne]; exact hmn
                clear hD
                generalize strL l m = p at *
                go_wp2_with fail
                go_ret
                exact ⟨rfl, b3⟩
    · have hn := strL_no h0
      rw [hn] at HS
      have he : (((strL l n).2 : Int) != 0) = true := by rw [bne_iff_ne]; omega
      clear hn HT hr
      generalize (strL l n).2 = E at *
      go_enter Try.func7, Try.ntmps7
      go_wp2_with fail
      refine (alive_any _).mono ?_
      rintro e w1 ⟨rfl, hb1⟩
      go_wp2_with fail
      refine (HS.out _ (hl.below hb1)).mono ?_
      rintro e w2 ⟨C, f, rfl, hC⟩
      have b2 := hb1.trans (hC.1.mono hb1.size)
      go_wp2_with fail
      go_ret
      exact ⟨rfl, b2⟩
end Go.Proofs.Ytcifmbcchgdplaa
