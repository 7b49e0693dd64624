/-
  The law CanonCodes, walked; are, eight, alive.
-/
import Derived.Test.YtnggkenlgpcidaaCanonC
namespace Go.Proofs.Ytnggkenlgpcidaa
open Go.RowKit

theorem canL_len (l : List Nat) (m : Int) : (canL l m).length ≤ l.length := by
  unfold canL
  split
  · rw [codesL_length]; exact Nat.le_refl _
  · simp

set_option maxHeartbeats 4000000 in
set_option maxRecDepth 100000 in
theorem law_codes (A : Option Addr) (l : List Nat) (c : Nat) (m : Int) (w : World) (hin : InBs w A l) (h1 : -9223372036854775808 ≤ m) (h2 : m ≤ 9223372036854775807) :
    Calls Try.prog 4 #[.slice A l.length c, .int .i64 m] w fun e w' => e = .returned (.bool true) ∧ Below w.heap.size w w' := by
  obtain ⟨hl, hA, hm⟩ := hin
  unfold maxLen at hm
  have hrd := hl.rd hA
  have HA := Lib.hid hA; clear hA
  by_cases hbig : 1000 < l.length
  · go_enter Try.func4, Try.ntmps4
    go_wp2_with fail
    go_ret
    exact ⟨rfl, Below.refl _ _⟩
  · have hSl := canL_len l m
    have hEl := canE_le l m
    have HQ := Lib.hid fun A c w h => codes_any A c l m w h (by omega) h1 h2
    have HU := Lib.hid fun A c w h => rcodes_any A c l m w h (by omega) h1 h2
    have HK := Lib.hid fun A c w h => check_any A c l m w h (by omega) h1 h2
    have HJ := Lib.hid fun A c w h => rcheck_any A c l m w h (by omega) h1 h2
    have HM := Lib.hid fun A c B d w h h' => csame_any A B c d (canL l m) w h h' (by omega)
    simp only [CodRes] at HQ HU
    generalize canL l m = S at *
    generalize canE l m = E at *
    go_enter Try.func4, Try.ntmps4
    go_wp2_with (at_builtin; refine grow elem_u8 rfl (.const (.slice none 0 0)) (.tmp 16) rfl rfl (Builds.nil_ w _ _) rfl hrd (by simp [u8s]) (u8s_one _) l.length (by omega) (u8s l) rfl (by omega) (by omega) ?_; intro A1 c1 w1 hB1 hg1)
    clear hg1
    refine (HQ.out A1 c1 _ (rd_u8 hB1.rd hl.2)).mono ?_
    rintro e w2 ⟨X, cx, rfl, hBX⟩
    have b2 := hB1.1.trans (hBX.1.mono hB1.1.size)
    go_wp2_with fail
    refine (HU.out A c _ (hl.below b2)).mono ?_
    rintro e w3 ⟨Y, cy, rfl, hBY⟩
    have b3 := b2.trans (hBY.1.mono b2.size)
    have hBX3 := hBX.below hBY.1
    have hr3 := hB1.rd.below (hBX.1.trans (hBY.1.mono hBX.1.size))
    go_wp2_with fail
    refine (HM.out X cx Y cy _ hBX3.rd hBY.rd).mono ?_
    rintro e w4 ⟨rfl, q, rfl⟩
    go_wp2_with fail
    refine (HK.out A1 c1 _ (rd_u8 (hr3.drewN q) hl.2)).mono ?_
    rintro e w5 ⟨rfl, rfl⟩
    go_wp2_with fail
    refine (HJ.out A c _ (hl.below (below_drewN' b3 q))).mono ?_
    rintro e w6 ⟨rfl, rfl⟩
    have hc1 := conv_bytes (P := Try.prog) (w3.drewN q) 23 5 Try.underlying23 Try.underlying5 9 Try.underlying9 A1 l c1 (rd_u8 (hr3.drewN q) hl.2) (fun h => List.map_eq_nil_iff.1 (hr3.2 h))
    have hc2 := conv_bytes (P := Try.prog) (w3.drewN q) 23 5 Try.underlying23 Try.underlying5 9 Try.underlying9 A l c (hl.below (below_drewN' b3 q)) HA.out
    go_wp2_with fail
    clear hc1 hc2
    go_loopg [10] S.length (fun gk v wr => ∃ (k : Nat) (xs : List Value), k ≤ S.length ∧ gk = S.length - k ∧ v = .int .i64 (k : Int) ∧ Builds w1 wr 26 2 X S.length cx xs ∧ wr.ownsRow w2.heap.size 26 2 (.slice Y S.length cy) S.length (codV S))
    case atStart => exact ⟨0, codV S, by omega, by omega, rfl, hBX3.drewN q, hBY.2⟩
    case round =>
      obtain ⟨k, xs, hk, hgk, rfl, hB, hY⟩ := hrel
      by_cases hlt : k < S.length
      · obtain ⟨g, rfl, hg1, hg2⟩ := hB.at_ (by omega)
        have hxl := hB.len
        have hq4 : k * 2 < xs.length := by omega
        have hq5 : k * 2 + 1 < xs.length := by omega
        have hc4 := hB.cell (k * 2) (by omega)
        have hc5 := hB.cell (k * 2 + 1) (by omega)
        rw [List.getElem?_eq_getElem hq4] at hc4
        rw [List.getElem?_eq_getElem hq5] at hc5
        have hf4 := hB.free (k * 2)
        have hf5 := hB.free (k * 2 + 1)
        have hgY : g < w2.heap.size := (hBX.2.lt g rfl).2
        have hY' : (Value.slice Y S.length cy).ownBlock ≠ some g := fun h => by have := own_row_ge hY g h; omega
        have HB5 := Lib.hid ((hB.set (k * 2) (by omega) (.int .u32 77)).set (k * 2 + 1) (by omega) (.int .u8 77))
        have HY5 := Lib.hid (own_far (own_far hY (p := ⟨g, k * 2, none⟩) hY' (.int .u32 77)) (p := ⟨g, k * 2 + 1, none⟩) hY' (.int .u8 77))
        generalize xs[k * 2] = v4 at *
        generalize xs[k * 2 + 1] = v5 at *
        clear hxl hq4 hq5 hY'
        go_wp2_with fail
        go_roundg (S.length - (k + 1))
        case measure => omega
        case rel => exact ⟨k + 1, _, by omega, by omega, by go_num, HB5.out, HY5.out⟩
      · have hrd := hB1.rd.below hB.1
        go_wp2_with fail
        refine (HQ.out A1 c1 _ (rd_u8 hrd hl.2)).mono ?_
        rintro e w5 ⟨Z, cz, rfl, hBZ⟩
        have b5 := hB1.1.trans ((hB.1.trans (hBZ.1.mono hB.1.size)).mono hB1.1.size)
        have hYr := own_rd (own_below hY hBZ.1)
        go_wp2_with fail
        refine (HM.out Z cz Y cy _ hBZ.rd hYr).mono ?_
        rintro e w6 ⟨rfl, q2, rfl⟩
        go_wp2_with fail
        go_ret
        exact ⟨rfl, below_drewN' b5 _⟩

set_option maxHeartbeats 1000000 in
theorem are_any (A B : Option Addr) (c d nl nm : Nat) (l : List Nat) (m : List (Nat × Nat)) (w : World) (hl : Bs w A l) (hB : Rd w B (codV m)) (hnl : nl = l.length) (hnm : nm = m.length) (hm : l.length ≤ 1000) (h0 : canE l 15 = 0) (h1 : codesL l = m) :
    Calls Try.prog 9 #[.slice A nl c, .slice B nm d] w fun e w' => e = .returned (.bool true) ∧ Below w.heap.size w w' := by
  subst hnl hnm
  have hc : canL l 15 = m := by unfold canL; rw [if_pos h0, h1]
  have hsl := canL_len l 15
  have HQ := Lib.hid fun w h => codes_any A c l 15 w h (by omega) (by omega) (by omega)
  simp only [CodRes] at HQ
  rw [h0, hc] at HQ
  rw [hc] at hsl
  clear h0 h1 hc
  go_enter Try.func9, Try.ntmps9
  go_wp2_with fail
  refine (HQ.out _ hl).mono ?_
  rintro e w1 ⟨C, f, rfl, hC⟩
  have hB1 := hB.below hC.1
  have hC1 := hC.rd
  go_wp2_with fail
  go_loopg [7] m.length (fun gk v wr => ∃ n : Nat, n ≤ m.length ∧ gk = m.length - n ∧ v = .int .i64 n ∧ ∃ q, wr = w1.drewN q)
  case atStart => exact ⟨0, by omega, by omega, rfl, 0, rfl⟩
  case round =>
    obtain ⟨n, h2, hk, rfl, q, rfl⟩ := hrel
    by_cases hlt : n < m.length
    · obtain ⟨b, off, rfl, hc1, hc2⟩ := hC1.cod hlt
      obtain ⟨b', off', rfl, hd1, hd2⟩ := hB1.cod hlt
      generalize m[n] = r at *
      obtain ⟨s, x⟩ := r
      dsimp only at *
      go_wp2_with fail
      go_quiet (fail)
      go_wp2_with fail
      go_roundg (m.length - (n + 1))
      case measure => omega
      case rel => exact ⟨n + 1, by omega, by omega, by go_num, _, rfl⟩
    · go_wp2_with fail
      go_ret
      exact ⟨rfl, below_drewN' hC.1 _⟩

theorem eight_ok : canE [3, 3, 3, 3, 3, 2, 4, 4] 15 = 0 ∧ codesL [3, 3, 3, 3, 3, 2, 4, 4] = [(2, 3), (3, 3), (4, 3), (5, 3), (6, 3), (0, 2), (14, 4), (15, 4)] := by decide +kernel

set_option maxHeartbeats 1000000 in
theorem eight_any (w : World) : Calls Try.prog 17 #[] w fun e w' => e = .returned (.slice (some ⟨w.heap.size, 0, none⟩) 8 8) ∧ w' = w.alloc (.cells #[.int .u8 3, .int .u8 3, .int .u8 3, .int .u8 3, .int .u8 3, .int .u8 2, .int .u8 4, .int .u8 4] 5) := by
  go_enter Try.func17, Try.ntmps17
  go_wp2_with fail
  go_ret
  exact ⟨rfl, rfl⟩

set_option maxHeartbeats 1000000 in
theorem canon_alive_any (w : World) : Calls Try.prog 11 #[] w fun e w' => e = .returned (.bool true) ∧ Below w.heap.size w w' := by
  have H := Lib.hid fun A B c d w hl hB => are_any A B c d 8 8 [3, 3, 3, 3, 3, 2, 4, 4] [(2, 3), (3, 3), (4, 3), (5, 3), (6, 3), (0, 2), (14, 4), (15, 4)] w hl hB rfl rfl (by simp) eight_ok.1 eight_ok.2
  go_enter Try.func11, Try.ntmps11
  go_wp2_with fail
  refine (eight_any _).mono ?_
  rintro e w1 ⟨rfl, rfl⟩
  go_wp2_with fail
  refine (H.out _ _ _ _ _ ?_ ?_).mono ?_
  · exact rd_u8 ((Rd.new' _ _ _ (u8s [3, 3, 3, 3, 3, 2, 4, 4]) _ rfl rfl).alloc _) (by simp)
  · exact Rd.new' _ _ _ _ _ (by simp) (by rfl)
  rintro e w1 ⟨rfl, hb1⟩
  obtain ⟨b1, _⟩ := box2 hb1
  go_wp2_with fail
  go_ret
  exact ⟨rfl, b1⟩
end Go.Proofs.Ytnggkenlgpcidaa
