/-
  The law RunsStretch, walked.
-/
import Derived.Test.YtcifmbcchgdplaaRunsF
import Derived.Test.YtcifmbcchgdplaaOpenS
namespace Go.Proofs.Ytcifmbcchgdplaa
open Go.RowKit

theorem strF_ok (n : Nat) : ∀ (l : List (Int × Int)) (out : List Nat), (∀ x ∈ out, x < 256) → out.length ≤ n → (∀ x ∈ (strF n l out).1, x < 256) ∧ (strF n l out).1.length ≤ n ∧ (strF n l out).2 ≤ 100
  | [], out, h, h2 => by
    unfold strF
    split
    · exact ⟨h, h2, by simp⟩
    · exact ⟨by simp, by simp, by simp⟩
  | r :: l, out, h, h2 => by
    unfold strF
    split
    · rename_i h0
      obtain ⟨h3, _, h4⟩ := putE_zero h0
      exact strF_ok n l _ (putR_lt h3 h) (by rw [putR_length]; exact h4)
    · refine ⟨by simp, by simp, ?_⟩
      show putE n r out ≤ 100
      unfold putE; split
      · split <;> omega
      · omega
theorem strL_ok (l : List (Int × Int)) (n : Int) : (∀ x ∈ (strL l n).1, x < 256) ∧ (strL l n).1.length ≤ 320 ∧ (strL l n).2 ≤ 100 := by
  unfold strL
  split
  · exact ⟨by simp, by simp, by simp⟩
  · obtain ⟨h1, h2, h3⟩ := strF_ok n.toNat l [] (by simp) (by simp)
    exact ⟨h1, by omega, h3⟩

section
variable (A : Option Addr) (c : Nat) (l : List (Int × Int)) (n : Int) (w : World) (hl : Rd w A (runV l)) (hm : l.length ≤ 1000) (hr : ∀ r ∈ l, -9223372036854775808 ≤ r.1 ∧ r.1 ≤ 9223372036854775807 ∧ -9223372036854775808 ≤ r.2 ∧ r.2 ≤ 9223372036854775807)
  (hn1 : -9223372036854775808 ≤ n) (hn2 : n ≤ 9223372036854775807)
include hl hm hr hn1 hn2
theorem str_all : Calls Try.prog 13 #[.slice A l.length c, .int .i64 n] w fun e w' => StrRes w w' e (strL l n) := by
  unfold strL
  by_cases h : n < 0 ∨ 320 < n
  · rw [if_pos h]; exact str_arg A c l n w hn1 hn2 h
  · rw [if_neg h]
    obtain ⟨n, rfl⟩ := Int.eq_ofNat_of_zero_le (show 0 ≤ n by omega)
    exact str_any A c l n _ w hl hm hr (by omega) rfl
theorem rstr_all : Calls Try.prog 14 #[.slice A l.length c, .int .i64 n] w fun e w' => StrRes w w' e (strL l n) := by
  unfold strL
  by_cases h : n < 0 ∨ 320 < n
  · rw [if_pos h]; exact rstr_arg A c l n w hn1 hn2 h
  · rw [if_neg h]
    obtain ⟨n, rfl⟩ := Int.eq_ofNat_of_zero_le (show 0 ≤ n by omega)
    exact rstr_any A c l n _ w hl hm hr (by omega) rfl
end

theorem u8s_set (xs : List Nat) (i x : Nat) : (u8s xs).set i (.int .u8 (x : Int)) = u8s (xs.set i x) := by unfold u8s; rw [List.map_set]

set_option maxHeartbeats 2000000 in
set_option maxRecDepth 100000 in
theorem stretch_walk (A : Option Addr) (l : List (Int × Int)) (c : Nat) (n : Int) (w : World) (hin : InPairs w A l) (h1 : -9223372036854775808 ≤ n) (h2 : n ≤ 9223372036854775807) :
    Calls Try.prog 4 #[.slice A l.length c, .int .i64 n] w fun e w' => e = .returned (.bool true) ∧ Below w.heap.size w w' := by
  obtain ⟨hl, hm, hr⟩ := hin
  change Rd w A (runV l) at hl
  unfold maxLen at hm
  by_cases hbig : 1000 < l.length
  · go_enter Try.func4, Try.ntmps4
    go_wp2_with fail
    go_ret
    exact ⟨rfl, Below.refl _ _⟩
  · obtain ⟨hb256, hlen, hE⟩ := strL_ok l n
    have HQ := Lib.hid fun A c w h => str_all A c l n w h (by omega) hr h1 h2
    have HU := Lib.hid fun A c w h => rstr_all A c l n w h (by omega) hr h1 h2
    have HM := Lib.hid fun A c B d w h h' => same_any A B c d l w h h' (by omega)
    clear hr
    simp only [StrRes] at HQ HU
    generalize strL l n = p at *
    obtain ⟨S, E⟩ := p
    dsimp only at *
    have HS := Lib.hid hb256; clear hb256
    go_enter Try.func4, Try.ntmps4
    go_wp2_with (at_builtin; refine grow elem_run rfl (.const (.slice none 0 0)) (.tmp 16) rfl rfl (Builds.nil_ w _ _) rfl hl (runV_length l) (runV_one _) l.length (by omega) (runV l) rfl (by omega) (by omega) ?_; intro A1 c1 w1 hB1 hg1)
    clear hg1
    refine (HQ.out A1 c1 _ hB1.rd).mono ?_
    rintro e w2 ⟨X, cx, rfl, hBX⟩
    have b2 := hB1.1.trans (hBX.1.mono hB1.1.size)
    go_wp2_with fail
    refine (HU.out A c _ (hl.below b2)).mono ?_
    rintro e w3 ⟨Y, cy, rfl, hBY⟩
    have hBX3 := hBX.below hBY.1
    have hc1 := conv_bytes (P := Try.prog) w3 22 5 Try.underlying22 Try.underlying5 9 Try.underlying9 X S cx (rd_u8 hBX3.rd HS.out) (fun h => List.map_eq_nil_iff.1 (hBX3.rd.2 h))
    have hc2 := conv_bytes (P := Try.prog) w3 22 5 Try.underlying22 Try.underlying5 9 Try.underlying9 Y S cy (rd_u8 hBY.rd HS.out) (fun h => List.map_eq_nil_iff.1 (hBY.rd.2 h))
    go_wp2_with fail
    clear hc1 hc2
    go_loopg [10] S.length (fun gk v wr => ∃ (k : Nat) (xs : List Nat), k ≤ S.length ∧ gk = S.length - k ∧ v = .int .i64 (k : Int) ∧ Builds w1 wr 5 1 X S.length cx (u8s xs) ∧ (∀ x ∈ xs, x < 256) ∧ wr.ownsRow w2.heap.size 5 1 (.slice Y S.length cy) S.length (u8s S))
    case atStart => exact ⟨0, S, by omega, by omega, rfl, hBX3, HS.out, hBY.2⟩
    case round =>
      obtain ⟨k, xs, hk, hgk, rfl, hB, hxs, hY⟩ := hrel
      have HXS := Lib.hid hxs; clear hxs
      by_cases hlt : k < S.length
      · obtain ⟨g, rfl, hg1, hg2⟩ := hB.at_ (by omega)
        have hxl : xs.length = S.length := by have := hB.len; rw [u8s_length] at this; omega
        have hcell := (hB.cell k (by omega)).trans (u8s_get xs k (by omega))
        have hfree := hB.free k
        have hx := nth_lt HXS.out (by omega) k
        have hgY : g < w2.heap.size := (hBX.2.lt g rfl).2
        have HXL := Lib.hid hxl; clear hxl
        generalize nth xs k = x at *
        have hm : ((x : Int) + 1) % 256 = (((x + 1) % 256 : Nat) : Int) := by omega
        have hY' : (Value.slice Y S.length cy).ownBlock ≠ some g := fun h => by have := own_row_ge hY g h; omega
        have HN := Lib.hid (And.intro hm hY')
        clear hm hY'
        go_wp2_with fail
        go_roundg (S.length - (k + 1))
        case measure => omega
        case rel =>
          refine ⟨k + 1, xs.set k ((x + 1) % 256), by omega, by omega, by go_num, ?_, ?_, ?_⟩
          · rw [← u8s_set]
            have := hB.set k (by omega) (.int .u8 (((x + 1) % 256 : Nat) : Int))
            first | exact this | (rw [← HN.out.1] at this; exact this) | (simp only [HN.out.1]; exact this)
          · intro y hy
            rcases List.mem_or_eq_of_mem_set hy with hy | rfl
            · exact HXS.out y hy
            · omega
          · exact own_far hY HN.out.2 _
      · have hrd := hB1.rd.below hB.1
        go_wp2_with fail
        refine (HQ.out A1 c1 _ hrd).mono ?_
        rintro e w5 ⟨Z, cz, rfl, hBZ⟩
        have b5 := hB1.1.trans ((hB.1.trans (hBZ.1.mono hB.1.size)).mono hB1.1.size)
        have hY5 := own_below hY hBZ.1
        have hYr := own_rd hY5
        have hr1 := hB1.rd.below (hB.1.trans (hBZ.1.mono hB.1.size))
        have hr2 := hl.below b5
        have hc1 := conv_bytes (P := Try.prog) w5 22 5 Try.underlying22 Try.underlying5 9 Try.underlying9 Z S cz (rd_u8 hBZ.rd HS.out) (fun h => List.map_eq_nil_iff.1 (hBZ.rd.2 h))
        have hc2 := conv_bytes (P := Try.prog) w5 22 5 Try.underlying22 Try.underlying5 9 Try.underlying9 Y S cy (rd_u8 hYr HS.out) (fun h => List.map_eq_nil_iff.1 (hYr.2 h))
        go_wp2_with fail
        refine (HM.out A1 c1 A c _ hr1 hr2).mono ?_
        rintro e w6 ⟨rfl, q, rfl⟩
        go_wp2_with fail
        go_ret
        exact ⟨rfl, below_drewN' b5 _⟩
end Go.Proofs.Ytcifmbcchgdplaa
