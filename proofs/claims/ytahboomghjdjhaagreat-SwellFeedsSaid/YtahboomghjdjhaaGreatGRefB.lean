/-
  Walks: the document's code, fixed lengths, tokens by codes.
-/
import Derived.Deep.RegionHeld3
import Derived.IntWalk
import Derived.StillTailTactics
import Derived.Test.YtahboomghjdjhaaGreatG05
import Derived.Test.YtahboomghjdjhaaGreatG09
import Derived.Test.YtahboomghjdjhaaGreatG20
import Derived.Test.YtahboomghjdjhaaGreatG25
import Derived.Test.YtahboomghjdjhaaGreatG47
namespace Go.Proofs.YtahboomghjdjhaaGreat
open Go.RowKit

theorem longsF_at : ∀ k, k < 288 → nth longsF k = if 144 ≤ k ∧ k ≤ 255 then 9 else if 256 ≤ k ∧ k ≤ 279 then 7 else 8 := by decide +kernel
theorem set_fill (L : List Nat) (n k x y : Nat) (hL : L.length = n) (hk : k < n) (hx : nth L k = x) : ((L.take k ++ List.replicate (n - k) 0).set k y).set k x = L.take (k + 1) ++ List.replicate (n - (k + 1)) 0 := by
  have hl : (L.take k).length = k := by rw [List.length_take]; omega
  rw [List.set_set, List.set_append_right _ _ (by omega), hl, Nat.sub_self, take_snoc L k (by omega), hx]
  obtain ⟨m, hm⟩ : ∃ m, n - k = m + 1 := ⟨n - k - 1, by omega⟩
  rw [hm, show n - (k + 1) = m by omega, List.replicate_succ]
  simp
theorem set_fill1 (L : List Nat) (n k x : Nat) (hL : L.length = n) (hk : k < n) (hx : nth L k = x) : (L.take k ++ List.replicate (n - k) 0).set k x = L.take (k + 1) ++ List.replicate (n - (k + 1)) 0 := by
  have := set_fill L n k x x hL hk hx
  rwa [List.set_set] at this
theorem u8s_set (l : List Nat) (k x : Nat) : (u8s l).set k (.int .u8 (x : Int)) = u8s (l.set k x) := by unfold u8s; rw [List.map_set]

set_option maxRecDepth 100000 in
set_option maxHeartbeats 4000000 in
theorem rlongsF_any (w : World) : Calls Tryz.prog 50 #[] w fun e w' => ∃ A c, e = .returned (.slice A 288 c) ∧ Builds w w' 5 1 A 288 c (u8s longsF) := by
  have hL : longsF.length = 288 := by decide +kernel
  have HL := Lib.hid hL
  clear hL
  go_enter Tryz.func50, Tryz.ntmps50
  go_wp2_with (at_make; refine makes belem_u8 (z := .int .u8 0) (by kernel_rfl) rfl _ _ rfl 288 rfl rfl rfl (by omega) (by omega) (u8s (longsF.take 0 ++ List.replicate (288 - 0) 0)) (by rw [made_fill 0 288, fill_zero]; rfl) ?_; intro w3 hB3)
  obtain ⟨g, hg⟩ : ∃ g, w.heap.size = g := ⟨_, rfl⟩
  have HG0 := Lib.hid hg
  rw [hg] at hB3
  rw [hg]
  clear hg
  go_loopg [2] 288 (fun gk v2 wr => ∃ k : Nat, k ≤ 288 ∧ gk = 288 - k ∧ v2 = .int .i64 (k : Int) ∧ Builds w wr 5 1 (some ⟨g, 0, none⟩) 288 288 (u8s (longsF.take k ++ List.replicate (288 - k) 0)))
  case atStart => exact ⟨0, by omega, rfl, rfl, hB3⟩
  case round =>
    clear hB3
    obtain ⟨k, hk, hgk, rfl, hB⟩ := hrel
    have HG := Lib.hid hgk
    clear hgk
    by_cases hlt : k < 288
    · have hat := longsF_at k hlt
      have c1 := Builds.cell hB k (by omega)
      rw [u8s_get _ k (by simp [HL.out]; omega)] at c1
      have f1 := Builds.free hB k
      have z1 := cell_lt c1
      have b8 := Builds.set hB k (by omega) (.int .u8 8)
      have hw : (144 ≤ k ∧ k ≤ 255) ∨ (256 ≤ k ∧ k ≤ 279) ∨ (k < 144 ∨ 279 < k) := by omega
      rcases hw with h | h | h
      · rw [if_pos h] at hat
        have d1 : decide ((k : Int) ≥ 144) = true := decide_eq_true (by omega)
        have d2 : decide ((k : Int) ≤ 255) = true := decide_eq_true (by omega)
        have d3 : decide ((k : Int) ≥ 256) = false := decide_eq_false (by omega)
        have b9 := Builds.set b8 k (by omega) (.int .u8 9)
        have HE := Lib.hid (set_fill longsF 288 k 9 8 HL.out hlt hat)
        have b9 : Builds w ((wr.setCell ⟨g, k, none⟩ (.int .u8 8)).setCell ⟨g, k, none⟩ (.int .u8 9)) 5 1 (some ⟨g, 0, none⟩) 288 288 (u8s (longsF.take (k + 1) ++ List.replicate (288 - (k + 1)) 0)) := by
          rw [← HE.out, ← u8s_set, ← u8s_set]; exact b9
        clear hat b8 hB
        go_wp2_with fail
        go_roundg (288 - (k + 1))
        case measure => have := HG.out; omega
        case rel => exact ⟨k + 1, by omega, rfl, by go_num, b9⟩
      · rw [if_neg (by omega), if_pos h] at hat
        have d1 : decide ((k : Int) ≥ 144) = true := decide_eq_true (by omega)
        have d2 : decide ((k : Int) ≤ 255) = false := decide_eq_false (by omega)
        have d3 : decide ((k : Int) ≥ 256) = true := decide_eq_true (by omega)
        have d4 : decide ((k : Int) ≤ 279) = true := decide_eq_true (by omega)
        have b9 := Builds.set b8 k (by omega) (.int .u8 7)
        have HE := Lib.hid (set_fill longsF 288 k 7 8 HL.out hlt hat)
        have b9 : Builds w ((wr.setCell ⟨g, k, none⟩ (.int .u8 8)).setCell ⟨g, k, none⟩ (.int .u8 7)) 5 1 (some ⟨g, 0, none⟩) 288 288 (u8s (longsF.take (k + 1) ++ List.replicate (288 - (k + 1)) 0)) := by
          rw [← HE.out, ← u8s_set, ← u8s_set]; exact b9
        clear hat b8 hB
        go_wp2_with fail
        go_roundg (288 - (k + 1))
        case measure => have := HG.out; omega
        case rel => exact ⟨k + 1, by omega, rfl, by go_num, b9⟩
      · rw [if_neg (by omega), if_neg (by omega)] at hat
        have HE := Lib.hid (set_fill1 longsF 288 k 8 HL.out hlt hat)
        have b9 : Builds w (wr.setCell ⟨g, k, none⟩ (.int .u8 8)) 5 1 (some ⟨g, 0, none⟩) 288 288 (u8s (longsF.take (k + 1) ++ List.replicate (288 - (k + 1)) 0)) := by
          rw [← HE.out, ← u8s_set]; exact b8
        clear hat b8 hB
        rcases h with h | h
        case' inl =>
          have d1 : decide ((k : Int) ≥ 144) = false := decide_eq_false (by omega)
          have d3 : decide ((k : Int) ≥ 256) = false := decide_eq_false (by omega)
        case' inr =>
          have d1 : decide ((k : Int) ≥ 144) = true := decide_eq_true (by omega)
          have d2 : decide ((k : Int) ≤ 255) = false := decide_eq_false (by omega)
          have d3 : decide ((k : Int) ≥ 256) = true := decide_eq_true (by omega)
          have d4 : decide ((k : Int) ≤ 279) = false := decide_eq_false (by omega)
        all_goals
          go_wp2_with fail
          go_roundg (288 - (k + 1))
          case measure => have := HG.out; omega
          case rel => exact ⟨k + 1, by omega, rfl, by go_num, b9⟩
    · obtain rfl : k = 288 := by omega
      have e : longsF.take 288 ++ List.replicate (288 - 288) 0 = longsF := by rw [List.take_of_length_le (by rw [HL.out]; exact Nat.le_refl _)]; simp
      rw [e] at hB
      clear e
      go_wp2_with fail
      go_ret
      exact ⟨_, _, rfl, hB⟩

set_option maxRecDepth 100000 in
set_option maxHeartbeats 4000000 in
theorem rfarsF_any (w : World) : Calls Tryz.prog 51 #[] w fun e w' => ∃ A c, e = .returned (.slice A 32 c) ∧ Builds w w' 5 1 A 32 c (u8s farsF) := by
  have hL : farsF.length = 32 := by decide
  have HL := Lib.hid hL
  have hat : ∀ k, k < 32 → nth farsF k = 5 := by decide
  have HA := Lib.hid hat
  clear hL hat
  go_enter Tryz.func51, Tryz.ntmps51
  go_wp2_with (at_make; refine makes belem_u8 (z := .int .u8 0) (by kernel_rfl) rfl _ _ rfl 32 rfl rfl rfl (by omega) (by omega) (u8s (farsF.take 0 ++ List.replicate (32 - 0) 0)) (by rw [made_fill 0 32, fill_zero]; rfl) ?_; intro w3 hB3)
  obtain ⟨g, hg⟩ : ∃ g, w.heap.size = g := ⟨_, rfl⟩
  rw [hg] at hB3
  rw [hg]
  clear hg
  go_loopg [2] 32 (fun gk v2 wr => ∃ k : Nat, k ≤ 32 ∧ gk = 32 - k ∧ v2 = .int .i64 (k : Int) ∧ Builds w wr 5 1 (some ⟨g, 0, none⟩) 32 32 (u8s (farsF.take k ++ List.replicate (32 - k) 0)))
  case atStart => exact ⟨0, by omega, rfl, rfl, hB3⟩
  case round =>
    clear hB3
    obtain ⟨k, hk, hgk, rfl, hB⟩ := hrel
    have HG := Lib.hid hgk
    clear hgk
    by_cases hlt : k < 32
    · have c1 := Builds.cell hB k (by omega)
      rw [u8s_get _ k (by simp [HL.out]; omega)] at c1
      have f1 := Builds.free hB k
      have z1 := cell_lt c1
      have b8 := Builds.set hB k (by omega) (.int .u8 5)
      have HE := Lib.hid (set_fill1 farsF 32 k 5 HL.out hlt (HA.out k hlt))
      have b9 : Builds w (wr.setCell ⟨g, k, none⟩ (.int .u8 5)) 5 1 (some ⟨g, 0, none⟩) 32 32 (u8s (farsF.take (k + 1) ++ List.replicate (32 - (k + 1)) 0)) := by
        rw [← HE.out, ← u8s_set]; exact b8
      clear b8 hB
      go_wp2_with fail
      go_roundg (32 - (k + 1))
      case measure => have := HG.out; omega
      case rel => exact ⟨k + 1, by omega, rfl, by go_num, b9⟩
    · obtain rfl : k = 32 := by omega
      have e : farsF.take 32 ++ List.replicate (32 - 32) 0 = farsF := by rw [List.take_of_length_le (by rw [HL.out]; exact Nat.le_refl _)]; simp
      rw [e] at hB
      clear e
      go_wp2_with fail
      go_ret
      exact ⟨_, _, rfl, hB⟩
end Go.Proofs.YtahboomghjdjhaaGreat
