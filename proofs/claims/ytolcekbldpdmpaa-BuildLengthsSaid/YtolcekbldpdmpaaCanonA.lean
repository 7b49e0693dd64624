/-
  Walks: Check (both), part, Parts.
-/
import Derived.Test.YtolcekbldpdmpaaCanonM
import Derived.Test.YtolcekbldpdmpaaOpen
import Derived.Test.YtolcekbldpdmpaaRows
import Derived.Deep.RegionHeld3
import Derived.Deep.QuietTactic
import Derived.BigQuiet
namespace Go.Proofs.Ytolcekbldpdmpaa
open Go.RowKit

theorem elem_u8 : Elem Try.prog 24 5 1 1 := Elem.mk' Try.underlying24 (z := .int .u8 0) (by kernel_rfl) rfl (by omega)
section
variable {l : List Nat} {m : Int}
theorem can_arg (h : m < 1 ∨ 15 < m) : canE l m = 2 := by unfold canE; rw [if_pos h]
theorem can_many (h1 : 1 ≤ m) (h2 : m ≤ 15) (h : 320 < l.length) : canE l m = 4 := by unfold canE; rw [if_neg (by omega), if_pos h]
theorem can_big (h1 : 1 ≤ m) (h2 : m ≤ 15) (h3 : l.length ≤ 320) {i : Nat} (hi : i < l.length) (h : m < (nth l i : Nat)) : canE l m = 2 := by
  unfold canE
  rw [if_neg (by omega), if_neg (by omega), if_neg]
  intro ha
  have := of_decide_eq_true (List.all_eq_true.1 ha l[i] (List.getElem_mem hi))
  have e : nth l i = l[i] := by simp [nth, List.getElem?_eq_getElem hi]
  omega
theorem can_rest (h1 : 1 ≤ m) (h2 : m ≤ 15) (h3 : l.length ≤ 320) (h : ∀ i, i < l.length → ((nth l i : Nat) : Int) ≤ m) :
    canE l m = if 32768 < kraft l then 30 else if kraft l = 32768 ∨ used l = 0 ∨ used l = 1 ∧ kraft l = 16384 then 0 else 31 := by
  unfold canE
  rw [if_neg (by omega), if_neg (by omega), if_pos]
  rw [List.all_eq_true]
  intro x hx
  obtain ⟨i, hi, rfl⟩ := List.mem_iff_getElem.1 hx
  have := h i hi
  have e : nth l i = l[i] := by simp [nth, List.getElem?_eq_getElem hi]
  rw [e] at this
  exact decide_eq_true this
theorem kraft_step {i : Nat} (hi : i < l.length) : kraft (l.take (i + 1)) = kraft (l.take i) + (if nth l i = 0 then 0 else pw (nth l i)) ∧ used (l.take (i + 1)) = used (l.take i) + if nth l i = 0 then 0 else 1 := by
  rw [take_snoc l i hi, kraft_snoc, used_snoc]; exact ⟨rfl, rfl⟩
end

/-- A shift by a byte that a length leaves. -/
theorem pw_shl (x : Nat) : (2 : Int) ^ (15 - x) = ((pw x : Nat) : Int) := by unfold pw; simp

set_option maxHeartbeats 1000000 in
theorem check_any (A : Option Addr) (c : Nat) (l : List Nat) (m : Int) (w : World) (hl : Bs w A l) (hm : l.length ≤ 1001) (h1 : -9223372036854775808 ≤ m) (h2 : m ≤ 9223372036854775807) :
    Calls Try.prog 15 #[.slice A l.length c, .int .i64 m] w fun e w' => e = .returned (.int .i64 ((canE l m : Nat) : Int)) ∧ w = w' := by
  by_cases ha : m < 1 ∨ 15 < m
  · rw [can_arg ha]
    rcases ha with ha | ha
    all_goals
      go_enter Try.func15, Try.ntmps15
      go_wp2_with fail
      go_ret
      exact ⟨rfl, rfl⟩
  · by_cases hb : 320 < l.length
    · rw [can_many (by omega) (by omega) hb]
      have ha1 : ¬ m < 1 := by omega
      have ha2 : ¬ 15 < m := by omega
      clear ha
      go_enter Try.func15, Try.ntmps15
      go_wp2_with fail
      go_ret
      exact ⟨rfl, rfl⟩
    · have ha1 : 1 ≤ m := by omega
      have ha2 : m ≤ 15 := by omega
      have HB := Lib.hid fun i hi h => can_big (l := l) (i := i) ha1 ha2 (by omega) hi h
      have HR := Lib.hid fun h => can_rest (l := l) ha1 ha2 (by omega) h
      clear ha
      obtain ⟨E, hE⟩ : ∃ E, canE l m = E := ⟨_, rfl⟩
      have HE := Lib.hid hE
      rw [hE] at HB HR
      rw [hE]
      clear hE
      go_enter Try.func15, Try.ntmps15
      go_wp2_with fail
      go_loop [5, 6, 20] (fun a u v => ∃ i : Nat, i ≤ l.length ∧ (∀ k, k < i → ((nth l k : Nat) : Int) ≤ m) ∧ v = .int .i64 i ∧ a = .int .i64 ((kraft (l.take i) : Nat) : Int) ∧ u = .int .i64 ((used (l.take i) : Nat) : Int)) (fun _ _ v => l.length - (intOf v).toNat)
      case atStart => exact ⟨0, by omega, fun _ h => absurd h (by omega), rfl, rfl, rfl⟩
      case round =>
        obtain ⟨i, hi, hall, rfl, rfl, rfl⟩ := hrel
        have HA := Lib.hid hall; clear hall
        have hk := kraft_take_le l i
        have hu := used_le (l.take i)
        have hu2 : (l.take i).length ≤ i := List.length_take_le _ _
        by_cases hlt : i < l.length
        · obtain ⟨b, off, rfl, hcell, hx⟩ := hl.at_ hlt
          by_cases hbig : m < (nth l i : Nat)
          · have H := Lib.hid (HB.out i hlt hbig)
            generalize nth l i = x at *
            go_wp2_with fail
            go_ret
            rw [H.out]
            exact ⟨rfl, rfl⟩
          · have hn : ∀ k, k < i + 1 → ((nth l k : Nat) : Int) ≤ m := fun k hk => by
              rcases Nat.lt_or_ge k i with h | h
              · exact HA.out k h
              · obtain rfl : k = i := by omega
                omega
            have HN := Lib.hid hn; clear hn
            obtain ⟨s1, s2⟩ := kraft_step hlt
            by_cases h0 : nth l i = 0
            · rw [if_pos h0] at s1 s2
              rw [h0] at hcell hbig
              have HS := Lib.hid (And.intro s1 s2); clear s1 s2 h0
              go_wp2_with fail
              go_round
              case rel => exact ⟨i + 1, by omega, HN.out, by go_num, by rw [HS.out.1]; rfl, by rw [HS.out.2]; rfl⟩
              case measure => simp [intOf]; omega
            · rw [if_neg h0] at s1 s2
              have HS := Lib.hid (And.intro s1 s2); clear s1 s2
              have hp := pw_le (nth l i)
              have HP := Lib.hid (pw_shl (nth l i))
              have hx15 : nth l i ≤ 15 := by omega
              generalize nth l i = x at *
              go_wp2_with fail
              go_round
              case rel => exact ⟨i + 1, by omega, HN.out, by go_num, by rw [HS.out.1, HP.out, IntWalk.wrap64_in (pw x : Int) ⟨by omega, by omega⟩, IntWalk.wrap64_in _ ⟨by omega, by omega⟩]; go_num, by rw [HS.out.2]; go_num⟩
              case measure => simp [intOf]; omega
        · obtain rfl : i = l.length := by omega
          rw [List.take_length] at *
          have H := HR.out HA.out
          have hk2 : kraft l ≤ 40000000 := by omega
          clear hk hu hu2
          generalize kraft l = K at *
          generalize used l = U at *
          have q : 32768 < K ∧ E = 30 ∨ K = 32768 ∧ E = 0 ∨ K ≠ 32768 ∧ ¬ 32768 < K ∧ U = 0 ∧ E = 0 ∨ K = 16384 ∧ U = 1 ∧ E = 0 ∨ K ≠ 32768 ∧ ¬ 32768 < K ∧ U ≠ 0 ∧ U ≠ 1 ∧ E = 31 ∨ K ≠ 32768 ∧ ¬ 32768 < K ∧ U = 1 ∧ K ≠ 16384 ∧ E = 31 := by
            by_cases g1 : 32768 < K
            · rw [if_pos g1] at H; omega
            · rw [if_neg g1] at H
              by_cases g2 : K = 32768 ∨ U = 0 ∨ U = 1 ∧ K = 16384
              · rw [if_pos g2] at H; omega
              · rw [if_neg g2] at H; omega
          clear H HR HB HE HA
          rcases q with ⟨g1, rfl⟩ | ⟨rfl, rfl⟩ | ⟨g1, g2, rfl, rfl⟩ | ⟨rfl, rfl, rfl⟩ | ⟨g1, g2, g3, g4, rfl⟩ | ⟨g1, g2, rfl, g4, rfl⟩
          · go_wp2_with fail
            go_ret
            exact ⟨rfl, rfl⟩
          · go_wp2_with fail
            go_ret
            exact ⟨rfl, rfl⟩
          · have d1 : ((K : Int) == 32768) = false := by rw [beq_eq_false_iff_ne]; omega
            go_wp2_with fail
            go_ret
            exact ⟨rfl, rfl⟩
          · go_wp2_with fail
            go_ret
            exact ⟨rfl, rfl⟩
          · have d1 : ((K : Int) == 32768) = false := by rw [beq_eq_false_iff_ne]; omega
            have d2 : ((U : Int) == 0) = false := by rw [beq_eq_false_iff_ne]; omega
            have d3 : ((U : Int) == 1) = false := by rw [beq_eq_false_iff_ne]; omega
            go_wp2_with fail
            go_ret
            exact ⟨rfl, rfl⟩
          · have d1 : ((K : Int) == 32768) = false := by rw [beq_eq_false_iff_ne]; omega
            have d2 : ((K : Int) == 16384) = false := by rw [beq_eq_false_iff_ne]; omega
            go_wp2_with fail
            go_ret
            exact ⟨rfl, rfl⟩

end Go.Proofs.Ytolcekbldpdmpaa
