/-
  Walks: Check (both), part, Parts.
-/
import Derived.BigQuiet
import Derived.Deep.QuietTactic
import Derived.Deep.RegionHeld3
import Derived.Test.YtahboomghjdjhaaGreatG04
import Derived.Test.YtahboomghjdjhaaGreatGOpen
import Derived.Test.YtahboomghjdjhaaGreatRows
namespace Go.Proofs.YtahboomghjdjhaaGreat
open Go.RowKit

theorem elem_u8 : Elem Tryz.prog 22 5 1 1 := Elem.mk' Tryz.underlying22 (z := .int .u8 0) (by kernel_rfl) rfl (by omega)
theorem elem_code : Elem Tryz.prog 98 123 2 8 := Elem.mk' Tryz.underlying98 (z := .agg #[.int .u32 0, .int .u8 0]) (by kernel_rfl) rfl (by omega)

section
variable {l : List Nat} {m : Int}
theorem can_arg (h : m < 1 ∨ 15 < m) : canE l m = 2 := by unfold canE; rw [if_pos h]
theorem can_many (h1 : 1 ≤ m) (h2 : m ≤ 15) (h : 320 < l.length) : canE l m = 4 := by unfold canE; rw [if_neg (by omega), if_pos h]
theorem can_big (h1 : 1 ≤ m) (h2 : m ≤ 15) (h3 : l.length ≤ 320) {i : Nat} (hi : i < l.length) (h : m < (nth l i : Nat)) : canE l m = 2 := by
  unfold canE
  rw [if_neg (by omega), if_neg (by omega), if_neg]
  intro ha
  have := of_decide_eq_true (List.all_eq_true.1 ha l[i] (List.getElem_mem hi))
  have e : nth l i = l[i] := by simp [nth, List.getElem?_eq_getElem hi]
  omega
theorem can_rest (h1 : 1 ≤ m) (h2 : m ≤ 15) (h3 : l.length ≤ 320) (h : ∀ i, i < l.length → ((nth l i : Nat) : Int) ≤ m) :
    canE l m = if 32768 < kraft l then 30 else if kraft l = 32768 ∨ used l = 0 ∨ used l = 1 ∧ kraft l = 16384 then 0 else 31 := by
  unfold canE
  rw [if_neg (by omega), if_neg (by omega), if_pos]
  rw [List.all_eq_true]
  intro x hx
  obtain ⟨i, hi, rfl⟩ := List.mem_iff_getElem.1 hx
  have := h i hi
  have e : nth l i = l[i] := by simp [nth, List.getElem?_eq_getElem hi]
  rw [e] at this
  exact decide_eq_true this
theorem kraft_step {i : Nat} (hi : i < l.length) : kraft (l.take (i + 1)) = kraft (l.take i) + (if nth l i = 0 then 0 else pw (nth l i)) ∧ used (l.take (i + 1)) = used (l.take i) + if nth l i = 0 then 0 else 1 := by
  rw [take_snoc l i hi, kraft_snoc, used_snoc]; exact ⟨rfl, rfl⟩
end

/-- A shift by a byte that a length leaves. -/
theorem pw_shl (x : Nat) : (2 : Int) ^ (15 - x) = ((pw x : Nat) : Int) := by unfold pw; simp

set_option maxHeartbeats 1000000 in
theorem check_any (A : Option Addr) (c : Nat) (l : List Nat) (m : Int) (w : World) (hl : Bs w A l) (hm : l.length ≤ 1001) (h1 : -9223372036854775808 ≤ m) (h2 : m ≤ 9223372036854775807) :
    Calls Tryz.prog 72 #[.slice A l.length c, .int .i64 m] w fun e w' => e = .returned (.int .i64 ((canE l m : Nat) : Int)) ∧ w = w' := by
  by_cases ha : m < 1 ∨ 15 < m
  · rw [can_arg ha]
    rcases ha with ha | ha
    all_goals
      go_enter Tryz.func72, Tryz.ntmps72
      go_wp2_with fail
      go_ret
      exact ⟨rfl, rfl⟩
  · by_cases hb : 320 < l.length
    · rw [can_many (by omega) (by omega) hb]
      have ha1 : ¬ m < 1 := by omega
      have ha2 : ¬ 15 < m := by omega
      clear ha
      go_enter Tryz.func72, Tryz.ntmps72
      go_wp2_with fail
      go_ret
      exact ⟨rfl, rfl⟩
    · have ha1 : 1 ≤ m := by omega
      have ha2 : m ≤ 15 := by omega
      have HB := Lib.hid fun i hi h => can_big (l := l) (i := i) ha1 ha2 (by omega) hi h
      have HR := Lib.hid fun h => can_rest (l := l) ha1 ha2 (by omega) h
      clear ha
      obtain ⟨E, hE⟩ : ∃ E, canE l m = E := ⟨_, rfl⟩
      have HE := Lib.hid hE
      rw [hE] at HB HR
      rw [hE]
      clear hE
      go_enter Tryz.func72, Tryz.ntmps72
      go_wp2_with fail
      go_loop [5, 6, 20] (fun a u v => ∃ i : Nat, i ≤ l.length ∧ (∀ k, k < i → ((nth l k : Nat) : Int) ≤ m) ∧ v = .int .i64 i ∧ a = .int .i64 ((kraft (l.take i) : Nat) : Int) ∧ u = .int .i64 ((used (l.take i) : Nat) : Int)) (fun _ _ v => l.length - (intOf v).toNat)
      case atStart => exact ⟨0, by omega, fun _ h => absurd h (by omega), rfl, rfl, rfl⟩
      case round =>
        obtain ⟨i, hi, hall, rfl, rfl, rfl⟩ := hrel
        have HA := Lib.hid hall; clear hall
        have hk := kraft_take_le l i
        have hu := used_le (l.take i)
        have hu2 : (l.take i).length ≤ i := List.length_take_le _ _
        by_cases hlt : i < l.length
        · obtain ⟨b, off, rfl, hcell, hx⟩ := hl.at_ hlt
          by_cases hbig : m < (nth l i : Nat)
          · have H := Lib.hid (HB.out i hlt hbig)
            generalize nth l i = x at *
            go_wp2_with fail
            go_ret
            rw [H.out]
            exact ⟨rfl, rfl⟩
          · have hn : ∀ k, k < i + 1 → ((nth l k : Nat) : Int) ≤ m := fun k hk => by
              rcases Nat.lt_or_ge k i with h | h
              · exact HA.out k h
              · obtain rfl : k = i := by omega
                omega
            have HN := Lib.hid hn; clear hn
            obtain ⟨s1, s2⟩ := kraft_step hlt
            by_cases h0 : nth l i = 0
            · rw [if_pos h0] at s1 s2
              rw [h0] at hcell hbig
              have HS := Lib.hid (And.intro s1 s2); clear s1 s2 h0
              go_wp2_with fail
              go_round
              case rel => exact ⟨i + 1, by omega, HN.out, by go_num, by rw [HS.out.1]; rfl, by rw [HS.out.2]; rfl⟩
              case measure => simp [intOf]; omega
            · rw [if_neg h0] at s1 s2
              have HS := Lib.hid (And.intro s1 s2); clear s1 s2
              have hp := pw_le (nth l i)
              have HP := Lib.hid (pw_shl (nth l i))
              have hx15 : nth l i ≤ 15 := by omega
              generalize nth l i = x at *
              go_wp2_with fail
              go_round
              case rel => exact ⟨i + 1, by omega, HN.out, by go_num, by rw [HS.out.1, HP.out, IntWalk.wrap64_in (pw x : Int) ⟨by omega, by omega⟩, IntWalk.wrap64_in _ ⟨by omega, by omega⟩]; go_num, by rw [HS.out.2]; go_num⟩
              case measure => simp [intOf]; omega
        · obtain rfl : i = l.length := by omega
          rw [List.take_length] at *
          have H := HR.out HA.out
          have hk2 : kraft l ≤ 40000000 := by omega
          clear hk hu hu2
          generalize kraft l = K at *
          generalize used l = U at *
          have q : 32768 < K ∧ E = 30 ∨ K = 32768 ∧ E = 0 ∨ K ≠ 32768 ∧ ¬ 32768 < K ∧ U = 0 ∧ E = 0 ∨ K = 16384 ∧ U = 1 ∧ E = 0 ∨ K ≠ 32768 ∧ ¬ 32768 < K ∧ U ≠ 0 ∧ U ≠ 1 ∧ E = 31 ∨ K ≠ 32768 ∧ ¬ 32768 < K ∧ U = 1 ∧ K ≠ 16384 ∧ E = 31 := by
            by_cases g1 : 32768 < K
            · rw [if_pos g1] at H; omega
            · rw [if_neg g1] at H
              by_cases g2 : K = 32768 ∨ U = 0 ∨ U = 1 ∧ K = 16384
              · rw [if_pos g2] at H; omega
              · rw [if_neg g2] at H; omega
          clear H HR HB HE HA
          rcases q with ⟨g1, rfl⟩ | ⟨rfl, rfl⟩ | ⟨g1, g2, rfl, rfl⟩ | ⟨rfl, rfl, rfl⟩ | ⟨g1, g2, g3, g4, rfl⟩ | ⟨g1, g2, rfl, g4, rfl⟩
          · go_wp2_with fail
            go_ret
            exact ⟨rfl, rfl⟩
          · go_wp2_with fail
            go_ret
            exact ⟨rfl, rfl⟩
          · have d1 : ((K : Int) == 32768) = false := by rw [beq_eq_false_iff_ne]; omega
            go_wp2_with fail
            go_ret
            exact ⟨rfl, rfl⟩
          · go_wp2_with fail
            go_ret
            exact ⟨rfl, rfl⟩
          · have d1 : ((K : Int) == 32768) = false := by rw [beq_eq_false_iff_ne]; omega
            have d2 : ((U : Int) == 0) = false := by rw [beq_eq_false_iff_ne]; omega
            have d3 : ((U : Int) == 1) = false := by rw [beq_eq_false_iff_ne]; omega
            go_wp2_with fail
            go_ret
            exact ⟨rfl, rfl⟩
          · have d1 : ((K : Int) == 32768) = false := by rw [beq_eq_false_iff_ne]; omega
            have d2 : ((K : Int) == 16384) = false := by rw [beq_eq_false_iff_ne]; omega
            go_wp2_with fail
            go_ret
            exact ⟨rfl, rfl⟩

set_option maxHeartbeats 1000000 in
theorem part_any (x : Nat) (w : World) (hx : x ≤ 15) :
    Calls Tryz.prog 67 #[.int .u8 (x : Int)] w fun e w' => e = .returned (.int .i64 ((pw x : Nat) : Int)) ∧ w' = w := by
  go_enter Tryz.func67, Tryz.ntmps67
  go_wp2_with fail
  go_loop [3, 4] (fun p v => ∃ i : Nat, i ≤ x ∧ v = .int .i64 i ∧ p = .int .i64 ((pw i : Nat) : Int)) (fun _ v => x - (intOf v).toNat)
  case atStart => exact ⟨0, by omega, rfl, rfl⟩
  case round =>
    obtain ⟨i, hi, rfl, rfl⟩ := hrel
    have hp := pw_le i
    by_cases hlt : i < x
    · have hs := pw_succ (n := i) (by omega)
      have HS := Lib.hid (show (pw i : Int) / 2 = ((pw (i + 1) : Nat) : Int) by omega); clear hs
      go_wp2_with fail
      go_round
      case rel => exact ⟨i + 1, by omega, by go_num, by rw [HS.out]⟩
      case measure => simp [intOf]; omega
    · obtain rfl : i = x := by omega
      go_wp2_with fail
      go_ret
      exact ⟨rfl, rfl⟩

set_option maxHeartbeats 1000000 in
theorem parts_any (A : Option Addr) (c : Nat) (l : List Nat) (w : World) (hl : Bs w A l) (hm : l.length ≤ 1001) (h15 : ∀ x ∈ l, x ≤ 15) :
    Calls Tryz.prog 87 #[.slice A l.length c] w fun e w' => e = .returned (.tuple #[.int .i64 ((kraft l : Nat) : Int), .int .i64 ((used l : Nat) : Int)]) ∧ w' = w := by
  have H15 := Lib.hid h15; clear h15
  go_enter Tryz.func87, Tryz.ntmps87
  go_wp2_with fail
  go_loop [4, 5, 6] (fun a u v => ∃ i : Nat, i ≤ l.length ∧ v = .int .i64 i ∧ a = .int .i64 ((kraft (l.take i) : Nat) : Int) ∧ u = .int .i64 ((used (l.take i) : Nat) : Int)) (fun _ _ v => l.length - (intOf v).toNat)
  case atStart => exact ⟨0, by omega, rfl, rfl, rfl⟩
  case round =>
    obtain ⟨i, hi, rfl, rfl, rfl⟩ := hrel
    have hk := kraft_take_le l i
    have hu := used_le (l.take i)
    have hu2 : (l.take i).length ≤ i := List.length_take_le _ _
    by_cases hlt : i < l.length
    · obtain ⟨b, off, rfl, hcell, hx⟩ := hl.at_ hlt
      obtain ⟨s1, s2⟩ := kraft_step hlt
      have hx15 : nth l i ≤ 15 := by
        have e : nth l i = l[i] := by simp [nth, List.getElem?_eq_getElem hlt]
        rw [e]; exact H15.out _ (List.getElem_mem hlt)
      by_cases h0 : nth l i = 0
      · rw [if_pos h0] at s1 s2
        rw [h0] at hcell
        have HS := Lib.hid (And.intro s1 s2); clear s1 s2 h0
        go_wp2_with fail
        go_round
        case rel => exact ⟨i + 1, by omega, by go_num, by rw [HS.out.1]; rfl, by rw [HS.out.2]; rfl⟩
        case measure => simp [intOf]; omega
      · rw [if_neg h0] at s1 s2
        have HS := Lib.hid (And.intro s1 s2); clear s1 s2
        have hp := pw_le (nth l i)
        have HP := Lib.hid fun w => part_any (nth l i) w hx15
        generalize nth l i = x at *
        go_wp2_with fail
        refine (HP.out _).mono ?_
        rintro e w1 ⟨rfl, rfl⟩
        go_wp2_with fail
        go_round
        case rel => exact ⟨i + 1, by omega, by go_num, by rw [HS.out.1]; go_num, by rw [HS.out.2]; go_num⟩
        case measure => simp [intOf]; omega
    · obtain rfl : i = l.length := by omega
      rw [List.take_length] at *
      go_wp2_with fail
      go_ret2
      exact ⟨rfl, rfl⟩

set_option maxHeartbeats 1000000 in
theorem rcheck_any (A : Option Addr) (c : Nat) (l : List Nat) (m : Int) (w : World) (hl : Bs w A l) (hm : l.length ≤ 1001) (h1 : -9223372036854775808 ≤ m) (h2 : m ≤ 9223372036854775807) :
    Calls Tryz.prog 63 #[.slice A l.length c, .int .i64 m] w fun e w' => e = .returned (.int .i64 ((canE l m : Nat) : Int)) ∧ w' = w := by
  by_cases ha : m < 1 ∨ 15 < m
  · rw [can_arg ha]
    rcases ha with ha | ha
    all_goals
      go_enter Tryz.func63, Tryz.ntmps63
      go_wp2_with fail
      go_ret
      exact ⟨rfl, rfl⟩
  · by_cases hb : 320 < l.length
    · rw [can_many (by omega) (by omega) hb]
      have ha1 : ¬ m < 1 := by omega
      have ha2 : ¬ 15 < m := by omega
      clear ha
      go_enter Tryz.func63, Tryz.ntmps63
      go_wp2_with fail
      go_ret
      exact ⟨rfl, rfl⟩
    · have ha1 : 1 ≤ m := by omega
      have ha2 : m ≤ 15 := by omega
      have HB := Lib.hid fun i hi h => can_big (l := l) (i := i) ha1 ha2 (by omega) hi h
      have HR := Lib.hid fun h => can_rest (l := l) ha1 ha2 (by omega) h
      clear ha
      obtain ⟨E, hE⟩ : ∃ E, canE l m = E := ⟨_, rfl⟩
      rw [hE] at HB HR
      rw [hE]
      clear hE
      go_enter Tryz.func63, Tryz.ntmps63
      go_wp2_with fail
      go_loop [5] (fun v => ∃ i : Nat, i ≤ l.length ∧ (∀ k, k < i → ((nth l k : Nat) : Int) ≤ m) ∧ v = .int .i64 i) (fun v => l.length - (intOf v).toNat)
      case atStart => exact ⟨0, by omega, fun _ h => absurd h (by omega), rfl⟩
      case round =>
        obtain ⟨i, hi, hall, rfl⟩ := hrel
        have HA := Lib.hid hall; clear hall
        by_cases hlt : i < l.length
        · obtain ⟨b, off, rfl, hcell, hx⟩ := hl.at_ hlt
          by_cases hbig : m < (nth l i : Nat)
          · have H := Lib.hid (HB.out i hlt hbig)
            generalize nth l i = x at *
            go_wp2_with fail
            go_ret
            rw [H.out]
            exact ⟨rfl, rfl⟩
          · have hn : ∀ k, k < i + 1 → ((nth l k : Nat) : Int) ≤ m := fun k hk => by
              rcases Nat.lt_or_ge k i with h | h
              · exact HA.out k h
              · obtain rfl : k = i := by omega
                omega
            have HN := Lib.hid hn; clear hn
            generalize nth l i = x at *
            go_wp2_with fail
            go_round
            case rel => exact ⟨i + 1, by omega, HN.out, by go_num⟩
            case measure => simp [intOf]; omega
        · obtain rfl : i = l.length := by omega
          have H := HR.out HA.out
          have HP := Lib.hid fun w h => parts_any A c l w h hm (fun x hx => by
            obtain ⟨k, hk, rfl⟩ := List.mem_iff_getElem.1 hx
            have := HA.out k hk
            have e : nth l k = l[k] := by simp [nth, List.getElem?_eq_getElem hk]
            omega)
          have hk2 := kraft_le l
          generalize kraft l = K at *
          generalize used l = U at *
          have q : 32768 < K ∧ E = 30 ∨ K = 32768 ∧ E = 0 ∨ K ≠ 32768 ∧ ¬ 32768 < K ∧ U = 0 ∧ E = 0 ∨ K = 16384 ∧ U = 1 ∧ E = 0 ∨ K ≠ 32768 ∧ ¬ 32768 < K ∧ U ≠ 0 ∧ U ≠ 1 ∧ E = 31 ∨ K ≠ 32768 ∧ ¬ 32768 < K ∧ U = 1 ∧ K ≠ 16384 ∧ E = 31 := by
            by_cases g1 : 32768 < K
            · rw [if_pos g1] at H; omega
            · rw [if_neg g1] at H
              by_cases g2 : K = 32768 ∨ U = 0 ∨ U = 1 ∧ K = 16384
              · rw [if_pos g2] at H; omega
              · rw [if_neg g2] at H; omega
          clear H HR HB HA
          rcases q with ⟨g1, rfl⟩ | ⟨rfl, rfl⟩ | ⟨g1, g2, rfl, rfl⟩ | ⟨rfl, rfl, rfl⟩ | ⟨g1, g2, g3, g4, rfl⟩ | ⟨g1, g2, rfl, g4, rfl⟩
          · go_wp2_with fail
            refine (HP.out _ hl).mono ?_
            rintro e w1 ⟨rfl, rfl⟩
            go_wp2_with fail
            go_ret
            exact ⟨rfl, rfl⟩
          · go_wp2_with fail
            refine (HP.out _ hl).mono ?_
            rintro e w1 ⟨rfl, rfl⟩
            go_wp2_with fail
            go_ret
            exact ⟨rfl, rfl⟩
          · have d1 : ((K : Int) == 32768) = false := by rw [beq_eq_false_iff_ne]; omega
            go_wp2_with fail
            refine (HP.out _ hl).mono ?_
            rintro e w1 ⟨rfl, rfl⟩
            go_wp2_with fail
            go_ret
            exact ⟨rfl, rfl⟩
          · go_wp2_with fail
            refine (HP.out _ hl).mono ?_
            rintro e w1 ⟨rfl, rfl⟩
            go_wp2_with fail
            go_ret
            exact ⟨rfl, rfl⟩
          · have d1 : ((K : Int) == 32768) = false := by rw [beq_eq_false_iff_ne]; omega
            have d2 : ((U : Int) == 0) = false := by rw [beq_eq_false_iff_ne]; omega
            have d3 : ((U : Int) == 1) = false := by rw [beq_eq_false_iff_ne]; omega
            go_wp2_with fail
            refine (HP.out _ hl).mono ?_
            rintro e w1 ⟨rfl, rfl⟩
            go_wp2_with fail
            go_ret
            exact ⟨rfl, rfl⟩
          · have d1 : ((K : Int) == 32768) = false := by rw [beq_eq_false_iff_ne]; omega
            have d2 : ((K : Int) == 16384) = false := by rw [beq_eq_false_iff_ne]; omega
            go_wp2_with fail
            refine (HP.out _ hl).mono ?_
            rintro e w1 ⟨rfl, rfl⟩
            go_wp2_with fail
            go_ret
            exact ⟨rfl, rfl⟩
end Go.Proofs.YtahboomghjdjhaaGreat

/-
  Walks: count, begin, next.
-/
namespace Go.Proofs.YtahboomghjdjhaaGreat
open Go.RowKit

/-- The counts, the first ones turned into codes. -/
def mixF (f : Nat → Nat) (n : Nat) (k : Nat) : Nat := if k < n then frF f k else f k

end Go.Proofs.YtahboomghjdjhaaGreat

/-
  Walks: Codes; the reference's Made and Codes; Same.
-/
namespace Go.Proofs.YtahboomghjdjhaaGreat
open Go.RowKit

/-- Codes as they lie in memory. -/
def codV (l : List (Nat × Nat)) : List Value := prs (fun c => .int .u32 ((c.1 : Nat) : Int)) (fun c => .int .u8 ((c.2 : Nat) : Int)) l
theorem codV_length (l : List (Nat × Nat)) : (codV l).length = l.length * 2 := prs_length l
/-- What Codes answers. -/
def canL (l : List Nat) (m : Int) : List (Nat × Nat) := if canE l m = 0 then codesL l else []
def CodRes (w w' : World) (e : Ending) (l : List Nat) (m : Int) : Prop :=
  ∃ B d, e = .returned (.tuple #[.slice B (canL l m).length d, .int .i64 ((canE l m : Nat) : Int)]) ∧ Builds w w' 123 2 B (canL l m).length d (codV (canL l m))
/-- The codes of the first i places. -/
def someC (l : List Nat) (p : Nat → Bool) : List (Nat × Nat) := (List.range l.length).map fun k => if p k = true then codeAt l k else (0, 0)
theorem someC_length (l : List Nat) (p : Nat → Bool) : (someC l p).length = l.length := by simp [someC]
theorem someC_none (l : List Nat) (p : Nat → Bool) (h : ∀ k, k < l.length → p k = true → nth l k = 0) : someC l p = List.replicate l.length (0, 0) := by
  apply List.ext_getElem
  · simp [someC]
  · intro k h1 h2
    rw [someC_length] at h1
    simp only [someC, List.getElem_map, List.getElem_range, List.getElem_replicate]
    split
    · rename_i hp
      unfold codeAt; rw [if_pos (h k h1 hp)]
    · rfl
theorem someC_all (l : List Nat) (p : Nat → Bool) (h : ∀ k, k < l.length → p k = true ∨ nth l k = 0) : someC l p = codesL l := by
  unfold someC codesL
  apply List.map_congr_left
  intro k hk
  rcases h k (List.mem_range.1 hk) with h | h
  · rw [if_pos h]
  · split
    · rfl
    · unfold codeAt; rw [if_pos h]
theorem someC_congr (l : List Nat) {p q : Nat → Bool} (h : ∀ k, k < l.length → p k = q k ∨ nth l k = 0) : someC l p = someC l q := by
  unfold someC
  apply List.map_congr_left
  intro k hk
  rcases h k (List.mem_range.1 hk) with h | h
  · rw [h]
  · have : codeAt l k = (0, 0) := by unfold codeAt; rw [if_pos h]
    rw [this]; simp
theorem someC_set (l : List Nat) {p q : Nat → Bool} {i : Nat} (_ : i < l.length) (hq : q i = true) (h : ∀ k, k < l.length → k ≠ i → p k = q k ∨ nth l k = 0) : (someC l p).set i (codeAt l i) = someC l q := by
  apply List.ext_getElem
  · simp [someC]
  · intro k h1 h2
    rw [someC_length] at h2
    rw [List.getElem_set]
    by_cases e : i = k
    · subst e
      rw [if_pos rfl]
      simp [someC, hq]
    · rw [if_neg e]
      simp only [someC, List.getElem_map, List.getElem_range]
      rcases h k h2 (fun h => e h.symm) with h | h
      · rw [h]
      · have : codeAt l k = (0, 0) := by unfold codeAt; rw [if_pos h]
        rw [this]; simp

theorem nth_le {l : List Nat} {B : Nat} (h : ∀ x ∈ l, x ≤ B) (i : Nat) : nth l i ≤ B := by
  unfold nth
  rcases Nat.lt_or_ge i l.length with hi | hi
  · rw [List.getElem?_eq_getElem hi]; exact h _ (List.getElem_mem hi)
  · rw [List.getElem?_eq_none hi]; exact Nat.zero_le _

/-- What the reference has made: all shorter ones, and those of length n ahead of i. -/
def madeP (l : List Nat) (n i k : Nat) : Bool := decide (nth l k < n ∨ nth l k = n ∧ k < i)

set_option maxHeartbeats 4000000 in
set_option maxRecDepth 100000 in
theorem made_any (A : Option Addr) (c : Nat) (l : List Nat) (w : World) (hl : Bs w A l) (hm : l.length ≤ 1001) (h15 : ∀ x ∈ l, x ≤ 15) (hk : kraft l ≤ 32768) :
    Calls Tryz.prog 53 #[.slice A l.length c] w fun e w' => ∃ B d, e = .returned (.slice B l.length d) ∧ Builds w w' 123 2 B l.length d (codV (codesL l)) := by
  have n15 := nth_le h15
  have HAT := Lib.hid fun n (hn : n ≤ 16) => (show atF (cnt l) n ≤ 32768 from Nat.le_trans (atF_mono _ hn) (by rw [← kraft_at l h15]; exact hk))
  have HFA := Lib.hid (fr_at (cnt l) (cnt_0 l))
  have H15 := Lib.hid n15
  clear h15 hk n15
  go_enter Tryz.func53, Tryz.ntmps53
  go_wp2_with (at_make; refine makes elem_code (z := .agg #[.int .u32 0, .int .u8 0]) (by kernel_rfl) rfl _ _ rfl l.length rfl rfl rfl (by omega) (by omega) (codV (List.replicate l.length (0, 0))) (made_prs (0, 0) rfl _) ?_; intro w3 hB3)
  go_loopg [4, 5] 15 (fun gk av nv wr => ∃ n : Nat, 1 ≤ n ∧ n ≤ 16 ∧ gk = 16 - n ∧ nv = .int .i64 (n : Int) ∧ av = .int .i64 ((atF (cnt l) n : Nat) : Int) ∧ Builds w wr 123 2 (some ⟨w.heap.size, 0, none⟩) l.length l.length (codV (someC l (madeP l n 0))))
  case atStart =>
    refine ⟨1, by omega, by omega, by omega, rfl, by simp [atF, cnt_0], ?_⟩
    rw [someC_none]
    · exact hB3
    · intro k _ h; simp [madeP] at h; omega
  case round =>
    obtain ⟨n, hn1, hn2, hgk, rfl, rfl, hB⟩ := hrel
    by_cases hlt : n ≤ 15
    · have hd15 : decide ((n : Int) ≤ 15) = true := by simp; omega
      have hat := HAT.out n (by omega)
      have hat2 := HAT.out (n + 1) (by omega)
      have HS := Lib.hid (show atF (cnt l) (n + 1) = atF (cnt l) n + cnt l n * pw n from rfl)
      have HFN := Lib.hid (HFA.out n hlt)
      go_wp2_with fail
      obtain ⟨wo, rfl⟩ : ∃ wo : World, wo = wr := ⟨_, rfl⟩
      go_loopg [4, 6] l.length (fun gk av iv wr => ∃ i : Nat, i ≤ l.length ∧ gk = l.length - i ∧ iv = .int .i64 (i : Int) ∧ av = .int .i64 ((atF (cnt l) n + cnt (l.take i) n * pw n : Nat) : Int) ∧ Builds w wr 123 2 (some ⟨w.heap.size, 0, none⟩) l.length l.length (codV (someC l (madeP l n i))))
      case atStart => exact ⟨0, by omega, by omega, rfl, by simp [cnt_nil], hB⟩
      case round =>
        obtain ⟨i, hi, hgk2, rfl, rfl, hB⟩ := hrel
        have hl1 := hl.below hB.1
        have hct := cnt_take_le l n i
        have hcm := Nat.mul_le_mul_right (pw n) hct
        by_cases hlti : i < l.length
        · obtain ⟨b, off, rfl, hcell, hx⟩ := hl1.at_ hlti
          have HT := Lib.hid (take_snoc l i hlti)
          by_cases he : nth l i = n
          · have HP := Lib.hid fun w => part_any n w hlt
            have hpp := pw_pos n
            have HCA := Lib.hid (show codeAt l i = (frF (cnt l) n + cnt (l.take i) n, n) by unfold codeAt; rw [he, if_neg (by omega)])
            have HM := Lib.hid (show (someC l (madeP l n i)).set i (codeAt l i) = someC l (madeP l n (i + 1)) from someC_set l hlti (by simp [madeP, he]) (fun k _ hne => by
              left; unfold madeP; rw [Bool.eq_iff_iff]; simp; omega))
            have HQ := Lib.hid (show (atF (cnt l) n + cnt (l.take i) n * pw n) / pw n = frF (cnt l) n + cnt (l.take i) n by rw [← HFN.out, ← Nat.add_mul, Nat.mul_div_cancel _ (by omega)])
            have hQle : frF (cnt l) n + cnt (l.take i) n ≤ 32768 := by rw [← HQ.out]; exact Nat.le_trans (Nat.div_le_self _ _) (by have := HS.out; omega)
            have HC1 := Lib.hid (show atF (cnt l) n + cnt (l.take (i + 1)) n * pw n = (atF (cnt l) n + cnt (l.take i) n * pw n) + pw n by rw [HT.out, cnt_snoc, if_pos ⟨by omega, he.symm⟩, Nat.add_mul]; omega)
            have hs32 : atF (cnt l) n + cnt (l.take i) n * pw n ≤ 32768 := by have := HS.out; omega
            have hpw := pw_le n
            rw [he] at hcell
            have hc4 := hB.cell (i * 2) (by omega)
            have hc5 := hB.cell (i * 2 + 1) (by omega)
            have hcx := (codV_length (someC l (madeP l n i)))
            rw [someC_length] at hcx
            have hq4 : i * 2 < (codV (someC l (madeP l n i))).length := by omega
            have hq5 : i * 2 + 1 < (codV (someC l (madeP l n i))).length := by omega
            rw [List.getElem?_eq_getElem hq4] at hc4
            rw [List.getElem?_eq_getElem hq5] at hc5
            have hf4 := hB.free (i * 2)
            have hf5 := hB.free (i * 2 + 1)
            have hlt4 := (hB.2.lt _ rfl).2
            have HB5 := Lib.hid ((hB.set (i * 2) (by omega) (.int .u32 ((frF (cnt l) n + cnt (l.take i) n : Nat) : Int))).set (i * 2 + 1) (by omega) (.int .u8 (n : Int)))
            generalize (codV (someC l (madeP l n i)))[i * 2] = v4 at *
            generalize (codV (someC l (madeP l n i)))[i * 2 + 1] = v5 at *
            clear hq4 hq5 hcx he hct hcm
            generalize frF (cnt l) n + cnt (l.take i) n = Y at *
            generalize hSS : atF (cnt l) n + cnt (l.take i) n * pw n = S at *
            generalize hpn : pw n = p at *
            have HPN := Lib.hid hpn; clear hpn
            have HSS := Lib.hid hSS; clear hSS
            go_wp2_with fail
            refine (HP.out _).mono ?_
            rintro e w4 ⟨rfl, rfl⟩
            have hdiv : (S : Int) / p = (Y : Int) := by rw [← HQ.out]; simp
            go_wp2_with fail
            refine (HP.out _).mono ?_
            rintro e w5 ⟨rfl, rfl⟩
            go_wp2_with fail
            go_roundg (l.length - (i + 1))
            case measure => omega
            case rel =>
              refine ⟨i + 1, by omega, by omega, by go_num, by rw [HC1.out]; go_num, ?_⟩
              have h := HB5.out
              rw [show ((codV (someC l (madeP l n i))).set (i * 2) (.int .u32 (Y : Int))).set (i * 2 + 1) (.int .u8 (n : Int)) = codV ((someC l (madeP l n i)).set i (Y, n)) from prs_set _ i (Y, n) (by rw [someC_length]; omega), ← HCA.out, HM.out] at h
              exact h
          · have HM := Lib.hid (show someC l (madeP l n i) = someC l (madeP l n (i + 1)) from someC_congr l (fun k _ => by
              left; unfold madeP; rw [Bool.eq_iff_iff]; simp
              by_cases e : k = i
              · subst e; omega
              · omega))
            have HC1 := Lib.hid (show cnt (l.take (i + 1)) n = cnt (l.take i) n by rw [HT.out, cnt_snoc, if_neg (fun h => he h.2.symm)])
            have hd : (((nth l i : Nat) : Int) == (n : Int)) = false := by rw [beq_eq_false_iff_ne]; omega
            generalize nth l i = x at *
            go_wp2_with fail
            go_roundg (l.length - (i + 1))
            case measure => omega
            case rel => exact ⟨i + 1, by omega, by omega, by go_num, by rw [HC1.out], by rw [← HM.out]; exact hB⟩
        · obtain rfl : i = l.length := by omega
          rw [List.take_length] at *
          have HM := Lib.hid (show someC l (madeP l n l.length) = someC l (madeP l (n + 1) 0) from someC_congr l (fun k hk => by
            left; unfold madeP; rw [Bool.eq_iff_iff]; simp; omega))
          go_wp2_with fail
          go_roundg (16 - (n + 1))
          case measure => omega
          case rel => exact ⟨n + 1, by omega, by omega, by omega, by go_num, by rw [HS.out], by rw [← HM.out]; exact hB⟩
    · obtain rfl : n = 16 := by omega
      have HM := Lib.hid (show someC l (madeP l 16 0) = codesL l from someC_all l _ (fun k _ => by
        left; unfold madeP; simp; have := H15.out k; omega))
      go_wp2_with fail
      go_ret
      rw [HM.out] at hB
      exact ⟨_, _, rfl, hB⟩

/-- A code's two cells. -/
theorem Rd.cod {w : World} {A : Option Addr} {l : List (Nat × Nat)} (h : Rd w A (codV l)) {i : Nat} (hi : i < l.length) :
    ∃ b off, A = some ⟨b, off, none⟩ ∧ w.cell? ⟨b, off + i * 2, none⟩ = some (.int .u32 (((l[i]'hi).1 : Nat) : Int)) ∧ w.cell? ⟨b, off + i * 2 + 1, none⟩ = some (.int .u8 (((l[i]'hi).2 : Nat) : Int)) := by
  obtain ⟨b, off, hA, hc⟩ := h.at_ (by rw [codV_length]; omega)
  obtain ⟨h1, h2⟩ := prs_get (f := fun c : Nat × Nat => .int .u32 ((c.1 : Nat) : Int)) (g := fun c : Nat × Nat => .int .u8 ((c.2 : Nat) : Int)) l i l[i] (List.getElem?_eq_getElem hi)
  refine ⟨b, off, hA, ?_, ?_⟩
  · rw [Nat.mul_comm]; exact hc _ _ h1
  · rw [Nat.add_assoc, Nat.mul_comm i 2]; exact hc _ _ h2

end Go.Proofs.YtahboomghjdjhaaGreat

/-
  The law CanonCodes, walked; are, eight, alive.
-/
namespace Go.Proofs.YtahboomghjdjhaaGreat
open Go.RowKit

end Go.Proofs.YtahboomghjdjhaaGreat

/-
  begins; the law CanonApart, walked.
-/
namespace Go.Proofs.YtahboomghjdjhaaGreat
open Go.RowKit

/-- Does a code begin another one: what is answered. -/
def BegRes (w w' : World) (e : Ending) (a b : Nat × Nat) : Prop := e = .returned (.bool (begB a b)) ∧ Below w.heap.size w w'
theorem codesL_get (l : List Nat) (i : Nat) (h : i < (codesL l).length) : (codesL l)[i] = codeAt l i := by simp [codesL]
/-- The two cells of a place's code. -/
theorem Rd.at_code {w : World} {A : Option Addr} {l : List Nat} (h : Rd w A (codV (codesL l))) {i : Nat} (hi : i < l.length) :
    ∃ b off, A = some ⟨b, off, none⟩ ∧ w.cell? ⟨b, off + i * 2, none⟩ = some (.int .u32 (((codeAt l i).1 : Nat) : Int)) ∧ w.cell? ⟨b, off + i * 2 + 1, none⟩ = some (.int .u8 (((nth l i : Nat)) : Int)) := by
  obtain ⟨b, off, h1, h2, h3⟩ := h.cod (i := i) (by rw [codesL_length]; exact hi)
  rw [codesL_get] at h2 h3
  rw [code_two] at h3
  exact ⟨b, off, h1, h2, h3⟩

end Go.Proofs.YtahboomghjdjhaaGreat
