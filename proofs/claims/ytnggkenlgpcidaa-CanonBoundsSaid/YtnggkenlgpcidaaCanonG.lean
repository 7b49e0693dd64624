/-
  The law CanonBounds, walked.
-/
import Derived.Test.YtnggkenlgpcidaaCanonD
import Derived.Test.YtnggkenlgpcidaaCanonP
namespace Go.Proofs.Ytnggkenlgpcidaa
open Go.RowKit

theorem pw_half {n : Nat} (h : 1 ≤ n) : pw n ≤ 16384 := by
  have := Nat.pow_le_pow_right (n := 2) (by omega) (show 15 - n ≤ 14 by omega)
  exact this
theorem pw_quarter {n : Nat} (h : 2 ≤ n) : pw n ≤ 8192 := by
  have := Nat.pow_le_pow_right (n := 2) (by omega) (show 15 - n ≤ 13 by omega)
  exact this
theorem kraft_used (l : List Nat) : kraft l ≤ used l * 16384 := by
  induction l with
  | nil => simp [kraft]
  | cons x l ih =>
    have e : kraft (x :: l) = (if x = 0 then 0 else pw x) + kraft l := by simp [kraft]
    have e2 : used (x :: l) = (if x = 0 then 0 else 1) + used l := by
      unfold used
      by_cases h : x = 0
      · subst h; simp
      · rw [if_neg h, List.filter_cons, if_pos (by simp; omega), List.length_cons]; omega
    rw [e, e2]
    by_cases h : x = 0
    · rw [if_pos h, if_pos h]; omega
    · rw [if_neg h, if_neg h]
      have := pw_half (n := x) (by omega)
      omega

/-- One length more. -/
theorem more_E {l : List Nat} {m : Int} {n : Nat} (h : canE l m = 0) (hn : n ≠ 0) (hlen : l.length ≤ 319) :
    (m < n → canE (l ++ [n]) m = 2) ∧ ((n : Int) ≤ m → used l = 0 → (canE (l ++ [n]) m = 0 ↔ n = 1)) ∧ ((n : Int) ≤ m → used l = 1 → (n = 1 → canE (l ++ [n]) m = 0) ∧ (n ≠ 1 → canE (l ++ [n]) m = 31)) ∧ ((n : Int) ≤ m → 2 ≤ used l → canE (l ++ [n]) m = 30) := by
  obtain ⟨g1, g2, g3, g4, g5, g6⟩ := canE_ok h
  have hk := kraft_snoc l n
  have hu := used_snoc l n
  rw [if_neg hn] at hk hu
  have hku := kraft_used l
  have hp1 := pw_pos n
  have hp2 := pw_half (n := n) (by omega)
  have hE : (n : Int) ≤ m → canE (l ++ [n]) m = if 32768 < kraft (l ++ [n]) then 30 else if kraft (l ++ [n]) = 32768 ∨ used (l ++ [n]) = 0 ∨ used (l ++ [n]) = 1 ∧ kraft (l ++ [n]) = 16384 then 0 else 31 := fun hnm => by
    unfold canE
    rw [if_neg (by omega), if_neg (by rw [List.length_append, List.length_singleton]; omega), if_pos]
    rw [List.all_eq_true]
    intro x hx
    rcases List.mem_append.1 hx with hx | hx
    · exact decide_eq_true (g4 x hx)
    · rw [List.mem_singleton.1 hx]; exact decide_eq_true hnm
  rw [hk, hu] at hE
  have p1 : n = 1 → pw n = 16384 := fun h => by rw [h]; rfl
  have p2 : n ≠ 1 → pw n ≤ 8192 := fun h => pw_quarter (by omega)
  generalize pw n = P at *
  generalize kraft l = K at *
  generalize used l = U at *
  refine ⟨fun hb => ?_, fun hb h0 => ?_, fun hb h0 => ⟨fun h1 => ?_, fun h1 => ?_⟩, fun hb h0 => ?_⟩
  · unfold canE
    rw [if_neg (by omega), if_neg (by rw [List.length_append, List.length_singleton]; omega), if_neg]
    intro ha
    have := of_decide_eq_true (List.all_eq_true.1 ha n (List.mem_append.2 (.inr (List.mem_singleton.2 rfl))))
    omega
  · rw [hE hb, if_neg (by omega)]
    by_cases h1 : n = 1
    · rw [if_pos (by have := p1 h1; omega)]; exact ⟨fun _ => h1, fun _ => rfl⟩
    · rw [if_neg (by have := p2 h1; omega)]; exact ⟨fun h => by omega, fun h => absurd h h1⟩
  · rw [hE hb, if_neg (by have := p1 h1; omega), if_pos (by have := p1 h1; omega)]
  · rw [hE hb, if_neg (by have := p2 h1; omega), if_neg (by have := p2 h1; omega)]
  · rw [hE hb, if_pos (by omega)]

set_option maxHeartbeats 4000000 in
set_option maxRecDepth 100000 in
theorem law_bounds (A : Option Addr) (l : List Nat) (c : Nat) (m : Int) (n : Nat) (w : World) (hin : InBs w A l) (h1 : -9223372036854775808 ≤ m) (h2 : m ≤ 9223372036854775807) (h3 : n < 256) :
    Calls Try.prog 8 #[.slice A l.length c, .int .i64 m, .int .u8 (n : Int)] w fun e w' => e = .returned (.bool true) ∧ Below w.heap.size w w' := by
  obtain ⟨hl, hA, hm⟩ := hin
  unfold maxLen at hm
  have hrd := hl.rd hA
  clear hA
  by_cases hbig : 319 < l.length
  · go_enter Try.func8, Try.ntmps8
    go_wp2_with fail
    refine (canon_alive_any _).mono ?_
    rintro e w1 ⟨rfl, hb1⟩
    go_wp2_with fail
    go_ret
    exact ⟨rfl, hb1⟩
  · have HK := Lib.hid fun w h => check_any A c l m w h (by omega) h1 h2
    by_cases h0 : canE l m = 0
    · by_cases hn : n = 0
      · subst hn
        rw [h0] at HK
        clear h0
        go_enter Try.func8, Try.ntmps8
        go_wp2_with fail
        refine (canon_alive_any _).mono ?_
        rintro e w1 ⟨rfl, hb1⟩
        go_wp2_with fail
        refine (HK.out _ (hl.below hb1)).mono ?_
        rintro e w2 ⟨rfl, rfl⟩
        go_wp2_with fail
        go_ret
        exact ⟨rfl, hb1⟩
      · obtain ⟨g1, g2, g3, g4, g5, g6⟩ := canE_ok h0
        obtain ⟨k1, k2, k3, k4⟩ := more_E h0 hn (by omega)
        have HC := Lib.hid fun A c nl w (hnl : nl = (l ++ [n]).length) (h : Bs w A (l ++ [n])) => (by subst hnl; exact check_any A c (l ++ [n]) m w h (by rw [List.length_append, List.length_singleton]; omega) h1 h2 : Calls Try.prog 10 #[.slice A nl c, .int .i64 m] w fun e w' => e = .returned (.int .i64 ((canE (l ++ [n]) m : Nat) : Int)) ∧ w = w')
        have hEle := canE_le (l ++ [n]) m
        have hu := used_le l
        have hz : ((n : Int) == 0) = false := by rw [beq_eq_false_iff_ne]; omega
        have H256 := Lib.hid (show ∀ x ∈ l ++ [n], x < 256 from fun x hx => (List.mem_append.1 hx).elim (hl.2 x) (fun h => by rw [List.mem_singleton.1 h]; exact h3))
        rw [h0] at HK
        clear h0 g4 g6
        have q : m < n ∧ canE (l ++ [n]) m = 2 ∨ (n : Int) ≤ m ∧ used l = 0 ∧ n = 1 ∧ canE (l ++ [n]) m = 0 ∨ (n : Int) ≤ m ∧ used l = 0 ∧ n ≠ 1 ∧ canE (l ++ [n]) m ≠ 0 ∨ (n : Int) ≤ m ∧ used l = 1 ∧ n = 1 ∧ canE (l ++ [n]) m = 0 ∨ (n : Int) ≤ m ∧ used l = 1 ∧ n ≠ 1 ∧ canE (l ++ [n]) m = 31 ∨ (n : Int) ≤ m ∧ 2 ≤ used l ∧ canE (l ++ [n]) m = 30 := by
          by_cases a1 : m < n
          · exact .inl ⟨a1, k1 a1⟩
          · have a2 : (n : Int) ≤ m := by omega
            have a3 : used l = 0 ∨ used l = 1 ∨ 2 ≤ used l := by omega
            rcases a3 with a3 | a3 | a3
            · by_cases a4 : n = 1
              · exact .inr (.inl ⟨a2, a3, a4, (k2 a2 a3).2 a4⟩)
              · exact .inr (.inr (.inl ⟨a2, a3, a4, fun h => a4 ((k2 a2 a3).1 h)⟩))
            · by_cases a4 : n = 1
              · exact .inr (.inr (.inr (.inl ⟨a2, a3, a4, (k3 a2 a3).1 a4⟩)))
              · exact .inr (.inr (.inr (.inr (.inl ⟨a2, a3, a4, (k3 a2 a3).2 a4⟩))))
            · exact .inr (.inr (.inr (.inr (.inr ⟨a2, a3, k4 a2 a3⟩))))
        have HQ := Lib.hid q
        clear q k1 k2 k3 k4
        generalize canE (l ++ [n]) m = E at *
        go_enter Try.func8, Try.ntmps8
        go_wp2_with fail
        refine (canon_alive_any _).mono ?_
        rintro e w1 ⟨rfl, hb1⟩
        have hl1 := hl.below hb1
        replace hrd := hrd.below hb1
        go_wp2_with fail
        refine (HK.out _ hl1).mono ?_
        rintro e w2 ⟨rfl, rfl⟩
        go_wp2_with fail
        go_loop [8, 9] (fun u v => ∃ i : Nat, i ≤ l.length ∧ v = .int .i64 i ∧ u = .int .i64 ((used (l.take i) : Nat) : Int)) (fun _ v => l.length - (intOf v).toNat)
        case atStart => exact ⟨0, by omega, rfl, rfl⟩
        case round =>
          obtain ⟨i, hi, rfl, rfl⟩ := hrel
          have hui := used_le (l.take i)
          have hu2 : (l.take i).length ≤ i := List.length_take_le _ _
          by_cases hlt : i < l.length
          · obtain ⟨b, off, rfl, hcell, hx⟩ := hl1.at_ hlt
            obtain ⟨_, s2⟩ := kraft_step hlt
            by_cases hz0 : nth l i = 0
            · rw [if_pos hz0] at s2
              rw [hz0] at hcell
              have HS := Lib.hid s2; clear s2 hz0
              go_wp2_with fail
              go_round
              case rel => exact ⟨i + 1, by omega, by go_num, by rw [HS.out]; rfl⟩
              case measure => simp [intOf]; omega
            · rw [if_neg hz0] at s2
              have HS := Lib.hid s2; clear s2
              have hpos : 0 < nth l i := by omega
              generalize nth l i = x at *
              go_wp2_with fail
              go_round
              case rel => exact ⟨i + 1, by omega, by go_num, by rw [HS.out]; go_num⟩
              case measure => simp [intOf]; omega
          · obtain rfl : i = l.length := by omega
            rw [List.take_length] at *
            go_wp2_with (first
              | (at_builtin; refine grow elem_u8 rfl (.const (.slice none 0 0)) (.tmp 39) rfl rfl (Builds.nil_ w1 _ _) rfl hrd (by simp [u8s]) (u8s_one _) l.length (by omega) (u8s l) rfl (by omega) (by omega) ?_; intro A1 c1 w3 hB3 hg3)
              | (at_builtin; refine grow elem_u8 rfl (.tmp 40) (.tmp 42) rfl rfl (hB3.alloc _) rfl (Rd.new' _ _ _ (u8s [n]) _ (by simp) rfl) rfl (u8s_one _) (l.length + 1) rfl (u8s (l ++ [n])) (u8s_append _ _).symm (by omega) (by omega) ?_; intro A2 c2 w4 hB4 hg4))
            clear hB3 hg3 hg4
            refine (HC.out A2 c2 _ _ (by simp) (rd_u8 hB4.rd H256.out)).mono ?_
            rintro e w5 ⟨rfl, rfl⟩
            have b4 := hb1.trans (hB4.1.mono hb1.size)
            rcases HQ.out with ⟨q1, rfl⟩ | ⟨q1, q2, q3, rfl⟩ | ⟨q1, q2, q3, q4⟩ | ⟨q1, q2, q3, rfl⟩ | ⟨q1, q2, q3, rfl⟩ | ⟨q1, q2, rfl⟩
            · go_wp2_with fail
              go_ret
              exact ⟨rfl, b4⟩
            · rw [q2, q3] at *
              clear q2 q3
              go_wp2_with fail
              go_ret
              exact ⟨rfl, b4⟩
            · have d1 : ((E : Int) == 0) = false := by rw [beq_eq_false_iff_ne]; omega
              have d2 : ((n : Int) == 1) = false := by rw [beq_eq_false_iff_ne]; omega
              rw [q2] at *
              clear q2
              go_wp2_with fail
              go_ret
              exact ⟨rfl, b4⟩
            · rw [q2, q3] at *
              clear q2 q3
              go_wp2_with fail
              go_ret
              exact ⟨rfl, b4⟩
            · have d2 : ((n : Int) == 1) = false := by rw [beq_eq_false_iff_ne]; omega
              rw [q2] at *
              clear q2
              go_wp2_with fail
              go_ret
              exact ⟨rfl, b4⟩
            · have d1 : ((used l : Int) == 0) = false := by rw [beq_eq_false_iff_ne]; omega
              have d2 : ((used l : Int) == 1) = false := by rw [beq_eq_false_iff_ne]; omega
              go_wp2_with fail
              go_ret
              exact ⟨rfl, b4⟩
    · have he : ((canE l m : Int) != 0) = true := by rw [bne_iff_ne]; omega
      generalize canE l m = E at *
      go_enter Try.func8, Try.ntmps8
      go_wp2_with fail
      refine (canon_alive_any _).mono ?_
      rintro e w1 ⟨rfl, hb1⟩
      go_wp2_with fail
      refine (HK.out _ (hl.below hb1)).mono ?_
      rintro e w2 ⟨rfl, rfl⟩
      go_wp2_with fail
      go_ret
      exact ⟨rfl, hb1⟩
end Go.Proofs.Ytnggkenlgpcidaa
