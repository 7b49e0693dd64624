/-
  Walks: the reference's Stretch.
-/
import Derived.Test.YtcifmbcchgdplaaRunsE
namespace Go.Proofs.Ytcifmbcchgdplaa
open Go.RowKit

/-- 2 to the power of n. -/
def p2 (n : Nat) : Nat := 2 ^ n
theorem p2_succ (n : Nat) : p2 (n + 1) = 2 * p2 n := by unfold p2; rw [Nat.pow_succ, Nat.mul_comm]
theorem p2_le {n : Nat} (h : n ≤ 7) : p2 n ≤ 128 := pow2_le n 7 h

theorem pow_any (n : Nat) (w : World) (hn : n ≤ 7) :
    Calls Try.prog 19 #[.int .i64 (n : Int)] w fun e w' => e = .returned (.int .i64 ((p2 n : Nat) : Int)) ∧ w' = w := by
  go_enter Try.func19, Try.ntmps19
  go_wp2_with fail
  go_loop [3, 4] (fun p v => ∃ k : Nat, k ≤ n ∧ v = .int .i64 k ∧ p = .int .i64 ((p2 k : Nat) : Int)) (fun _ v => n - (intOf v).toNat)
  case atStart => exact ⟨0, by omega, rfl, rfl⟩
  case round =>
    obtain ⟨k, hk, rfl, rfl⟩ := hrel
    have h1 := p2_le (n := k) (by omega)
    have H2 := Lib.hid (p2_succ k)
    by_cases hlt : k < n
    · go_wp2_with fail
      go_round
      case rel => exact ⟨k + 1, by omega, by go_num, by rw [H2.out]; go_num⟩
      case measure => simp [intOf]; omega
    · obtain rfl : k = n := by omega
      go_wp2_with fail
      go_ret
      exact ⟨rfl, rfl⟩
theorem pow_is (n m : Nat) (w : World) (hn : n ≤ 7) (h : p2 n = m) :
    Calls Try.prog 19 #[.int .i64 (n : Int)] w fun e w' => e = .returned (.int .i64 (m : Int)) ∧ w' = w := by
  subst h; exact pow_any n w hn

/-- Is a run the length ahead? -/
theorem times_16 (x : Nat) (w : World) (hx : x ≤ 1000) :
    Calls Try.prog 20 #[.agg #[.int .i64 16, .int .i64 (x : Int)]] w fun e w' => e = .returned (.tuple #[.int .i64 ((x : Int) + 3), .bool true]) ∧ Below w.heap.size w w' := by
  go_enter Try.func20, Try.ntmps20
  go_wp2_with fail
  go_ret2
  exact ⟨rfl, (Below.refl _ _).alloc (Nat.le_refl _) _⟩
theorem times_17 (x : Nat) (w : World) (hx : x ≤ 1000) :
    Calls Try.prog 20 #[.agg #[.int .i64 17, .int .i64 (x : Int)]] w fun e w' => e = .returned (.tuple #[.int .i64 ((x : Int) + 3), .bool false]) ∧ Below w.heap.size w w' := by
  go_enter Try.func20, Try.ntmps20
  go_wp2_with fail
  go_ret2
  exact ⟨rfl, (Below.refl _ _).alloc (Nat.le_refl _) _⟩
theorem times_18 (x : Nat) (w : World) (hx : x ≤ 1000) :
    Calls Try.prog 20 #[.agg #[.int .i64 18, .int .i64 (x : Int)]] w fun e w' => e = .returned (.tuple #[.int .i64 ((x : Int) + 11), .bool false]) ∧ Below w.heap.size w w' := by
  go_enter Try.func20, Try.ntmps20
  go_wp2_with fail
  go_ret2
  exact ⟨rfl, (Below.refl _ _).alloc (Nat.le_refl _) _⟩
theorem times_lit (s x : Nat) (w : World) (hs : s < 16) :
    Calls Try.prog 20 #[.agg #[.int .i64 (s : Int), .int .i64 (x : Int)]] w fun e w' => e = .returned (.tuple #[.int .i64 1, .bool false]) ∧ Below w.heap.size w w' := by
  have d1 : ((s : Int) == 16) = false := by rw [beq_eq_false_iff_ne]; omega
  have d2 : ((s : Int) == 17) = false := by rw [beq_eq_false_iff_ne]; omega
  have d3 : ((s : Int) == 18) = false := by rw [beq_eq_false_iff_ne]; omega
  go_enter Try.func20, Try.ntmps20
  go_wp2_with fail
  go_ret2
  exact ⟨rfl, (Below.refl _ _).alloc (Nat.le_refl _) _⟩

theorem rstr_arg (A : Option Addr) (c : Nat) (l : List (Int × Int)) (n : Int) (w : World) (hn1 : -9223372036854775808 ≤ n) (hn2 : n ≤ 9223372036854775807) (hbad : n < 0 ∨ 320 < n) :
    Calls Try.prog 14 #[.slice A l.length c, .int .i64 n] w fun e w' => StrRes w w' e ([], 2) := by
  rcases hbad with h | h
  all_goals
    go_enter Try.func14, Try.ntmps14
    go_wp2_with fail
    go_ret2
    exact StrRes.no rfl (Below.refl _ _) rfl

set_option maxHeartbeats 4000000 in
set_option maxRecDepth 100000 in
theorem rstr_any (A : Option Addr) (c : Nat) (l : List (Int × Int)) (n : Nat) (p : List Nat × Nat) (w : World) (hl : Rd w A (runV l)) (hm : l.length ≤ 1000) (hr : ∀ r ∈ l, -9223372036854775808 ≤ r.1 ∧ r.1 ≤ 9223372036854775807 ∧ -9223372036854775808 ≤ r.2 ∧ r.2 ≤ 9223372036854775807) (hn : n ≤ 320) (hp : strF n l [] = p) :
    Calls Try.prog 14 #[.slice A l.length c, .int .i64 (n : Int)] w fun e w' => StrRes w w' e p := by
  have HP := Lib.hid hp; clear hp
  go_enter Try.func14, Try.ntmps14
  go_wp2_with fail
  go_loopg [6, 7] l.length (fun gk vo vi wr => ∃ i out B d, i ≤ l.length ∧ gk = l.length - i ∧ vi = .int .i64 ((i : Nat) : Int) ∧ vo = .slice B out.length d ∧ strF n (l.drop i) out = p ∧ (∀ x ∈ out, x < 256) ∧ out.length ≤ n ∧ Builds w wr 5 1 B out.length d (u8s out))
  case atStart => exact ⟨0, [], none, 0, by omega, by omega, rfl, rfl, HP.out, by simp, by simp, Builds.nil_ _ _ _⟩
  case round =>
    obtain ⟨i, out, B, d, hi, hk, rfl, rfl, hs, hx256, hle, hB⟩ := hrel
    have HS := Lib.hid hs; clear hs
    have HX := Lib.hid hx256; clear hx256
    by_cases hlt : i < l.length
    · have hl1 := hl.below hB.1
      obtain ⟨b, off, rfl, hc1, hc2⟩ := hl1.pair hlt
      have HL := Lib.hid fun (w' : World) (hb : Below w.heap.size w w') => (hl.below hb).pair hlt
      have hlt1 := cell_lt hc1
      obtain ⟨hr1, hr2, hr3, hr4⟩ := hr l[i] (List.getElem_mem hlt)
      have HN := Lib.hid fun E => str_no (n := n) (E := E) HS.out hlt
      have HG := Lib.hid (str_go (n := n) HS.out hlt)
      generalize hR : l[i] = r at *
      clear hR hl1
      obtain ⟨s, x⟩ := r
      dsimp only at *
      have HB := Lib.hid fun w => rbits_any s w hr1 hr2
      have q : s < 0 ∨ 18 < s ∨ s = 16 ∨ s = 17 ∨ s = 18 ∨ (0 ≤ s ∧ s < 16) := by omega
      rcases q with q | q | q | q | q | ⟨q, q'⟩
      · have e1 : symBits s = 0 := by unfold symBits; rw [if_neg (by omega), if_neg (by omega), if_neg (by omega)]
        have e2 : symE s = 2 := by unfold symE; rw [if_pos (by omega)]
        rw [e1, e2] at HB
        clear e1 e2
        have HE := Lib.hid (HN.out 8 (putE_bad (by simp only; omega)) (by omega))
        go_wp2_with fail
        refine (HB.out _).mono ?_
        rintro e w1 ⟨rfl, rfl⟩
        go_wp2_with fail
        go_quiet (fail)
        go_wp2_with fail
        go_ret2
        exact StrRes.no HE.out (below_drewN' hB.1 _) rfl
      · have e1 : symBits s = 0 := by unfold symBits; rw [if_neg (by omega), if_neg (by omega), if_neg (by omega)]
        have e2 : symE s = 2 := by unfold symE; rw [if_pos (by omega)]
        rw [e1, e2] at HB
        clear e1 e2
        have HE := Lib.hid (HN.out 8 (putE_bad (by simp only; omega)) (by omega))
        go_wp2_with fail
        refine (HB.out _).mono ?_
        rintro e w1 ⟨rfl, rfl⟩
        go_wp2_with fail
        go_quiet (fail)
        go_wp2_with fail
        go_ret2
        exact StrRes.no HE.out (below_drewN' hB.1 _) rfl
      · subst q
        have e1 : symBits 16 = 2 := rfl
        have e2 : symE 16 = 0 := rfl
        have hok : 0 ≤ x → x < 4 → (0 ≤ (16 : Int) ∧ (16 : Int) ≤ 18 ∧ 0 ≤ x ∧ x < 2 ^ symBits 16) := fun h1 h2 => ⟨by omega, by omega, h1, by rw [e1]; simpa using h2⟩
        have hno : x < 0 ∨ 4 ≤ x → ¬ (0 ≤ (16 : Int) ∧ (16 : Int) ≤ 18 ∧ 0 ≤ x ∧ x < 2 ^ symBits 16) := fun h1 h2 => by rw [e1] at h2; simp at h2 <;> omega
        have HK := Lib.hid hok
        have HO := Lib.hid hno
        rw [e1, e2] at HB
        clear e1 e2 hok hno
        by_cases hx0 : x < 0
        · have d1 : decide (x < 0) = true := by simp; omega
          have HE := Lib.hid (HN.out 8 (putE_bad (HO.out (.inl hx0))) (by omega))
          go_wp2_with fail
          refine (HB.out _).mono ?_
          rintro e w1 ⟨rfl, rfl⟩
          go_wp2_with fail
          go_quiet (fail)
          go_wp2_with fail
          go_ret2
          exact StrRes.no HE.out (below_drewN' hB.1 _) rfl
        · obtain ⟨x, rfl⟩ := Int.eq_ofNat_of_zero_le (show 0 ≤ x by omega)
          have d1 : decide ((x : Int) < 0) = false := by simp
          by_cases hxp : 4 ≤ x
          · have d2 : decide ((4 : Int) ≤ x) = true := by simp; omega
            have HE := Lib.hid (HN.out 8 (putE_bad (HO.out (.inr (by omega)))) (by omega))
            go_wp2_with fail
            refine (HB.out _).mono ?_
            rintro e w1 ⟨rfl, rfl⟩
            go_wp2_with fail
            go_quiet ((go_at_call 19; exact Calls.quiet_of_same (pow_is 2 4 _ (by omega) rfl)))
            go_wp2_with fail
            go_ret2
            exact StrRes.no HE.out (below_drewN' hB.1 _) rfl
          · have d2 : decide ((4 : Int) ≤ x) = false := by simp; omega
            have HK' := Lib.hid (HK.out (by omega) (by omega))
            clear HK HO
            have ht : timesOf ((16 : Int), (x : Int)) = x + 3 := by unfold timesOf; simp <;> omega
            by_cases hz : out.length = 0
            · have HE := Lib.hid (HN.out 100 (putE_run HK'.out (.inl ⟨rfl, List.eq_nil_of_length_eq_zero hz⟩)) (by omega))
              have d3 : ((out.length : Int) == 0) = true := by rw [beq_iff_eq]; omega
              clear ht
              go_wp2_with fail
              refine (HB.out _).mono ?_
              rintro e w1 ⟨rfl, rfl⟩
              go_wp2_with fail
              go_quiet ((go_at_call 19; exact Calls.quiet_of_same (pow_is 2 4 _ (by omega) rfl)))
              go_wp2_with fail
              refine (times_16 x _ (by omega)).mono ?_
              rintro e w2 ⟨rfl, hb2⟩
              have hB2 := (hB.drewN _).below hb2
              obtain ⟨b', off', e', hd1, hd2⟩ := HL.out _ hB2.1
              obtain ⟨rfl, rfl⟩ : b' = b ∧ off' = off := by injection e' with e'; injection e' with e1 e2; exact ⟨e1.symm, e2.symm⟩
              clear e' hb2
              go_wp2_with fail
              go_ret2
              exact StrRes.no HE.out hB2.1 rfl
            · have d3 : ((out.length : Int) == 0) = false := by rw [beq_eq_false_iff_ne]; omega
              obtain ⟨g, rfl, hg1, hg2⟩ := hB.at_ (by omega)
              have e4 : IntKind.i64.wrap ((out.length : Int) - 1) = ((out.length - 1 : Nat) : Int) := by rw [IntWalk.i64_in _ (by omega)]; omega
              have hxx := nth_lt HX.out (by omega) (out.length - 1)
              have hw : whatOf (16, (x : Int)) out = nth out (out.length - 1) := rfl
              have HCL := Lib.hid (u8s_get out (out.length - 1) (by omega))
              generalize nth out (out.length - 1) = X at *
              by_cases hbig : n < out.length + x + 3
              · have HE := Lib.hid (HN.out 100 (putE_run HK'.out (.inr (by rw [ht]; exact hbig))) (by omega))
                clear ht hw
                go_wp2_with fail
                refine (HB.out _).mono ?_
                rintro e w1 ⟨rfl, rfl⟩
                go_wp2_with fail
                go_quiet ((go_at_call 19; exact Calls.quiet_of_same (pow_is 2 4 _ (by omega) rfl)))
                go_wp2_with fail
                refine (times_16 x _ (by omega)).mono ?_
                rintro e w2 ⟨rfl, hb2⟩
                have hB2 := (hB.drewN _).below hb2
                obtain ⟨b', off', e', hd1, hd2⟩ := HL.out _ hB2.1
                obtain ⟨rfl, rfl⟩ : b' = b ∧ off' = off := by injection e' with e'; injection e' with e1 e2; exact ⟨e1.symm, e2.symm⟩
                clear e' hb2
                have hcl := (hB2.cell (out.length - 1) (by omega)).trans HCL.out
                go_wp2_with fail
                go_ret2
                exact StrRes.no HE.out hB2.1 rfl
              · have HG' := Lib.hid (HG.out (putE_ok HK'.out (by rw [ht]; exact (fun h => h.elim (fun h => hz (by rw [h.2]; rfl)) (by omega)))))
                have HT := Lib.hid (show putR ((16 : Int), (x : Int)) out = out ++ List.replicate (x + 3) X by unfold putR; rw [ht, hw])
                clear ht hw
                go_wp2_with fail
                refine (HB.out _).mono ?_
                rintro e w1 ⟨rfl, rfl⟩
                go_wp2_with fail
                go_quiet ((go_at_call 19; exact Calls.quiet_of_same (pow_is 2 4 _ (by omega) rfl)))
                go_wp2_with fail
                refine (times_16 x _ (by omega)).mono ?_
                rintro e w2 ⟨rfl, hb2⟩
                have hB2 := (hB.drewN _).below hb2
                obtain ⟨b', off', e', hd1, hd2⟩ := HL.out _ hB2.1
                obtain ⟨rfl, rfl⟩ : b' = b ∧ off' = off := by injection e' with e'; injection e' with e1 e2; exact ⟨e1.symm, e2.symm⟩
                clear e' hb2
                have hcl := (hB2.cell (out.length - 1) (by omega)).trans HCL.out
                go_wp2_with fail
                obtain ⟨wo, rfl⟩ : ∃ wo : World, wo = wr := ⟨_, rfl⟩
                go_loopg [6, 13] (x + 3) (fun gk vo vi wr' => ∃ k B d, k ≤ x + 3 ∧ gk = x + 3 - k ∧ vi = .int .i64 ((k : Nat) : Int) ∧ vo = .slice B (out.length + k) d ∧ Builds w wr' 5 1 B (out.length + k) d (u8s (out ++ List.replicate k X)))
                case atStart => exact ⟨0, _, _, by omega, by omega, rfl, rfl, by simpa using hB2⟩
                case round =>
                  obtain ⟨k, B2, d2, hk2, hkk, rfl, rfl, hB2⟩ := hrel
                  by_cases hlt2 : k < x + 3
                  · skip
                    go_wp2_with (at_builtin; refine grow elem_u8 rfl (.tmp 101) (.tmp 103) rfl rfl (hB2.alloc _) rfl (Rd.new' _ _ _ (u8s [X]) _ (by simp) rfl) rfl (u8s_one _) (out.length + (k + 1)) (by omega) _ (u8s_more out k X) (by omega) (by omega) ?_; intro B3 d3 w3 hB3 hg3)
                    go_roundg (x + 3 - (k + 1))
                    case measure => omega
                    case rel => exact ⟨k + 1, B3, d3, by omega, rfl, by go_num, rfl, hB3⟩
                  · obtain rfl : k = x + 3 := by omega
                    go_wp2_with fail
                    go_roundg (l.length - (i + 1))
                    case measure => omega
                    case rel => exact ⟨i + 1, putR ((16 : Int), (x : Int)) out, B2, d2, by omega, rfl, by go_num, by rw [HT.out]; simp, HG'.out, putR_lt (decide_eq_true HK'.out) HX.out, by rw [HT.out]; simp; omega, by rw [HT.out]; simpa using hB2⟩
      · subst q
        have e1 : symBits 17 = 3 := rfl
        have e2 : symE 17 = 0 := rfl
        have hok : 0 ≤ x → x < 8 → (0 ≤ (17 : Int) ∧ (17 : Int) ≤ 18 ∧ 0 ≤ x ∧ x < 2 ^ symBits 17) := fun h1 h2 => ⟨by omega, by omega, h1, by rw [e1]; simpa using h2⟩
        have hno : x < 0 ∨ 8 ≤ x → ¬ (0 ≤ (17 : Int) ∧ (17 : Int) ≤ 18 ∧ 0 ≤ x ∧ x < 2 ^ symBits 17) := fun h1 h2 => by rw [e1] at h2; simp at h2 <;> omega
        have HK := Lib.hid hok
        have HO := Lib.hid hno
        rw [e1, e2] at HB
        clear e1 e2 hok hno
        by_cases hx0 : x < 0
        · have d1 : decide (x < 0) = true := by simp; omega
          have HE := Lib.hid (HN.out 8 (putE_bad (HO.out (.inl hx0))) (by omega))
          go_wp2_with fail
          refine (HB.out _).mono ?_
          rintro e w1 ⟨rfl, rfl⟩
          go_wp2_with fail
          go_quiet (fail)
          go_wp2_with fail
          go_ret2
          exact StrRes.no HE.out (below_drewN' hB.1 _) rfl
        · obtain ⟨x, rfl⟩ := Int.eq_ofNat_of_zero_le (show 0 ≤ x by omega)
          have d1 : decide ((x : Int) < 0) = false := by simp
          by_cases hxp : 8 ≤ x
          · have d2 : decide ((8 : Int) ≤ x) = true := by simp; omega
            have HE := Lib.hid (HN.out 8 (putE_bad (HO.out (.inr (by omega)))) (by omega))
            go_wp2_with fail
            refine (HB.out _).mono ?_
            rintro e w1 ⟨rfl, rfl⟩
            go_wp2_with fail
            go_quiet ((go_at_call 19; exact Calls.quiet_of_same (pow_is 3 8 _ (by omega) rfl)))
            go_wp2_with fail
            go_ret2
            exact StrRes.no HE.out (below_drewN' hB.1 _) rfl
          · have d2 : decide ((8 : Int) ≤ x) = false := by simp; omega
            have HK' := Lib.hid (HK.out (by omega) (by omega))
            clear HK HO
            have ht : timesOf ((17 : Int), (x : Int)) = x + 3 := by unfold timesOf; simp <;> omega
            have hw : whatOf (17, (x : Int)) out = 0 := rfl
            by_cases hbig : n < out.length + x + 3
            · have HE := Lib.hid (HN.out 100 (putE_run HK'.out (.inr (by rw [ht]; exact hbig))) (by omega))
              clear ht hw
              go_wp2_with fail
              refine (HB.out _).mono ?_
              rintro e w1 ⟨rfl, rfl⟩
              go_wp2_with fail
              go_quiet ((go_at_call 19; exact Calls.quiet_of_same (pow_is 3 8 _ (by omega) rfl)))
              go_wp2_with fail
              refine (times_17 x _ (by omega)).mono ?_
              rintro e w2 ⟨rfl, hb2⟩
              have hB2 := (hB.drewN _).below hb2
              obtain ⟨b', off', e', hd1, hd2⟩ := HL.out _ hB2.1
              obtain ⟨rfl, rfl⟩ : b' = b ∧ off' = off := by injection e' with e'; injection e' with e1 e2; exact ⟨e1.symm, e2.symm⟩
              clear e' hb2
              go_wp2_with fail
              go_ret2
              exact StrRes.no HE.out hB2.1 rfl
            · have HG' := Lib.hid (HG.out (putE_ok HK'.out (by rw [ht]; exact (fun h => h.elim (fun h => by have := h.1; simp at this) (by omega)))))
              have HT := Lib.hid (show putR ((17 : Int), (x : Int)) out = out ++ List.replicate (x + 3) 0 by unfold putR; rw [ht, hw])
              clear ht hw
              go_wp2_with fail
              refine (HB.out _).mono ?_
              rintro e w1 ⟨rfl, rfl⟩
              go_wp2_with fail
              go_quiet ((go_at_call 19; exact Calls.quiet_of_same (pow_is 3 8 _ (by omega) rfl)))
              go_wp2_with fail
              refine (times_17 x _ (by omega)).mono ?_
              rintro e w2 ⟨rfl, hb2⟩
              have hB2 := (hB.drewN _).below hb2
              obtain ⟨b', off', e', hd1, hd2⟩ := HL.out _ hB2.1
              obtain ⟨rfl, rfl⟩ : b' = b ∧ off' = off := by injection e' with e'; injection e' with e1 e2; exact ⟨e1.symm, e2.symm⟩
              clear e' hb2
              go_wp2_with fail
              obtain ⟨wo, rfl⟩ : ∃ wo : World, wo = wr := ⟨_, rfl⟩
              go_loopg [6, 13] (x + 3) (fun gk vo vi wr' => ∃ k B d, k ≤ x + 3 ∧ gk = x + 3 - k ∧ vi = .int .i64 ((k : Nat) : Int) ∧ vo = .slice B (out.length + k) d ∧ Builds w wr' 5 1 B (out.length + k) d (u8s (out ++ List.replicate k 0)))
              case atStart => exact ⟨0, _, _, by omega, by omega, rfl, rfl, by simpa using hB2⟩
              case round =>
                obtain ⟨k, B2, d2, hk2, hkk, rfl, rfl, hB2⟩ := hrel
                by_cases hlt2 : k < x + 3
                · skip
                  go_wp2_with (at_builtin; refine grow elem_u8 rfl (.tmp 101) (.tmp 103) rfl rfl (hB2.alloc _) rfl (Rd.new' _ _ _ (u8s [0]) _ (by simp) rfl) rfl (u8s_one _) (out.length + (k + 1)) (by omega) _ (u8s_more out k 0) (by omega) (by omega) ?_; intro B3 d3 w3 hB3 hg3)
                  go_roundg (x + 3 - (k + 1))
                  case measure => omega
                  case rel => exact ⟨k + 1, B3, d3, by omega, rfl, by go_num, rfl, hB3⟩
                · obtain rfl : k = x + 3 := by omega
                  go_wp2_with fail
                  go_roundg (l.length - (i + 1))
                  case measure => omega
                  case rel => exact ⟨i + 1, putR ((17 : Int), (x : Int)) out, B2, d2, by omega, rfl, by go_num, by rw [HT.out]; simp, HG'.out, putR_lt (decide_eq_true HK'.out) HX.out, by rw [HT.out]; simp; omega, by rw [HT.out]; simpa using hB2⟩
      · subst q
        have e1 : symBits 18 = 7 := rfl
        have e2 : symE 18 = 0 := rfl
        have hok : 0 ≤ x → x < 128 → (0 ≤ (18 : Int) ∧ (18 : Int) ≤ 18 ∧ 0 ≤ x ∧ x < 2 ^ symBits 18) := fun h1 h2 => ⟨by omega, by omega, h1, by rw [e1]; simpa using h2⟩
        have hno : x < 0 ∨ 128 ≤ x → ¬ (0 ≤ (18 : Int) ∧ (18 : Int) ≤ 18 ∧ 0 ≤ x ∧ x < 2 ^ symBits 18) := fun h1 h2 => by rw [e1] at h2; simp at h2 <;> omega
        have HK := Lib.hid hok
        have HO := Lib.hid hno
        rw [e1, e2] at HB
        clear e1 e2 hok hno
        by_cases hx0 : x < 0
        · have d1 : decide (x < 0) = true := by simp; omega
          have HE := Lib.hid (HN.out 8 (putE_bad (HO.out (.inl hx0))) (by omega))
          go_wp2_with fail
          refine (HB.out _).mono ?_
          rintro e w1 ⟨rfl, rfl⟩
          go_wp2_with fail
          go_quiet (fail)
          go_wp2_with fail
          go_ret2
          exact StrRes.no HE.out (below_drewN' hB.1 _) rfl
        · obtain ⟨x, rfl⟩ := Int.eq_ofNat_of_zero_le (show 0 ≤ x by omega)
          have d1 : decide ((x : Int) < 0) = false := by simp
          by_cases hxp : 128 ≤ x
          · have d2 : decide ((128 : Int) ≤ x) = true := by simp; omega
            have HE := Lib.hid (HN.out 8 (putE_bad (HO.out (.inr (by omega)))) (by omega))
            go_wp2_with fail
            refine (HB.out _).mono ?_
            rintro e w1 ⟨rfl, rfl⟩
            go_wp2_with fail
            go_quiet ((go_at_call 19; exact Calls.quiet_of_same (pow_is 7 128 _ (by omega) rfl)))
            go_wp2_with fail
            go_ret2
            exact StrRes.no HE.out (below_drewN' hB.1 _) rfl
          · have d2 : decide ((128 : Int) ≤ x) = false := by simp; omega
            have HK' := Lib.hid (HK.out (by omega) (by omega))
            clear HK HO
            have ht : timesOf ((18 : Int), (x : Int)) = x + 11 := by unfold timesOf; simp <;> omega
            have hw : whatOf (18, (x : Int)) out = 0 := rfl
            by_cases hbig : n < out.length + x + 11
            · have HE := Lib.hid (HN.out 100 (putE_run HK'.out (.inr (by rw [ht]; exact hbig))) (by omega))
              clear ht hw
              go_wp2_with fail
              refine (HB.out _).mono ?_
              rintro e w1 ⟨rfl, rfl⟩
              go_wp2_with fail
              go_quiet ((go_at_call 19; exact Calls.quiet_of_same (pow_is 7 128 _ (by omega) rfl)))
              go_wp2_with fail
              refine (times_18 x _ (by omega)).mono ?_
              rintro e w2 ⟨rfl, hb2⟩
              have hB2 := (hB.drewN _).below hb2
              obtain ⟨b', off', e', hd1, hd2⟩ := HL.out _ hB2.1
              obtain ⟨rfl, rfl⟩ : b' = b ∧ off' = off := by injection e' with e'; injection e' with e1 e2; exact ⟨e1.symm, e2.symm⟩
              clear e' hb2
              go_wp2_with fail
              go_ret2
              exact StrRes.no HE.out hB2.1 rfl
            · have HG' := Lib.hid (HG.out (putE_ok HK'.out (by rw [ht]; exact (fun h => h.elim (fun h => by have := h.1; simp at this) (by omega)))))
              have HT := Lib.hid (show putR ((18 : Int), (x : Int)) out = out ++ List.replicate (x + 11) 0 by unfold putR; rw [ht, hw])
              clear ht hw
              go_wp2_with fail
              refine (HB.out _).mono ?_
              rintro e w1 ⟨rfl, rfl⟩
              go_wp2_with fail
              go_quiet ((go_at_call 19; exact Calls.quiet_of_same (pow_is 7 128 _ (by omega) rfl)))
              go_wp2_with fail
              refine (times_18 x _ (by omega)).mono ?_
              rintro e w2 ⟨rfl, hb2⟩
              have hB2 := (hB.drewN _).below hb2
              obtain ⟨b', off', e', hd1, hd2⟩ := HL.out _ hB2.1
              obtain ⟨rfl, rfl⟩ : b' = b ∧ off' = off := by injection e' with e'; injection e' with e1 e2; exact ⟨e1.symm, e2.symm⟩
              clear e' hb2
              go_wp2_with fail
              obtain ⟨wo, rfl⟩ : ∃ wo : World, wo = wr := ⟨_, rfl⟩
              go_loopg [6, 13] (x + 11) (fun gk vo vi wr' => ∃ k B d, k ≤ x + 11 ∧ gk = x + 11 - k ∧ vi = .int .i64 ((k : Nat) : Int) ∧ vo = .slice B (out.length + k) d ∧ Builds w wr' 5 1 B (out.length + k) d (u8s (out ++ List.replicate k 0)))
              case atStart => exact ⟨0, _, _, by omega, by omega, rfl, rfl, by simpa using hB2⟩
              case round =>
                obtain ⟨k, B2, d2, hk2, hkk, rfl, rfl, hB2⟩ := hrel
                by_cases hlt2 : k < x + 11
                · skip
                  go_wp2_with (at_builtin; refine grow elem_u8 rfl (.tmp 101) (.tmp 103) rfl rfl (hB2.alloc _) rfl (Rd.new' _ _ _ (u8s [0]) _ (by simp) rfl) rfl (u8s_one _) (out.length + (k + 1)) (by omega) _ (u8s_more out k 0) (by omega) (by omega) ?_; intro B3 d3 w3 hB3 hg3)
                  go_roundg (x + 11 - (k + 1))
                  case measure => omega
                  case rel => exact ⟨k + 1, B3, d3, by omega, rfl, by go_num, rfl, hB3⟩
                · obtain rfl : k = x + 11 := by omega
                  go_wp2_with fail
                  go_roundg (l.length - (i + 1))
                  case measure => omega
                  case rel => exact ⟨i + 1, putR ((18 : Int), (x : Int)) out, B2, d2, by omega, rfl, by go_num, by rw [HT.out]; simp, HG'.out, putR_lt (decide_eq_true HK'.out) HX.out, by rw [HT.out]; simp; omega, by rw [HT.out]; simpa using hB2⟩
      · have e1 : symBits s = 0 := by unfold symBits; rw [if_neg (by omega), if_neg (by omega), if_neg (by omega)]
        have e2 : symE s = 0 := by unfold symE; rw [if_neg (by omega)]
        have hok : 0 ≤ x → x < 1 → (0 ≤ (s : Int) ∧ (s : Int) ≤ 18 ∧ 0 ≤ x ∧ x < 2 ^ symBits s) := fun h1 h2 => ⟨by omega, by omega, h1, by rw [e1]; simpa using h2⟩
        have hno : x < 0 ∨ 1 ≤ x → ¬ (0 ≤ (s : Int) ∧ (s : Int) ≤ 18 ∧ 0 ≤ x ∧ x < 2 ^ symBits s) := fun h1 h2 => by rw [e1] at h2; simp at h2 <;> omega
        have HK := Lib.hid hok
        have HO := Lib.hid hno
        rw [e1, e2] at HB
        clear e1 e2 hok hno
        by_cases hx0 : x < 0
        · have d1 : decide (x < 0) = true := by simp; omega
          have HE := Lib.hid (HN.out 8 (putE_bad (HO.out (.inl hx0))) (by omega))
          go_wp2_with fail
          refine (HB.out _).mono ?_
          rintro e w1 ⟨rfl, rfl⟩
          go_wp2_with fail
          go_quiet (fail)
          go_wp2_with fail
          go_ret2
          exact StrRes.no HE.out (below_drewN' hB.1 _) rfl
        · obtain ⟨x, rfl⟩ := Int.eq_ofNat_of_zero_le (show 0 ≤ x by omega)
          have d1 : decide ((x : Int) < 0) = false := by simp
          by_cases hxp : 1 ≤ x
          · have d2 : decide ((1 : Int) ≤ x) = true := by simp; omega
            have HE := Lib.hid (HN.out 8 (putE_bad (HO.out (.inr (by omega)))) (by omega))
            go_wp2_with fail
            refine (HB.out _).mono ?_
            rintro e w1 ⟨rfl, rfl⟩
            go_wp2_with fail
            go_quiet ((go_at_call 19; exact Calls.quiet_of_same (pow_is 0 1 _ (by omega) rfl)))
            go_wp2_with fail
            go_ret2
            exact StrRes.no HE.out (below_drewN' hB.1 _) rfl
          · have d2 : decide ((1 : Int) ≤ x) = false := by simp; omega
            have HK' := Lib.hid (HK.out (by omega) (by omega))
            clear HK HO
            have ht : timesOf ((s : Int), (x : Int)) = 1 := by unfold timesOf; rw [if_neg (by simp only; omega), if_neg (by simp only; omega)]
            obtain ⟨s, rfl⟩ := Int.eq_ofNat_of_zero_le q
            have hw : whatOf ((s : Int), (x : Int)) out = s := by unfold whatOf; rw [if_neg (by simp only; omega), if_neg (by simp only; omega)]; simp
            by_cases hbig : n < out.length + 1
            · have HE := Lib.hid (HN.out 100 (putE_run HK'.out (.inr (by rw [ht]; exact hbig))) (by omega))
              clear ht hw
              go_wp2_with fail
              refine (HB.out _).mono ?_
              rintro e w1 ⟨rfl, rfl⟩
              go_wp2_with fail
              go_quiet ((go_at_call 19; exact Calls.quiet_of_same (pow_is 0 1 _ (by omega) rfl)))
              go_wp2_with fail
              refine (times_lit s x _ (by omega)).mono ?_
              rintro e w2 ⟨rfl, hb2⟩
              have hB2 := (hB.drewN _).below hb2
              obtain ⟨b', off', e', hd1, hd2⟩ := HL.out _ hB2.1
              obtain ⟨rfl, rfl⟩ : b' = b ∧ off' = off := by injection e' with e'; injection e' with e1 e2; exact ⟨e1.symm, e2.symm⟩
              clear e' hb2
              have d5 : decide ((s : Int) < 16) = true := by simp; omega
              go_wp2_with fail
              go_ret2
              exact StrRes.no HE.out hB2.1 rfl
            · have HG' := Lib.hid (HG.out (putE_ok HK'.out (by rw [ht]; exact (fun h => h.elim (fun h => by have := h.1; simp only at this; omega) (by omega)))))
              have HT := Lib.hid (show putR (((s : Int) : Int), (x : Int)) out = out ++ List.replicate (1) s by unfold putR; rw [ht, hw])
              clear ht hw
              go_wp2_with fail
              refine (HB.out _).mono ?_
              rintro e w1 ⟨rfl, rfl⟩
              go_wp2_with fail
              go_quiet ((go_at_call 19; exact Calls.quiet_of_same (pow_is 0 1 _ (by omega) rfl)))
              go_wp2_with fail
              refine (times_lit s x _ (by omega)).mono ?_
              rintro e w2 ⟨rfl, hb2⟩
              have hB2 := (hB.drewN _).below hb2
              obtain ⟨b', off', e', hd1, hd2⟩ := HL.out _ hB2.1
              obtain ⟨rfl, rfl⟩ : b' = b ∧ off' = off := by injection e' with e'; injection e' with e1 e2; exact ⟨e1.symm, e2.symm⟩
              clear e' hb2
              have d5 : decide ((s : Int) < 16) = true := by simp; omega
              go_wp2_with fail
              obtain ⟨wo, rfl⟩ : ∃ wo : World, wo = wr := ⟨_, rfl⟩
              go_loopg [6, 13] (1) (fun gk vo vi wr' => ∃ k B d, k ≤ 1 ∧ gk = 1 - k ∧ vi = .int .i64 ((k : Nat) : Int) ∧ vo = .slice B (out.length + k) d ∧ Builds w wr' 5 1 B (out.length + k) d (u8s (out ++ List.replicate k s)))
              case atStart => exact ⟨0, _, _, by omega, by omega, rfl, rfl, by simpa using hB2⟩
              case round =>
                obtain ⟨k, B2, d2, hk2, hkk, rfl, rfl, hB2⟩ := hrel
                by_cases hlt2 : k < 1
                · obtain rfl : k = 0 := by omega
                  go_wp2_with (at_builtin; refine grow elem_u8 rfl (.tmp 101) (.tmp 103) rfl rfl (hB2.alloc _) rfl (Rd.new' _ _ _ (u8s [s]) _ (by simp) rfl) rfl (u8s_one _) (out.length + (0 + 1)) (by omega) _ (u8s_more out 0 s) (by omega) (by omega) ?_; intro B3 d3 w3 hB3 hg3)
                  go_roundg (1 - (0 + 1))
                  case measure => omega
                  case rel => exact ⟨0 + 1, B3, d3, by omega, rfl, by go_num, rfl, hB3⟩
                · obtain rfl : k = 1 := by omega
                  go_wp2_with fail
                  go_roundg (l.length - (i + 1))
                  case measure => omega
                  case rel => exact ⟨i + 1, putR (((s : Int) : Int), (x : Int)) out, B2, d2, by omega, rfl, by go_num, by rw [HT.out]; simp, HG'.out, putR_lt (decide_eq_true HK'.out) HX.out, by rw [HT.out]; simp; omega, by rw [HT.out]; simpa using hB2⟩
    · obtain rfl : i = l.length := by omega
      by_cases hnn : out.length = n
      · have d1 : ((out.length : Int) != n) = false := by rw [bne_eq_false_iff_eq]; omega
        have HE := Lib.hid (str_end_ok HS.out hnn)
        have HNN := Lib.hid hnn; clear hnn
        go_wp2_with fail
        go_ret2
        rw [HE.out]
        exact ⟨B, d, rfl, hB⟩
      · have d1 : ((out.length : Int) != n) = true := by rw [bne_iff_ne]; omega
        have HE := Lib.hid (str_end_no HS.out hnn)
        go_wp2_with fail
        go_ret2
        exact StrRes.no HE.out hB.1 rfl
end Go.Proofs.Ytcifmbcchgdplaa
