/-
  Walks: Bits (both), same (both), first.
-/
import Derived.BigQuiet
import Derived.Deep.QuietTactic
import Derived.Deep.RegionHeld3
import Derived.Test.YtfcefhaaphieeaaGreatG03
import Derived.Test.YtfcefhaaphieeaaGreatGOpen
import Derived.Test.YtfcefhaaphieeaaGreatRows
namespace Go.Proofs.YtfcefhaaphieeaaGreat
open Go.RowKit

theorem relem_u8 : Elem Tryz.prog 22 5 1 1 := Elem.mk' Tryz.underlying22 (z := .int .u8 0) (by kernel_rfl) rfl (by omega)
theorem elem_run : Elem Tryz.prog 91 96 2 16 := Elem.mk' Tryz.underlying91 (z := .agg #[.int .i64 0, .int .i64 0]) (by kernel_rfl) rfl (by omega)

theorem bits_any (s : Int) (w : World) (h1 : -9223372036854775808 ≤ s) (h2 : s ≤ 9223372036854775807) :
    Calls Tryz.prog 48 #[.int .i64 s] w fun e w' => e = .returned (.tuple #[.int .i64 (symBits s : Nat), .int .i64 (symE s : Nat)]) ∧ w = w' := by
  have q : (s < 0 ∧ symBits s = 0 ∧ symE s = 2) ∨ (18 < s ∧ symBits s = 0 ∧ symE s = 2) ∨ (s = 16 ∧ symBits s = 2 ∧ symE s = 0) ∨ (s = 17 ∧ symBits s = 3 ∧ symE s = 0) ∨ (s = 18 ∧ symBits s = 7 ∧ symE s = 0) ∨ (0 ≤ s ∧ s < 16 ∧ symBits s = 0 ∧ symE s = 0) := by
    unfold symBits symE
    by_cases a1 : s < 0
    · left; refine ⟨a1, ?_, ?_⟩ <;> repeat (first | rw [if_neg (by omega)] | rw [if_pos (by omega)])
    · by_cases a2 : 18 < s
      · right; left; refine ⟨a2, ?_, ?_⟩ <;> repeat (first | rw [if_neg (by omega)] | rw [if_pos (by omega)])
      · by_cases a3 : s = 16
        · subst a3; simp
        · by_cases a4 : s = 17
          · subst a4; simp
          · by_cases a5 : s = 18
            · subst a5; simp
            · right; right; right; right; right
              refine ⟨by omega, by omega, ?_, ?_⟩ <;> repeat (first | rw [if_neg (by omega)] | rw [if_pos (by omega)])
  rcases q with ⟨q, e1, e2⟩ | ⟨q, e1, e2⟩ | ⟨q, e1, e2⟩ | ⟨q, e1, e2⟩ | ⟨q, e1, e2⟩ | ⟨q, q', e1, e2⟩
  all_goals rw [e1, e2]; clear e1 e2
  all_goals try subst q
  all_goals
    go_enter Tryz.func48, Tryz.ntmps48
    go_wp2_with fail
    go_ret2
    exact ⟨rfl, rfl⟩

theorem rbits_any (s : Int) (w : World) (h1 : -9223372036854775808 ≤ s) (h2 : s ≤ 9223372036854775807) :
    Calls Tryz.prog 60 #[.int .i64 s] w fun e w' => e = .returned (.tuple #[.int .i64 (symBits s : Nat), .int .i64 (symE s : Nat)]) ∧ w = w' := by
  have q : (s < 0 ∧ symBits s = 0 ∧ symE s = 2) ∨ (18 < s ∧ symBits s = 0 ∧ symE s = 2) ∨ (s = 16 ∧ symBits s = 2 ∧ symE s = 0) ∨ (s = 17 ∧ symBits s = 3 ∧ symE s = 0) ∨ (s = 18 ∧ symBits s = 7 ∧ symE s = 0) ∨ (0 ≤ s ∧ s < 16 ∧ symBits s = 0 ∧ symE s = 0) := by
    unfold symBits symE
    by_cases a1 : s < 0
    · left; refine ⟨a1, ?_, ?_⟩ <;> repeat (first | rw [if_neg (by omega)] | rw [if_pos (by omega)])
    · by_cases a2 : 18 < s
      · right; left; refine ⟨a2, ?_, ?_⟩ <;> repeat (first | rw [if_neg (by omega)] | rw [if_pos (by omega)])
      · by_cases a3 : s = 16
        · subst a3; simp
        · by_cases a4 : s = 17
          · subst a4; simp
          · by_cases a5 : s = 18
            · subst a5; simp
            · right; right; right; right; right
              refine ⟨by omega, by omega, ?_, ?_⟩ <;> repeat (first | rw [if_neg (by omega)] | rw [if_pos (by omega)])
  rcases q with ⟨q, e1, e2⟩ | ⟨q, e1, e2⟩ | ⟨q, e1, e2⟩ | ⟨q, e1, e2⟩ | ⟨q, e1, e2⟩ | ⟨q, q', e1, e2⟩
  all_goals rw [e1, e2]; clear e1 e2
  all_goals try subst q
  all_goals
    go_enter Tryz.func60, Tryz.ntmps60
    go_wp2_with fail
    go_ret2
    exact ⟨rfl, rfl⟩

theorem runs_rsame_any (A : Option Addr) (c : Nat) (l : List Nat) (a : Nat) (w : World) (hl : Bs w A l) (ha : a < l.length) (hm : l.length ≤ 1000) :
    Calls Tryz.prog 95 #[.slice A l.length c, .int .i64 (a : Int)] w fun e w' => e = .returned (.int .i64 (sameN l a : Nat)) ∧ ∃ q, w' = w.drewN q := by
  have hle := sameN_le l a (by omega)
  have hpos := sameN_pos ha
  have hin := Lib.hid fun n => sameN_in (l := l) (a := a) (n := n)
  have hout := Lib.hid (sameN_out l a)
  obtain ⟨b, off, rfl, hcell, hx⟩ := hl.at_ ha
  generalize hN : sameN l a = N at *
  clear hN
  go_enter Tryz.func95, Tryz.ntmps95
  go_wp2_with fail
  go_loopg [5] (N - 1) (fun gk v wr => ∃ n : Nat, 1 ≤ n ∧ n ≤ N ∧ gk = N - n ∧ v = .int .i64 n ∧ ∃ q, wr = w.drewN q)
  case atStart => exact ⟨1, by omega, by omega, by omega, rfl, 0, rfl⟩
  case round =>
    obtain ⟨n, h1, h2, hk, rfl, q, rfl⟩ := hrel
    by_cases hlt : n < N
    · obtain ⟨hi, he⟩ := hin.out n hlt
      obtain ⟨b', off', e', hcell', hx'⟩ := hl.at_ hi
      obtain ⟨rfl, rfl⟩ : b' = b ∧ off' = off := by injection e' with e'; injection e' with e1 e2; exact ⟨e1.symm, e2.symm⟩
      rw [he] at hcell'
      have hd : decide ((a : Int) + n < l.length) = true := by simp; omega
      clear he e' hx'
      generalize nth l a = X at *
      go_wp2_with fail
      go_quiet (fail)
      go_wp2_with fail
      go_roundg (N - (n + 1))
      case measure => omega
      case rel => exact ⟨n + 1, by omega, by omega, by omega, by go_num, _, rfl⟩
    · obtain rfl : n = N := by omega
      rcases Nat.lt_or_ge (a + n) l.length with hi | hi
      · have hne := hout.out hi
        obtain ⟨b', off', e', hcell', hx'⟩ := hl.at_ hi
        obtain ⟨rfl, rfl⟩ : b' = b ∧ off' = off := by injection e' with e'; injection e' with e1 e2; exact ⟨e1.symm, e2.symm⟩
        have hb : (((nth l (a + n) : Nat) : Int) == ((nth l a : Nat) : Int)) = false := by rw [beq_eq_false_iff_ne]; omega
        have hd : decide ((a : Int) + n < l.length) = true := by simp; omega
        clear hne e' hx'
        generalize nth l (a + n) = Y at *
        generalize nth l a = X at *
        go_wp2_with fail
        go_quiet (fail)
        go_wp2_with fail
        go_ret
        exact ⟨rfl, _, World.drewN_drewN _ _ _⟩
      · have hd : decide ((a : Int) + n < l.length) = false := by simp; omega
        go_wp2_with fail
        go_quiet (fail)
        go_wp2_with fail
        go_ret
        exact ⟨rfl, _, World.drewN_drewN _ _ _⟩

/-- The closure. -/
theorem clo_any (g : Nat) (A : Option Addr) (c : Nat) (l : List Nat) (a : Nat) (w : World) (hg : w.cell? ⟨g, 0, none⟩ = some (.slice A l.length c)) (hl : Bs w A l) (ha : a < l.length) (hm : l.length ≤ 1000) :
    Calls Tryz.prog 70 #[.int .i64 (a : Int), .pointer (some ⟨g, 0, none⟩)] w fun e w' => e = .returned (.int .i64 (sameN l a : Nat)) ∧ ∃ q, w' = w.drewN q := by
  have hle := sameN_le l a (by omega)
  have hin := Lib.hid fun n => sameN_in (l := l) (a := a) (n := n)
  have hout := Lib.hid (sameN_out l a)
  obtain ⟨b, off, rfl, hcell, hx⟩ := hl.at_ ha
  generalize hN : sameN l a = N at *
  clear hN
  go_enter Tryz.func70, Tryz.ntmps70
  go_wp2_with fail
  go_loopg [3] N (fun gk v wr => ∃ n : Nat, n ≤ N ∧ gk = N - n ∧ v = .int .i64 n ∧ ∃ q, wr = w.drewN q)
  case atStart => exact ⟨0, by omega, by omega, rfl, 0, rfl⟩
  case round =>
    obtain ⟨n, h2, hk, rfl, q, rfl⟩ := hrel
    by_cases hlt : n < N
    · obtain ⟨hi, he⟩ := hin.out n hlt
      obtain ⟨b', off', e', hcell', hx'⟩ := hl.at_ hi
      obtain ⟨rfl, rfl⟩ : b' = b ∧ off' = off := by injection e' with e'; injection e' with e1 e2; exact ⟨e1.symm, e2.symm⟩
      rw [he] at hcell'
      have hd : decide ((a : Int) + n < l.length) = true := by simp; omega
      clear he e' hx'
      generalize nth l a = X at *
      go_wp2_with fail
      go_quiet (fail)
      go_wp2_with fail
      go_roundg (N - (n + 1))
      case measure => omega
      case rel => exact ⟨n + 1, by omega, by omega, by go_num, _, rfl⟩
    · obtain rfl : n = N := by omega
      rcases Nat.lt_or_ge (a + n) l.length with hi | hi
      · have hne := hout.out hi
        obtain ⟨b', off', e', hcell', hx'⟩ := hl.at_ hi
        obtain ⟨rfl, rfl⟩ : b' = b ∧ off' = off := by injection e' with e'; injection e' with e1 e2; exact ⟨e1.symm, e2.symm⟩
        have hb : (((nth l (a + n) : Nat) : Int) == ((nth l a : Nat) : Int)) = false := by rw [beq_eq_false_iff_ne]; omega
        have hd : decide ((a : Int) + n < l.length) = true := by simp; omega
        clear hne e' hx'
        generalize nth l (a + n) = Y at *
        generalize nth l a = X at *
        go_wp2_with fail
        go_quiet (fail)
        go_wp2_with fail
        go_ret
        exact ⟨rfl, _, World.drewN_drewN _ _ _⟩
      · have hd : decide ((a : Int) + n < l.length) = false := by simp; omega
        go_wp2_with fail
        go_quiet (fail)
        go_wp2_with fail
        go_ret
        exact ⟨rfl, _, World.drewN_drewN _ _ _⟩
end Go.Proofs.YtfcefhaaphieeaaGreat
