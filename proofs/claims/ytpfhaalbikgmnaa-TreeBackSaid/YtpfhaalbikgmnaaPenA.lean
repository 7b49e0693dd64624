/-
  Walks: slices.Clone at bytes, Twin, Same, Check, May.
-/
import Derived.Test.YtpfhaalbikgmnaaRows
import Derived.Test.YtpfhaalbikgmnaaMem
import Derived.Test.YtpfhaalbikgmnaaBitsB
import Derived.Test.YtpfhaalbikgmnaaPenM
import Derived.Deep.QuietTactic
import Derived.BigQuiet
import Derived.StillTailTactics
import Derived.Deep.DeepCutAuto
namespace Go.Proofs.Ytpfhaalbikgmnaa
open Go.RowKit

theorem pinfo_u8 : (Try.prog.info? 5).map (fun i => (i.zero, i.size, i.bytes)) = some (some (.int .u8 0), 1, 1) := by kernel_rfl

set_option maxHeartbeats 400000 in
theorem clone_any (A : Option Addr) (c : Nat) (l : List Nat) (w : World) (hl : Bs w A l) (hA : A = none → l = []) (hm : l.length ≤ 1000000000) :
    Calls Try.prog 41 #[.slice A l.length c] w fun e w' => ∃ A' c', e = .returned (.slice A' l.length c') ∧ w'.ownsRow w.heap.size 5 1 (.slice A' l.length c') l.length (u8s l) ∧ Below w.heap.size w w' := by
  obtain ⟨i0, hi0, hz0, hz1, hz2⟩ := info_parts pinfo_u8
  rcases A with _ | ad
  · obtain rfl := hA rfl
    have e1 := fun n => Lib.run_eql_slice_nil (P := Try.prog) w 22 5 none n c 0 0 Try.underlying22
    go_enter Try.func41, Try.ntmps41
    go_wp2_with fail
    go_ret
    exact ⟨none, 0, rfl, World.ownsRow_nil _ _ _ _, Below.refl _ _⟩
  · have e1 := Lib.run_eql_slice_nil (P := Try.prog) w 22 5 (some ad) l.length c 0 0 Try.underlying22
    have hl1 := (hl.alloc (.cells #[] 5)).1
    clear hA
    go_enter Try.func41, Try.ntmps41
    go_wp2_with (first
      | (at_builtin
         refine wpList_app _ rfl (.tmp 5) (.tmp 6) _ rfl w.heap.size 5 i0 _ 1 1 Try.underlying22 hi0 hz0 hz1 hz2 rfl (by omega) (.slice (some ⟨w.heap.size, 0, none⟩) 0 0) 0 [] rfl (by exact World.ownsRow_made w #[] 0 (Nat.le_refl _) (by omega) rfl) (some ad) l.length c (u8s l) rfl (by simp [u8s]) hl1 (by simp) (u8s_one l) l.length (by omega) (u8s l) rfl (by simp only [maxLen]; omega) (by omega) (by simp) ?_
         intro A1 c1 w1 hown hg hat))
    go_ret
    exact ⟨A1, c1, rfl, hown, ((Below.refl _ _).alloc (Nat.le_refl _) _).grown hg (by simp) (by simp [Value.ownBlock])⟩

/-- Its errors: 0, or 8. -/
def pchkE (l : List Nat) (n : Int) : Nat := if mayB l n then 0 else 8

theorem check_size (A : Option Addr) (c : Nat) (l : List Nat) (n : Int) (w : World) (hm : l.length ≤ 1000000000) (h1 : -9223372036854775808 ≤ n) (h2 : n ≤ 9223372036854775807)
    (h : n < 0 ∨ 8388608 < n ∨ (0 ≤ n ∧ n ≤ 8388608 ∧ (l.length : Int) ≠ (n + 7) / 8)) :
    Calls Try.prog 25 #[.agg #[.slice A l.length c, .int .i64 n]] w fun e w' => e = .returned (.int .i64 8) ∧ Below w.heap.size w w' := by
  by_cases ha : n < 0
  · clear h
    go_enter Try.func25, Try.ntmps25
    go_wp2_with fail
    go_ret
    exact ⟨rfl, (Below.refl _ _).alloc (Nat.le_refl _) _⟩
  · by_cases hb : 8388608 < n
    · clear h
      go_enter Try.func25, Try.ntmps25
      go_wp2_with fail
      go_ret
      exact ⟨rfl, (Below.refl _ _).alloc (Nat.le_refl _) _⟩
    · have hne : ((l.length : Int) != (n + 7) / 8) = true := by rw [bne_iff_ne]; omega
      clear h
      go_enter Try.func25, Try.ntmps25
      go_wp2_with fail
      go_ret
      exact ⟨rfl, (Below.refl _ _).alloc (Nat.le_refl _) _⟩

theorem check_full (A : Option Addr) (c : Nat) (l : List Nat) (n : Nat) (w : World) (h2 : n ≤ 8388608) (hn : l.length = (n + 7) / 8) (h8 : n % 8 = 0) :
    Calls Try.prog 25 #[.agg #[.slice A l.length c, .int .i64 n]] w fun e w' => e = .returned (.int .i64 0) ∧ Below w.heap.size w w' := by
  have hne : ((l.length : Int) != ((n : Int) + 7) / 8) = false := by rw [bne_eq_false_iff_eq]; omega
  have hz : ¬ (0 < (n : Int) % 8) := by omega
  have H := Lib.hid (And.intro hn h8)
  clear hn h8
  go_enter Try.func25, Try.ntmps25
  go_wp2_with fail
  go_ret
  exact ⟨rfl, (Below.refl _ _).alloc (Nat.le_refl _) _⟩

theorem check_over (A : Option Addr) (c : Nat) (l : List Nat) (n : Nat) (w : World) (hl : Bs w A l) (h2 : n ≤ 8388608) (hn : l.length = (n + 7) / 8) (h8 : n % 8 ≠ 0) :
    Calls Try.prog 25 #[.agg #[.slice A l.length c, .int .i64 n]] w fun e w' => e = .returned (.int .i64 (if nth l (l.length - 1) / 2 ^ (n % 8) = 0 then 0 else 8 : Nat)) ∧ Below w.heap.size w w' := by
  have hne : ((l.length : Int) != ((n : Int) + 7) / 8) = false := by rw [bne_eq_false_iff_eq]; omega
  have hz : 0 < (n : Int) % 8 := by omega
  have hlen : 0 < l.length := by omega
  have hlen2 : l.length ≤ 2000000 := by omega
  obtain ⟨b, off, rfl, hc, hb⟩ := hl.at_ (show l.length - 1 < l.length by omega)
  have hbl := cell_lt hc
  have hs := shr_le (nth l (l.length - 1)) (n % 8)
  have e1 : ((l.length : Int) - 1).toNat = l.length - 1 := by omega
  have H := Lib.hid (And.intro hn h8)
  clear hn h8
  by_cases hq : nth l (l.length - 1) / 2 ^ (n % 8) = 0
  · rw [if_pos hq]
    have hq' : ((nth l (l.length - 1) : Nat) : Int) / 2 ^ (n % 8) = 0 := by rw [cast_shr, hq]; rfl
    clear hs hq
    go_enter Try.func25, Try.ntmps25
    go_wp2_with fail
    go_ret
    exact ⟨rfl, (Below.refl _ _).alloc (Nat.le_refl _) _⟩
  · rw [if_neg hq]
    have hq' : 0 < ((nth l (l.length - 1) : Nat) : Int) / 2 ^ (n % 8) := by rw [cast_shr]; exact Int.natCast_pos.2 (Nat.pos_of_ne_zero hq)
    clear hs hq
    go_enter Try.func25, Try.ntmps25
    go_wp2_with fail
    go_ret
    exact ⟨rfl, (Below.refl _ _).alloc (Nat.le_refl _) _⟩

theorem chkE_size {l : List Nat} {n : Int} (h : ¬ (0 ≤ n ∧ n ≤ 8388608 ∧ (l.length : Int) = (n + 7) / 8)) : mayB l n = false := by
  unfold mayB
  rw [decide_eq_false_iff_not]
  exact fun h' => h ⟨h'.1, h'.2.1, h'.2.2.1⟩

theorem pcheck_any (A : Option Addr) (c : Nat) (l : List Nat) (n : Int) (w : World) (hl : Bs w A l) (hm : l.length ≤ 1000000000) (h1 : -9223372036854775808 ≤ n) (h2 : n ≤ 9223372036854775807) :
    Calls Try.prog 25 #[.agg #[.slice A l.length c, .int .i64 n]] w fun e w' => e = .returned (.int .i64 (pchkE l n)) ∧ Below w.heap.size w w' := by
  unfold pchkE
  by_cases h : 0 ≤ n ∧ n ≤ 8388608 ∧ (l.length : Int) = (n + 7) / 8
  · obtain ⟨h3, h4, h5⟩ := h
    obtain ⟨m, rfl⟩ := Int.eq_ofNat_of_zero_le h3
    by_cases h8 : m % 8 = 0
    · rw [mayB_full l m (by omega) (by omega) h8]
      exact check_full A c l m w (by omega) (by omega) h8
    · rw [mayB_over l hl.2 m (by omega) (by omega) h8]
      have := check_over A c l m w hl (by omega) (by omega) h8
      by_cases hq : nth l (l.length - 1) / 2 ^ (m % 8) = 0
      · rw [if_pos hq] at this
        rw [decide_eq_true hq]
        exact this
      · rw [if_neg hq] at this
        rw [decide_eq_false hq]
        exact this
  · rw [chkE_size h]
    exact check_size A c l n w hm h1 h2 (by omega)

end Go.Proofs.Ytpfhaalbikgmnaa
