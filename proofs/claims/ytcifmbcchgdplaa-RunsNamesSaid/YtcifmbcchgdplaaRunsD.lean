/-
  Walks: Same; the law RunsSqueeze.
-/
import Derived.Test.YtcifmbcchgdplaaRunsC
namespace Go.Proofs.Ytcifmbcchgdplaa
open Go.RowKit

/-- A pair's cells. -/
theorem Rd.pair {w : World} {A : Option Addr} {l : List (Int × Int)} (h : Rd w A (runV l)) {i : Nat} (hi : i < l.length) :
    ∃ b off, A = some ⟨b, off, none⟩ ∧ w.cell? ⟨b, off + i * 2, none⟩ = some (.int .i64 (l[i]'hi).1) ∧ w.cell? ⟨b, off + i * 2 + 1, none⟩ = some (.int .i64 (l[i]'hi).2) := by
  obtain ⟨b, off, hA, hc⟩ := h.at_ (by rw [runV_length]; omega)
  obtain ⟨h1, h2⟩ := prs_get (f := fun r : Int × Int => .int .i64 r.1) (g := fun r : Int × Int => .int .i64 r.2) l i l[i] (List.getElem?_eq_getElem hi)
  refine ⟨b, off, hA, ?_, ?_⟩
  · rw [Nat.mul_comm]; exact hc _ _ h1
  · rw [Nat.add_assoc, Nat.mul_comm i 2]; exact hc _ _ h2

theorem same_any (A B : Option Addr) (c d : Nat) (l : List (Int × Int)) (w : World) (hA : Rd w A (runV l)) (hB : Rd w B (runV l)) (hm : l.length ≤ 1000) :
    Calls Try.prog 12 #[.slice A l.length c, .slice B l.length d] w fun e w' => e = .returned (.bool true) ∧ ∃ q, w' = w.drewN q := by
  go_enter Try.func12, Try.ntmps12
  go_wp2_with fail
  go_loopg [5] l.length (fun gk v wr => ∃ n : Nat, n ≤ l.length ∧ gk = l.length - n ∧ v = .int .i64 n ∧ ∃ q, wr = w.drewN q)
  case atStart => exact ⟨0, by omega, by omega, rfl, 0, rfl⟩
  case round =>
    obtain ⟨n, h2, hk, rfl, q, rfl⟩ := hrel
    by_cases hlt : n < l.length
    · obtain ⟨b, off, rfl, hc1, hc2⟩ := hA.pair hlt
      obtain ⟨b', off', rfl, hd1, hd2⟩ := hB.pair hlt
      generalize l[n] = r at *
      obtain ⟨s, x⟩ := r
      dsimp only at *
      go_wp2_with fail
      go_quiet (fail)
      go_wp2_with fail
      go_roundg (l.length - (n + 1))
      case measure => omega
      case rel => exact ⟨n + 1, by omega, by omega, by go_num, _, rfl⟩
    · go_wp2_with fail
      go_ret
      exact ⟨rfl, _, rfl⟩

theorem sq_len (l : List Nat) : (sq l).length ≤ l.length := by
  unfold sq
  split
  · have := runsFrom_len l l.length 0 (by omega); omega
  · simp

set_option maxHeartbeats 1000000 in
theorem squeeze_walk (A : Option Addr) (l : List Nat) (c : Nat) (s : Int) (w : World) (hin : InBs w A l) (h1 : -9223372036854775808 ≤ s) (h2 : s ≤ 9223372036854775807) :
    Calls Try.prog 3 #[.slice A l.length c, .int .i64 s] w fun e w' => e = .returned (.bool true) ∧ Below w.heap.size w w' := by
  obtain ⟨hl, hA, hm⟩ := hin
  unfold maxLen at hm
  have hrd := hl.rd hA
  have HA := Lib.hid hA; clear hA
  by_cases hbig : 1000 < l.length
  · go_enter Try.func3, Try.ntmps3
    go_wp2_with fail
    go_ret
    exact ⟨rfl, Below.refl _ _⟩
  · have hbits : symBits s ≤ 7 := by unfold symBits; split <;> (try split) <;> (try split) <;> omega
    have hE : symE s ≤ 2 := by unfold symE; split <;> omega
    have hsl := sq_len l
    have HB := Lib.hid fun w => bits_any s w h1 h2
    have HR := Lib.hid fun w => rbits_any s w h1 h2
    have HQ := Lib.hid fun A c w h => sq_any A c l w h (by omega)
    have HU := Lib.hid fun A c w h => rsq_any A c l w h (by omega)
    have HM := Lib.hid fun A c B d w h h' => same_any A B c d (sq l) w h h' (by omega)
    simp only [SqRes] at HQ HU
    have hEl : sqE l ≤ 4 := by unfold sqE; split; omega; split <;> omega
    generalize sq l = S at *
    generalize sqE l = E at *
    generalize symBits s = bs at *
    generalize symE s = es at *
    go_enter Try.func3, Try.ntmps3
    go_wp2_with (at_builtin; refine grow elem_u8 rfl (.const (.slice none 0 0)) (.tmp 17) rfl rfl (Builds.nil_ w _ _) rfl hrd (by simp [u8s]) (u8s_one _) l.length (by omega) (u8s l) rfl (by omega) (by omega) ?_; intro A1 c1 w1 hB1 hg1)
    refine (HQ.out A1 c1 _ (rd_u8 hB1.rd hl.2)).mono ?_
    rintro e w2 ⟨B2, d2, rfl, hB2⟩
    have b2 := hB1.1.trans (hB2.1.mono hB1.1.size)
    have hr2 := hB1.rd.below hB2.1
    go_wp2_with fail
    refine (HU.out A c _ (hl.below b2)).mono ?_
    rintro e w3 ⟨B3, d3, rfl, hB3⟩
    have b3 := b2.trans (hB3.1.mono b2.size)
    have hr3 := hr2.below hB3.1
    have hq3 := hB2.rd.below hB3.1
    go_wp2_with fail
    refine (HB.out _).mono ?_
    rintro e w4 ⟨rfl, rfl⟩
    go_wp2_with fail
    refine (HR.out _).mono ?_
    rintro e w4 ⟨rfl, rfl⟩
    go_wp2_with fail
    refine (HM.out B2 d2 B3 d3 _ hq3 hB3.rd).mono ?_
    rintro e w4 ⟨rfl, q, rfl⟩
    have hc1 := conv_bytes (P := Try.prog) (w3.drewN q) 22 5 Try.underlying22 Try.underlying5 9 Try.underlying9 A1 l c1 (rd_u8 hr3 hl.2) (fun h => by have := hr3.2 h; exact List.map_eq_nil_iff.1 this)
    have hc2 := conv_bytes (P := Try.prog) (w3.drewN q) 22 5 Try.underlying22 Try.underlying5 9 Try.underlying9 A l c (hl.below (below_drewN' b3 q)) HA.out
    go_wp2_with fail
    go_ret
    exact ⟨rfl, below_drewN' b3 _⟩
end Go.Proofs.Ytcifmbcchgdplaa
