/-
  Walks: first (the reference's).
-/
import Derived.Test.YtfcefhaaphieeaaGreatGRunsA
namespace Go.Proofs.YtfcefhaaphieeaaGreat
open Go.RowKit

/-- What first answers. -/
def FirstRes (w w' : World) (e : Ending) (l : List Nat) (a : Nat) : Prop :=
  Below w.heap.size w w' ∧ e = .returned (.tuple #[.agg #[.int .i64 (stepOf l a).1.1, .int .i64 (stepOf l a).1.2], .int .i64 ((stepOf l a).2 : Nat)])

theorem FirstRes.mk' {w w' : World} {e : Ending} {l : List Nat} {a : Nat} {s x : Int} {n : Nat} (h : stepOf l a = ((s, x), n)) (hb : Below w.heap.size w w') (he : e = .returned (.tuple #[.agg #[.int .i64 s, .int .i64 x], .int .i64 (n : Nat)])) : FirstRes w w' e l a := by
  refine ⟨hb, ?_⟩
  rw [h]; exact he

/-- The nine ways of a step. -/
theorem step_ways (l : List Nat) (a : Nat) :
    (nth l a = 0 ∧ 138 < sameN l a ∧ stepOf l a = ((18, 127), 138)) ∨
    (nth l a = 0 ∧ 11 ≤ sameN l a ∧ sameN l a ≤ 138 ∧ stepOf l a = ((18, (sameN l a : Int) - 11), sameN l a)) ∨
    (nth l a = 0 ∧ 3 ≤ sameN l a ∧ sameN l a < 11 ∧ stepOf l a = ((17, (sameN l a : Int) - 3), sameN l a)) ∨
    (nth l a = 0 ∧ sameN l a < 3 ∧ stepOf l a = ((0, 0), 1)) ∨
    (nth l a ≠ 0 ∧ a = 0 ∧ stepOf l a = ((((nth l a : Nat) : Int), 0), 1)) ∨
    (nth l a ≠ 0 ∧ 0 < a ∧ nth l (a - 1) ≠ nth l a ∧ stepOf l a = ((((nth l a : Nat) : Int), 0), 1)) ∨
    (nth l a ≠ 0 ∧ 0 < a ∧ nth l (a - 1) = nth l a ∧ sameN l a < 3 ∧ stepOf l a = ((((nth l a : Nat) : Int), 0), 1)) ∨
    (nth l a ≠ 0 ∧ 0 < a ∧ nth l (a - 1) = nth l a ∧ 3 ≤ sameN l a ∧ sameN l a ≤ 6 ∧ stepOf l a = ((16, (sameN l a : Int) - 3), sameN l a)) ∨
    (nth l a ≠ 0 ∧ 0 < a ∧ nth l (a - 1) = nth l a ∧ 6 < sameN l a ∧ stepOf l a = ((16, 3), 6)) := by
  unfold stepOf
  generalize sameN l a = N
  generalize nth l (a - 1) = Y
  generalize nth l a = X
  by_cases hx : X = 0
  · by_cases h1 : 11 ≤ N
    · rw [if_pos ⟨hx, h1⟩]
      by_cases h2 : 138 < N
      · left; refine ⟨hx, h2, ?_⟩; rw [Nat.min_eq_right (by omega)]; rfl
      · right; left; refine ⟨hx, h1, by omega, ?_⟩; rw [Nat.min_eq_left (by omega), show ((N - 11 : Nat) : Int) = (N : Int) - 11 by omega]
    · rw [if_neg (fun h => h1 h.2)]
      by_cases h2 : 3 ≤ N
      · rw [if_pos ⟨hx, h2⟩]; right; right; left; refine ⟨hx, h2, by omega, ?_⟩; rw [show ((N - 3 : Nat) : Int) = (N : Int) - 3 by omega]
      · rw [if_neg (fun h => h2 h.2), if_neg (fun h => h.1 hx)]; right; right; right; left; refine ⟨hx, by omega, ?_⟩; rw [hx]; rfl
  · rw [if_neg (fun h => hx h.1), if_neg (fun h => hx h.1)]
    by_cases ha : a = 0
    · rw [if_neg (fun h => by have := h.2.1; omega)]; right; right; right; right; left; exact ⟨hx, ha, rfl⟩
    · by_cases hy : Y = X
      · by_cases h3 : 3 ≤ N
        · rw [if_pos ⟨hx, by omega, hy, h3⟩]
          by_cases h6 : 6 < N
          · iterate 8 right
            refine ⟨hx, by omega, hy, h6, ?_⟩; rw [Nat.min_eq_right (by omega)]; rfl
          · iterate 7 right
            left; refine ⟨hx, by omega, hy, h3, by omega, ?_⟩; rw [Nat.min_eq_left (by omega), show ((N - 3 : Nat) : Int) = (N : Int) - 3 by omega]
        · rw [if_neg (fun h => h3 h.2.2.2)]
          iterate 6 right
          left; exact ⟨hx, by omega, hy, by omega, rfl⟩
      · rw [if_neg (fun h => hy h.2.2.1)]
        iterate 5 right
        left; exact ⟨hx, by omega, hy, rfl⟩

set_option maxHeartbeats 1000000 in
theorem first_any (A : Option Addr) (c : Nat) (l : List Nat) (a : Nat) (w : World) (hl : Bs w A l) (ha : a < l.length) (hm : l.length ≤ 1000) :
    Calls Tryz.prog 82 #[.slice A l.length c, .int .i64 (a : Int)] w fun e w' => FirstRes w w' e l a := by
  have hle := sameN_le l a (by omega)
  have HS := Lib.hid fun w h => runs_rsame_any A c l a w h ha hm
  have hl0 := hl.alloc (.cells #[.int .i64 0, .int .i64 0] 96)
  have hb0 : ∀ q, Below w.heap.size w ((w.alloc (.cells #[.int .i64 0, .int .i64 0] 96)).drewN q) := fun q => below_drewN' ((Below.refl _ _).alloc (Nat.le_refl _) _) q
  have HB := Lib.hid hb0; clear hb0
  obtain ⟨b, off, rfl, hcell, hx⟩ := hl.at_ ha
  have hprev : 0 < a → w.cell? ⟨b, off + (a - 1), none⟩ = some (.int .u8 ((nth l (a - 1) : Nat) : Int)) := fun h => by
    obtain ⟨b', off', e', h', _⟩ := hl.at_ (i := a - 1) (by omega)
    injection e' with e'; injection e' with e1 e2; subst e1 e2; exact h'
  have hlt1 := cell_lt hcell
  have hw := step_ways l a
  generalize sameN l a = N at *
  rcases hw with ⟨h1, h2, h3⟩ | ⟨h1, h2, h3, h4⟩ | ⟨h1, h2, h3, h4⟩ | ⟨h1, h2, h3⟩ | ⟨h1, h2, h3⟩ | ⟨h1, h2, h3, h4⟩ | ⟨h1, h2, h3, h4, h5⟩ | ⟨h1, h2, h3, h4, h5, h6⟩ | ⟨h1, h2, h3, h4, h5⟩
  · have H := Lib.hid fun w' e => FirstRes.mk' (w := w) (w' := w') (e := e) h3
    rw [h1] at hcell
    clear hprev h3
    go_enter Tryz.func82, Tryz.ntmps82
    go_wp2_with fail
    refine (HS.out _ hl0).mono ?_
    rintro e w' ⟨rfl, q, rfl⟩
    go_wp2_with fail
    refine bodyPost_ret (v := .tuple #[.agg #[.int .i64 18, .int .i64 127], .int .i64 138]) (by simp [results, Tryz.results82, go_sem]) rfl (H.out _ _ ?_ rfl)
    exact ((HB.out q).setCell (Nat.le_refl _) _).setCell (Nat.le_refl _) _
  · have H := Lib.hid fun w' e => FirstRes.mk' (w := w) (w' := w') (e := e) h4
    rw [h1] at hcell
    clear hprev h4
    go_enter Tryz.func82, Tryz.ntmps82
    go_wp2_with fail
    refine (HS.out _ hl0).mono ?_
    rintro e w' ⟨rfl, q, rfl⟩
    go_wp2_with fail
    refine bodyPost_ret (v := .tuple #[.agg #[.int .i64 18, .int .i64 ((N : Int) - 11)], .int .i64 (N : Nat)]) (by simp [results, Tryz.results82, go_sem]) rfl (H.out _ _ ?_ rfl)
    exact ((HB.out q).setCell (Nat.le_refl _) _).setCell (Nat.le_refl _) _
  · have H := Lib.hid fun w' e => FirstRes.mk' (w := w) (w' := w') (e := e) h4
    rw [h1] at hcell
    clear hprev h4
    go_enter Tryz.func82, Tryz.ntmps82
    go_wp2_with fail
    refine (HS.out _ hl0).mono ?_
    rintro e w' ⟨rfl, q, rfl⟩
    go_wp2_with fail
    refine bodyPost_ret (v := .tuple #[.agg #[.int .i64 17, .int .i64 ((N : Int) - 3)], .int .i64 (N : Nat)]) (by simp [results, Tryz.results82, go_sem]) rfl (H.out _ _ ?_ rfl)
    exact ((HB.out q).setCell (Nat.le_refl _) _).setCell (Nat.le_refl _) _
  · have H := Lib.hid fun w' e => FirstRes.mk' (w := w) (w' := w') (e := e) h3
    rw [h1] at hcell
    clear hprev h3
    go_enter Tryz.func82, Tryz.ntmps82
    go_wp2_with fail
    refine (HS.out _ hl0).mono ?_
    rintro e w' ⟨rfl, q, rfl⟩
    go_wp2_with fail
    go_quiet (fail)
    go_wp2_with fail
    refine bodyPost_ret (v := .tuple #[.agg #[.int .i64 0, .int .i64 0], .int .i64 1]) (by simp [results, Tryz.results82, go_sem]) rfl (H.out _ _ ?_ rfl)
    exact ((HB.out _).setCell (Nat.le_refl _) _).setCell (Nat.le_refl _) _
  · have H := Lib.hid fun w' e => FirstRes.mk' (w := w) (w' := w') (e := e) h3
    clear hprev h3
    subst h2
    rw [Nat.add_zero] at hcell
    have e1 : (((nth l 0 : Nat) : Int) == 0) = false := by rw [beq_eq_false_iff_ne]; omega
    have e2 : (((nth l 0 : Nat) : Int) != 0) = true := by rw [bne_iff_ne]; omega
    generalize nth l 0 = X at *
    clear h1
    go_enter Tryz.func82, Tryz.ntmps82
    go_wp2_with fail
    refine (HS.out _ hl0).mono ?_
    rintro e w' ⟨rfl, q, rfl⟩
    go_wp2_with fail
    go_quiet (fail)
    go_wp2_with fail
    refine bodyPost_ret (v := .tuple #[.agg #[.int .i64 X, .int .i64 0], .int .i64 1]) (by simp [results, Tryz.results82, go_sem]) rfl (H.out _ _ ?_ rfl)
    exact ((HB.out _).setCell (Nat.le_refl _) _).setCell (Nat.le_refl _) _
  · have H := Lib.hid fun w' e => FirstRes.mk' (w := w) (w' := w') (e := e) h4
    have hp := hprev h2
    have e1 : (((nth l a : Nat) : Int) == 0) = false := by rw [beq_eq_false_iff_ne]; omega
    have e2 : (((nth l a : Nat) : Int) != 0) = true := by rw [bne_iff_ne]; omega
    have e3 : (((nth l (a - 1) : Nat) : Int) == ((nth l a : Nat) : Int)) = false := by rw [beq_eq_false_iff_ne]; omega
    have e4 : IntKind.i64.wrap ((a : Int) - 1) = ((a - 1 : Nat) : Int) := by rw [IntWalk.i64_in _ (by omega)]; omega
    clear hprev h4 h3
    generalize nth l a = X at *
    generalize nth l (a - 1) = Y at *
    clear h1
    go_enter Tryz.func82, Tryz.ntmps82
    go_wp2_with fail
    refine (HS.out _ hl0).mono ?_
    rintro e w' ⟨rfl, q, rfl⟩
    go_wp2_with fail
    go_quiet (fail)
    go_wp2_with fail
    refine bodyPost_ret (v := .tuple #[.agg #[.int .i64 X, .int .i64 0], .int .i64 1]) (by simp [results, Tryz.results82, go_sem]) rfl (H.out _ _ ?_ rfl)
    exact ((HB.out _).setCell (Nat.le_refl _) _).setCell (Nat.le_refl _) _
  · have H := Lib.hid fun w' e => FirstRes.mk' (w := w) (w' := w') (e := e) h5
    have hp := hprev h2
    rw [h3] at hp
    have e1 : (((nth l a : Nat) : Int) == 0) = false := by rw [beq_eq_false_iff_ne]; omega
    have e2 : (((nth l a : Nat) : Int) != 0) = true := by rw [bne_iff_ne]; omega
    have e4 : IntKind.i64.wrap ((a : Int) - 1) = ((a - 1 : Nat) : Int) := by rw [IntWalk.i64_in _ (by omega)]; omega
    clear hprev h5 h3
    generalize nth l a = X at *
    clear h1
    go_enter Tryz.func82, Tryz.ntmps82
    go_wp2_with fail
    refine (HS.out _ hl0).mono ?_
    rintro e w' ⟨rfl, q, rfl⟩
    go_wp2_with fail
    go_quiet (fail)
    go_wp2_with fail
    refine bodyPost_ret (v := .tuple #[.agg #[.int .i64 X, .int .i64 0], .int .i64 1]) (by simp [results, Tryz.results82, go_sem]) rfl (H.out _ _ ?_ rfl)
    exact ((HB.out _).setCell (Nat.le_refl _) _).setCell (Nat.le_refl _) _
  · have H := Lib.hid fun w' e => FirstRes.mk' (w := w) (w' := w') (e := e) h6
    have hp := hprev h2
    rw [h3] at hp
    have e1 : (((nth l a : Nat) : Int) == 0) = false := by rw [beq_eq_false_iff_ne]; omega
    have e2 : (((nth l a : Nat) : Int) != 0) = true := by rw [bne_iff_ne]; omega
    have e4 : IntKind.i64.wrap ((a : Int) - 1) = ((a - 1 : Nat) : Int) := by rw [IntWalk.i64_in _ (by omega)]; omega
    clear hprev h6 h3
    generalize nth l a = X at *
    clear h1
    go_enter Tryz.func82, Tryz.ntmps82
    go_wp2_with fail
    refine (HS.out _ hl0).mono ?_
    rintro e w' ⟨rfl, q, rfl⟩
    go_wp2_with fail
    go_quiet (fail)
    go_wp2_with fail
    refine bodyPost_ret (v := .tuple #[.agg #[.int .i64 16, .int .i64 ((N : Int) - 3)], .int .i64 (N : Nat)]) (by simp [results, Tryz.results82, go_sem]) rfl (H.out _ _ ?_ rfl)
    exact ((HB.out _).setCell (Nat.le_refl _) _).setCell (Nat.le_refl _) _
  · have H := Lib.hid fun w' e => FirstRes.mk' (w := w) (w' := w') (e := e) h5
    have hp := hprev h2
    rw [h3] at hp
    have e1 : (((nth l a : Nat) : Int) == 0) = false := by rw [beq_eq_false_iff_ne]; omega
    have e2 : (((nth l a : Nat) : Int) != 0) = true := by rw [bne_iff_ne]; omega
    have e4 : IntKind.i64.wrap ((a : Int) - 1) = ((a - 1 : Nat) : Int) := by rw [IntWalk.i64_in _ (by omega)]; omega
    clear hprev h5 h3
    generalize nth l a = X at *
    clear h1
    go_enter Tryz.func82, Tryz.ntmps82
    go_wp2_with fail
    refine (HS.out _ hl0).mono ?_
    rintro e w' ⟨rfl, q, rfl⟩
    go_wp2_with fail
    go_quiet (fail)
    go_wp2_with fail
    refine bodyPost_ret (v := .tuple #[.agg #[.int .i64 16, .int .i64 3], .int .i64 6]) (by simp [results, Tryz.results82, go_sem]) rfl (H.out _ _ ?_ rfl)
    exact ((HB.out _).setCell (Nat.le_refl _) _).setCell (Nat.le_refl _) _
end Go.Proofs.YtfcefhaaphieeaaGreat
