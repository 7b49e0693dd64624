/-
  Walks: take and ends of a reading.
-/
import Derived.Test.YtpfhaalbikgmnaaTreeR
import Derived.BigRegion
namespace Go.Proofs.Ytpfhaalbikgmnaa
open Go.RowKit

/-- A reading's cells. -/
def rgH (f : Nat → Int) (v : Value) (n code first place : Nat) (i : Nat) : Value :=
  if i < 17 then treeH f v i else if i = 17 then .int .i64 (n : Int) else if i = 18 then .int .i64 (code : Int) else if i = 19 then .int .i64 (first : Int) else .int .i64 (place : Int)
def RgAt (w : World) (g : Nat) (f : Nat → Int) (v : Value) (n code first place : Nat) : Prop := Arr w g 72 21 (rgH f v n code first place)

section
variable {w : World} {g : Nat} {f : Nat → Int} {v : Value} {n code first place : Nat}
theorem RgAt.cnt (h : RgAt w g f v n code first place) (i : Nat) (hi : i < 16) : w.cell? ⟨g, i, none⟩ = some (.int .i64 (f i)) := by
  rw [Arr.cell h i (by omega), rgH, if_pos (by omega), treeH_lt hi]
theorem RgAt.syms (h : RgAt w g f v n code first place) : w.cell? ⟨g, 16, none⟩ = some v := by
  rw [Arr.cell h 16 (by omega), rgH, if_pos (by omega), treeH_16]
theorem RgAt.n_ (h : RgAt w g f v n code first place) : w.cell? ⟨g, 17, none⟩ = some (.int .i64 (n : Int)) := by
  rw [Arr.cell h 17 (by omega)]; rfl
theorem RgAt.code_ (h : RgAt w g f v n code first place) : w.cell? ⟨g, 18, none⟩ = some (.int .i64 (code : Int)) := by
  rw [Arr.cell h 18 (by omega)]; rfl
theorem RgAt.first_ (h : RgAt w g f v n code first place) : w.cell? ⟨g, 19, none⟩ = some (.int .i64 (first : Int)) := by
  rw [Arr.cell h 19 (by omega)]; rfl
theorem RgAt.place_ (h : RgAt w g f v n code first place) : w.cell? ⟨g, 20, none⟩ = some (.int .i64 (place : Int)) := by
  rw [Arr.cell h 20 (by omega)]; rfl
theorem RgAt.frees (h : RgAt w g f v n code first place) (i : Nat) : w.frozen? ⟨g, i, none⟩ = false := Blk.frozen h i
end

set_option maxRecDepth 100000 in
set_option maxHeartbeats 4000000 in
theorem ends_any (g n code first place q : Nat) (f : Nat → Int) (A : Option Addr) (ns c : Nat) (w : World) (h : RgAt w g f (.slice A ns c) n code first place) (hn : n ≤ 15) (hq : f n = (q : Int)) (h1 : q ≤ 400) (h2 : place ≤ 10000) :
    Calls Try.prog 32 #[.pointer (some ⟨g, 0, none⟩)] w fun e w' => SameRes w w' e (decide (place + q = ns)) := by
  have c1 := h.cnt n (by omega)
  have c2 := h.syms
  have c3 := h.n_
  have c4 := h.place_
  rw [hq] at c1
  clear hq h
  have hw : IntKind.i64.wrap ((place : Int) + (q : Int)) = (place : Int) + (q : Int) := IntWalk.i64_in _ (by omega)
  by_cases he : place + q = ns
  · rw [decide_eq_true he]
    have hb : (((place : Int) + (q : Int)) == (ns : Int)) = true := by rw [beq_iff_eq]; omega
    clear he
    go_enter Try.func32, Try.ntmps32
    go_wp2_with fail
    go_quiet (fail)
    go_wp2_with fail
    go_ret
    exact ⟨rfl, _, rfl⟩
  · rw [decide_eq_false he]
    have hb : (((place : Int) + (q : Int)) == (ns : Int)) = false := by rw [beq_eq_false_iff_ne]; omega
    clear he
    go_enter Try.func32, Try.ntmps32
    go_wp2_with fail
    go_quiet (fail)
    go_wp2_with fail
    go_ret
    exact ⟨rfl, _, rfl⟩

section
variable {w : World} {g : Nat} {f : Nat → Int} {A : Option Addr} {ns c n code first place : Nat} {z : Int}
theorem RgAt.setF (h : RgAt w g f (.slice A ns c) n code first place) (x : Nat) (hz : z = (x : Int)) : RgAt ((w.setCell ⟨g, 19, none⟩ (.int .i64 z)).drew) g f (.slice A ns c) n code x place := by
  subst hz
  refine Arr.drew ((Arr.set h 19 _).congr fun k hk => ?_)
  unfold rgH
  by_cases h1 : k = 19
  · subst h1; rfl
  · rw [if_neg h1]; simp [h1]
theorem RgAt.setP (h : RgAt w g f (.slice A ns c) n code first place) (x : Nat) (hz : z = (x : Int)) : RgAt ((w.setCell ⟨g, 20, none⟩ (.int .i64 z)).drew) g f (.slice A ns c) n code first x := by
  subst hz
  refine Arr.drew ((Arr.set h 20 _).congr fun k hk => ?_)
  unfold rgH
  by_cases h1 : k = 20
  · subst h1; rfl
  · rw [if_neg h1]
    by_cases h2 : k < 17
    · rw [if_pos h2, if_pos h2]
    · rw [if_neg h2, if_neg h2]
      by_cases h3 : k = 17
      · rw [if_pos h3, if_pos h3]
      · rw [if_neg h3, if_neg h3]
        by_cases h4 : k = 18
        · rw [if_pos h4, if_pos h4]
        · rw [if_neg h4, if_neg h4, if_pos (by omega), if_pos (by omega)]
theorem RgAt.setC (h : RgAt w g f (.slice A ns c) n code first place) (x : Nat) (hz : z = (x : Int)) : RgAt (w.setCell ⟨g, 18, none⟩ (.int .i64 z)) g f (.slice A ns c) n x first place := by
  subst hz
  refine (Arr.set h 18 _).congr fun k hk => ?_
  unfold rgH
  by_cases h1 : k = 18
  · subst h1; rfl
  · rw [if_neg h1]; simp [h1]
theorem RgAt.setN (h : RgAt w g f (.slice A ns c) n code first place) (x : Nat) (hz : z = (x : Int)) : RgAt (w.setCell ⟨g, 17, none⟩ (.int .i64 z)) g f (.slice A ns c) x code first place := by
  subst hz
  refine (Arr.set h 17 _).congr fun k hk => ?_
  unfold rgH
  by_cases h1 : k = 17
  · subst h1; rfl
  · rw [if_neg h1]; simp [h1]
end

def TkRes (w w' : World) (e : Ending) (g : Nat) (f : Nat → Int) (A : Option Addr) (ns c n code first place : Nat) (z : Int) : Prop :=
  e = .returned (.int .i64 z) ∧ RgAt w' g f (.slice A ns c) n code first place ∧ w.grownBy w' (some g)

set_option maxRecDepth 100000 in
set_option maxHeartbeats 4000000 in
theorem rtk_any (g n code first place q q2 bit F P C : Nat) (f : Nat → Int) (A : Option Addr) (ns c : Nat) (w : World) (h : RgAt w g f (.slice A ns c) n code first place) (hn : n ≤ 14) (hq : f n = (q : Int)) (hq2 : f (n + 1) = (q2 : Int)) (h1 : q ≤ 400) (_ : q2 ≤ 400) (h2 : place ≤ 10000) (h3 : code ≤ 100000) (h4 : first ≤ 100000) (hb : bit < 2)
    (hF : (first + q) * 2 = F) (hP : place + q = P) (hC : code * 2 + bit = C) (hge : F ≤ C) :
    Calls Try.prog 34 #[.pointer (some ⟨g, 0, none⟩), .int .u32 (bit : Int)] w fun e w' => TkRes w w' e g f A ns c (n + 1) C F P (if C - F < q2 then ((P + (C - F) : Nat) : Int) else -1) := by
  have HF := Lib.hid hF
  have HP := Lib.hid hP
  have HC := Lib.hid hC
  have HQ := Lib.hid hq2
  have b1 : F ≤ 300000 := by omega
  have b2 : P ≤ 11000 := by omega
  have b3 : C ≤ 300000 := by omega
  clear hF hP hC hq2
  have c1 := h.cnt n (by omega)
  have c3 := h.n_
  have c4 := h.place_
  have c5 := h.code_
  have c6 := h.first_
  have fr := h.frees
  rw [hq] at c1
  have HQ0 := Lib.hid hq
  clear hq
  by_cases hhit : C - F < q2
  all_goals
    first | rw [if_pos hhit] | rw [if_neg hhit]
    go_enter Try.func34, Try.ntmps34
    go_wp2_with fail
    go_region
    have k1 := h.setF (z := ((first : Int) + (q : Int)) * 2) F (by have := HF.out; omega)
    have g1 : w.grownBy _ (some g) := only_drew (only_set (only_refl w g) 19 (.int .i64 (((first : Int) + (q : Int)) * 2)))
    generalize (w.setCell ⟨g, 19, none⟩ (.int .i64 (((first : Int) + (q : Int)) * 2))).drew = w1 at *
    clear c1 c3 c4 c5 c6 fr
    have c1 := k1.cnt n (by omega)
    have c3 := k1.n_
    have c4 := k1.place_
    have fr := k1.frees
    rw [HQ0.out] at c1
    go_wp2_with fail
    go_region
    have k2 := k1.setP (z := (place : Int) + (q : Int)) P (by have := HP.out; omega)
    have g2 : w.grownBy _ (some g) := only_drew (only_set g1 20 (.int .i64 ((place : Int) + (q : Int))))
    generalize (w1.setCell ⟨g, 20, none⟩ (.int .i64 ((place : Int) + (q : Int)))).drew = w2 at *
    clear c1 c3 c4 fr k1 g1
    have c5 := k2.code_
    have c3 := k2.n_
    have fr := k2.frees
    go_upto_region 4 with (fail)
    have k3 := k2.setC (z := (code : Int) * 2 + (bit : Int)) C (by have := HC.out; omega)
    have g3 : w.grownBy _ (some g) := only_set g2 18 (.int .i64 ((code : Int) * 2 + (bit : Int)))
    generalize w2.setCell ⟨g, 18, none⟩ (.int .i64 ((code : Int) * 2 + (bit : Int))) = w3 at *
    clear c5 c3 fr k2 g2
    have c3 := k3.n_
    have fr := k3.frees
    go_upto_region 5 with (fail)
    have k4 := k3.setN (z := (n : Int) + 1) (n + 1) (by omega)
    have g4 : w.grownBy _ (some g) := only_set g3 17 (.int .i64 ((n : Int) + 1))
    generalize w3.setCell ⟨g, 17, none⟩ (.int .i64 ((n : Int) + 1)) = w4 at *
    clear c3 fr k3 g3
    have c1 := k4.cnt (n + 1) (by omega)
    have c3 := k4.n_
    have c4 := k4.place_
    have c5 := k4.code_
    have c6 := k4.first_
    rw [HQ.out] at c1
    have hw : IntKind.i64.wrap ((C : Int) - (F : Int)) = (C : Int) - (F : Int) := IntWalk.i64_in _ (by omega)
    have hx : decide ((C : Int) - (F : Int) < (q2 : Int)) = decide (C - F < q2) := by rw [Bool.eq_iff_iff, decide_eq_true_iff, decide_eq_true_iff]; omega
    simp only [hhit, decide_true, decide_false] at hx
    go_wp2_with fail
    go_quiet (fail)
    go_wp2_with fail
    go_quiet (fail)
    go_wp2_with fail
    go_ret
    first | exact ⟨ret_int (by omega), k4, only_drewN g4 _⟩ | exact ⟨ret_int (by omega), k4, only_drewN (only_drewN g4 _) _⟩
end Go.Proofs.Ytpfhaalbikgmnaa
