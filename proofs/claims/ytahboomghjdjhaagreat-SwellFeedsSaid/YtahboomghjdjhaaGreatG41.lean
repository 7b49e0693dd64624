/-
  SlideSame, walked. What a copy is.
-/
import Derived.Deep.QuietTactic
import Derived.Test.YtahboomghjdjhaaGreatG03
import Derived.Test.YtahboomghjdjhaaGreatGSlideLaws
import Derived.WalkSmall
namespace Go.Proofs.YtahboomghjdjhaaGreat
open Go.RowKit

instance (s : Int) (l : List Nat) : Decidable (MayW s l) := by unfold MayW; infer_instance
/-- Copy's error. -/
def copyE (s : Int) (l : List Nat) (dist n : Int) : Nat := if MayW s l then if n < 0 ∨ 258 < n ∨ dist < 1 then 2 else if (l.length : Int) < dist then 60 else 0 else 8

end Go.Proofs.YtahboomghjdjhaaGreat

/-
  SlideNames, walked.
-/
namespace Go.Proofs.YtahboomghjdjhaaGreat
open Go.RowKit

end Go.Proofs.YtahboomghjdjhaaGreat

/-
  SlideCopies, walked.
-/
namespace Go.Proofs.YtahboomghjdjhaaGreat
open Go.RowKit

theorem copyL_pre (D : Nat) (pre P : List Nat) (hD : 1 ≤ D) (hP : D ≤ P.length) : ∀ n, copyL (pre ++ P) D n = pre ++ copyL P D n
  | 0 => rfl
  | n + 1 => by
    have ih := copyL_pre D pre P hD hP n
    have hl := copyL_length P D n
    simp only [copyL]
    rw [ih, List.append_assoc]
    congr 2
    rw [List.length_append]
    unfold nth
    rw [List.getElem?_append_right (by omega), show pre.length + (copyL P D n).length - D - pre.length = (copyL P D n).length - D by omega]
theorem copyL_take (l : List Nat) (D : Nat) : ∀ n, (copyL l D n).take l.length = l
  | 0 => List.take_length
  | n + 1 => by
    have := copyL_length l D n
    simp only [copyL]
    rw [List.take_append_of_le_length (by omega), copyL_take l D n]
theorem copyL_split (l : List Nat) (D n : Nat) : l ++ (copyL l D n).drop l.length = copyL l D n := by
  have := List.take_append_drop l.length (copyL l D n)
  rwa [copyL_take] at this
theorem selem_u8 : Elem Tryz.prog 22 5 1 1 := Elem.mk' Tryz.underlying22 (z := .int .u8 0) (by kernel_rfl) rfl (by omega)

end Go.Proofs.YtahboomghjdjhaaGreat
