/-
  A slice of bytes that came in, its datum with it.
-/
import Derived.SizedLaws
import Derived.Test.YtahboomghjdjhaaGOpen
namespace Go.Proofs.Ytahboomghjdjhaa
open Go.Joins Go.ChangeShapes Go.WideShapes Go.ChangeAt Go.RowKit

section
variable {H : Type} {enc : TypeId × Value → H} {P : Program} {w : World} {base : Nat} {spare : Nat → Bool} {r : Reach} {b0 : Nat} {t : TypeId} {v : Value} {d : DataW H} {ps : List MemPlace}
theorem in_u8s_sized {e : TypeId} (ht : P.underlying t = some (.slice e)) (he : P.underlying e = some (.int .u8)) (hc : P.cellsOf e = 1) (hval : Value.okWide P w r b0 t v) (hd : DataW.Trod enc P w base spare true t v d ps) :
    ∃ A l c, v = .slice A l.length c ∧ InBs w A l ∧ (l.length = 0 ∨ ∃ elems sp, d = .slice elems sp ∧ l.length = elems.length) := by
  obtain ⟨A, l, c, hv, hin⟩ := in_u8s ht he hc hval hd
  obtain ⟨A0, len0, cap0, hv0⟩ := okWide_slice ht hval
  obtain ⟨fuel, hf⟩ := hd
  subst hv
  refine ⟨A, l, c, rfl, hin, ?_⟩
  rcases open_ints ht he hc hf with ⟨hcs, _⟩ | ⟨a, len, cap, zs, hcs, _, hl, hm, hz, hx, _, _⟩
  · injection hcs with hcs
    injection hcs with _ hcs _
    exact .inl hcs
  · injection hcs with hcs
    injection hcs with _ hcs _
    injection hx with hx _
    refine .inr ⟨_, _, hx, ?_⟩
    have hzl : len ≤ zs.length := by rw [hz]; split <;> omega
    simp [lits, hcs]
    omega
end
end Go.Proofs.Ytahboomghjdjhaa

/-
  Bytes that came in, and their room. No program in sight.
-/
namespace Go.Proofs.Ytahboomghjdjhaa
open Go.Joins Go.ChangeShapes Go.WideShapes Go.ChangeAt Go.RowKit

section
variable {H : Type} {enc : TypeId × Value → H} {P : Program} {w : World} {base : Nat} {spare : Nat → Bool} {r : Reach} {b0 : Nat} {t : TypeId} {v : Value} {d : DataW H} {ps : List MemPlace}
theorem in_u8sc {e : TypeId} (ht : P.underlying t = some (.slice e)) (he : P.underlying e = some (.int .u8)) (hc : P.cellsOf e = 1) (hval : Value.okWide P w r b0 t v) (hd : DataW.Trod enc P w base spare true t v d ps) :
    ∃ A l c, v = .slice A l.length c ∧ InBs w A l ∧ l.length ≤ c := by
  obtain ⟨a, len, cap, rfl⟩ := okWide_slice ht hval
  obtain ⟨fuel, hf⟩ := hd
  exact cells_u8sc ht he hc hf
end
end Go.Proofs.Ytahboomghjdjhaa
