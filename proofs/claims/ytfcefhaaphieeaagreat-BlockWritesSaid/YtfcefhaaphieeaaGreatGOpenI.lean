/-
  Numbers that came in. No program in sight.
-/
import Derived.Test.YtfcefhaaphieeaaGreatG03
import Derived.Test.YtfcefhaaphieeaaGreatGOpen
namespace Go.Proofs.YtfcefhaaphieeaaGreat
open Go.Joins Go.ChangeShapes Go.WideShapes Go.ChangeAt Go.RowKit

/-- Numbers that came in: their list, its length's bound, their own bounds. -/
structure InIs (w : World) (A : Option Addr) (c : Nat) (l : List Int) : Prop where
  rd : Rd w A (ints l)
  cap : l.length ≤ c
  len : l.length ≤ maxLen
  in64 : ∀ i, -9223372036854775808 ≤ nthI l i ∧ nthI l i ≤ 9223372036854775807

section
variable {H : Type} {enc : TypeId × Value → H} {P : Program} {w : World} {base : Nat} {spare : Nat → Bool} {r : Reach} {b0 : Nat} {t : TypeId} {v : Value} {d : DataW H} {ps : List MemPlace}
theorem in_ints {e : TypeId} (ht : P.underlying t = some (.slice e)) (he : P.underlying e = some (.int .i64)) (hc : P.cellsOf e = 1) (hval : Value.okWide P w r b0 t v) (hd : DataW.Trod enc P w base spare true t v d ps) :
    ∃ A l c, v = .slice A l.length c ∧ InIs w A c l := by
  obtain ⟨a', len', cap', rfl⟩ := okWide_slice ht hval
  obtain ⟨fuel, h⟩ := hd
  rcases open_ints ht he hc h with ⟨hcs, _⟩ | ⟨a, len, cap, zs, hcs, _, hl, hm, hz, _, hcell, hwz⟩
  · injection hcs with hcs
    rw [hcs]
    exact ⟨none, [], 0, rfl, ⟨⟨Sl.nil_, fun _ => rfl⟩, by simp, by simp, fun i => by simp [nthI]⟩⟩
  · injection hcs with hcs
    rw [hcs]
    have hzl : len ≤ zs.length := by rw [hz]; split <;> omega
    have hlen : (zs.take len).length = len := by simp; omega
    refine ⟨some a, zs.take len, cap, by rw [hlen], ⟨⟨fun hn => ?_, fun e => by cases e⟩, by rw [hlen]; omega, by rw [hlen]; omega, fun i => ?_⟩⟩
    · obtain ⟨b, off, spot⟩ := a
      have h0 : 0 < len := by rw [ints_length, hlen] at hn; exact hn
      have hc0 := hcell 0 (by omega)
      have hspot : spot = none := by simpa [Addr.add] using World.cell?_spot hc0
      subst hspot
      refine ⟨b, off, rfl, fun i u hu => ?_⟩
      have hi : i < len := by
        rcases Nat.lt_or_ge i len with h | h
        · exact h
        · rw [List.getElem?_eq_none (by rw [ints_length, hlen]; exact h)] at hu; cases hu
      have hci := hcell i (by omega)
      rw [add_plain] at hci
      rw [hci, ← hu]
      have hiz : i < zs.length := by omega
      simp [ints, hi, List.getElem?_eq_getElem hiz]
    · by_cases hi : i < (zs.take len).length
      · have : nthI (zs.take len) i = (zs.take len)[i] := by simp [nthI, List.getElem?_eq_getElem hi]
        rw [this]
        exact bounds_i64 (hwz _ (List.mem_of_mem_take (List.getElem_mem hi)))
      · have : nthI (zs.take len) i = 0 := by unfold nthI; rw [List.getElem?_eq_none (by omega)]; rfl
        rw [this]; omega
end
end Go.Proofs.YtfcefhaaphieeaaGreat
