/-
  What an argument that came in looks like, by its type: numbers, bytes, a struct of bytes and a number. No program in sight.
-/
import Derived.ChangeOld
import Derived.Lib.SmallJoins
import Derived.OpenShut
import Derived.ProofKit
import Derived.Test.YtahboomghjdjhaaGreatGMem
namespace Go.Proofs.YtahboomghjdjhaaGreat
open Go.Joins Go.ChangeShapes Go.WideShapes Go.ChangeAt Go.RowKit

section
variable {H : Type} {enc : TypeId × Value → H} {P : Program} {w : World} {base : Nat} {spare : Nat → Bool} {r : Reach} {b0 : Nat} {t : TypeId} {v : Value} {d : DataW H} {ps : List MemPlace}

theorem in_i64 (ht : P.underlying t = some (.int .i64)) (hval : Value.okWide P w r b0 t v) (hd : DataW.Trod enc P w base spare true t v d ps) :
    ∃ n : Int, v = .int .i64 n ∧ -9223372036854775808 ≤ n ∧ n ≤ 9223372036854775807 := by
  obtain ⟨n, rfl, _, _, hw⟩ := open_int ht hval hd
  have := bounds_i64 hw
  exact ⟨n, rfl, this.1, this.2⟩
/-- Bytes that came in: their list, their length's bound. -/
def InBs (w : World) (A : Option Addr) (l : List Nat) : Prop := Bs w A l ∧ (A = none → l = []) ∧ l.length ≤ maxLen

theorem cells_u8sc {e : TypeId} {fuel : Nat} {u : Value} {x : DataW H × List MemPlace} (ht : P.underlying t = some (.slice e)) (he : P.underlying e = some (.int .u8)) (hc : P.cellsOf e = 1)
    (h : DataW.trod enc P w base spare true fuel t [u] = some x) : ∃ A l c, u = .slice A l.length c ∧ InBs w A l ∧ l.length ≤ c := by
  rcases open_ints ht he hc h with ⟨hcs, _⟩ | ⟨a, len, cap, zs, hcs, _, hl, hm, hz, _, hcell, hwz⟩
  · injection hcs with hcs
    subst hcs
    exact ⟨none, [], 0, rfl, ⟨Bs.nil_, fun _ => rfl, by simp⟩, by simp⟩
  · injection hcs with hcs
    subst hcs
    have hzl : len ≤ zs.length := by rw [hz]; split <;> omega
    have hb : ∀ n ∈ zs, 0 ≤ n ∧ n ≤ 255 := fun n hn => bounds_u8 (hwz n hn)
    have hlen : ((zs.take len).map Int.toNat).length = len := by simp; omega
    refine ⟨some a, (zs.take len).map Int.toNat, cap, by rw [hlen], ⟨⟨fun hn => ?_, ?_⟩, (fun h => nomatch h), by rw [hlen]; omega⟩, by rw [hlen]; omega⟩
    · obtain ⟨b, off, spot⟩ := a
      have h0 : 0 < len := by simp at hn; omega
      have hc0 := hcell 0 (by omega)
      have hspot : spot = none := by simpa [Addr.add] using World.cell?_spot hc0
      subst hspot
      refine ⟨b, off, rfl, fun i u hu => ?_⟩
      have hi : i < len := by
        rcases Nat.lt_or_ge i len with h | h
        · exact h
        · rw [List.getElem?_eq_none (by rw [List.length_map, hlen]; exact h)] at hu; cases hu
      have hci := hcell i (by omega)
      rw [add_plain] at hci
      rw [hci, ← hu]
      have hiz : i < zs.length := by omega
      have := hb zs[i] (List.getElem_mem hiz)
      simp [hi, List.getElem?_eq_getElem hiz]
      omega
    · intro x hx
      obtain ⟨n, hn, rfl⟩ := List.mem_map.1 hx
      have := hb n (List.mem_of_mem_take hn)
      omega

theorem cells_u8s {e : TypeId} {fuel : Nat} {u : Value} {x : DataW H × List MemPlace} (ht : P.underlying t = some (.slice e)) (he : P.underlying e = some (.int .u8)) (hc : P.cellsOf e = 1)
    (h : DataW.trod enc P w base spare true fuel t [u] = some x) : ∃ A l c, u = .slice A l.length c ∧ InBs w A l := by
  obtain ⟨A, l, c, h1, h2, _⟩ := cells_u8sc ht he hc h
  exact ⟨A, l, c, h1, h2⟩

theorem in_u8s {e : TypeId} (ht : P.underlying t = some (.slice e)) (he : P.underlying e = some (.int .u8)) (hc : P.cellsOf e = 1) (hval : Value.okWide P w r b0 t v) (hd : DataW.Trod enc P w base spare true t v d ps) :
    ∃ A l c, v = .slice A l.length c ∧ InBs w A l := by
  obtain ⟨a, len, cap, rfl⟩ := okWide_slice ht hval
  obtain ⟨fuel, hf⟩ := hd
  exact cells_u8s ht he hc hf

end
end Go.Proofs.YtahboomghjdjhaaGreat
