/-
  What an argument that came in looks like, by its type: numbers, bytes, a struct of bytes and a number. No program in sight.
-/
import Derived.ChangeOld
import Derived.Lib.SmallJoins
import Derived.OpenShut
import Derived.ProofKit
import Derived.Test.YtahboomghjdjhaaGMem
namespace Go.Proofs.Ytahboomghjdjhaa
open Go.Joins Go.ChangeShapes Go.WideShapes Go.ChangeAt Go.RowKit

section
variable {H : Type} {enc : TypeId × Value → H} {P : Program} {w : World} {base : Nat} {spare : Nat → Bool} {r : Reach} {b0 : Nat} {t : TypeId} {v : Value} {d : DataW H} {ps : List MemPlace}

theorem in_i64 (ht : P.underlying t = some (.int .i64)) (hval : Value.okWide P w r b0 t v) (hd : DataW.Trod enc P w base spare true t v d ps) :
    ∃ n : Int, v = .int .i64 n ∧ -9223372036854775808 ≤ n ∧ n ≤ 9223372036854775807 := by
  obtain ⟨n, rfl, _, _, hw⟩ := open_int ht hval hd
  have := bounds_i64 hw
  exact ⟨n, rfl, this.1, this.2⟩
theorem in_u32 (ht : P.underlying t = some (.int .u32)) (hval : Value.okWide P w r b0 t v) (hd : DataW.Trod enc P w base spare true t v d ps) :
    ∃ n : Nat, v = .int .u32 (n : Int) ∧ n < 4294967296 := by
  obtain ⟨n, rfl, _, _, hw⟩ := open_int ht hval hd
  have := bounds_u32 hw
  obtain ⟨m, rfl⟩ := Int.eq_ofNat_of_zero_le this.1
  exact ⟨m, rfl, by omega⟩
theorem in_u16 (ht : P.underlying t = some (.int .u16)) (hval : Value.okWide P w r b0 t v) (hd : DataW.Trod enc P w base spare true t v d ps) :
    ∃ n : Nat, v = .int .u16 (n : Int) ∧ n < 65536 := by
  obtain ⟨n, rfl, _, _, hw⟩ := open_int ht hval hd
  have := bounds_u16 hw
  obtain ⟨m, rfl⟩ := Int.eq_ofNat_of_zero_le this.1
  exact ⟨m, rfl, by omega⟩
theorem in_u8 (ht : P.underlying t = some (.int .u8)) (hval : Value.okWide P w r b0 t v) (hd : DataW.Trod enc P w base spare true t v d ps) :
    ∃ n : Nat, v = .int .u8 (n : Int) ∧ n < 256 := by
  obtain ⟨n, rfl, _, _, hw⟩ := open_int ht hval hd
  have := bounds_u8 hw
  obtain ⟨m, rfl⟩ := Int.eq_ofNat_of_zero_le this.1
  exact ⟨m, rfl, by omega⟩
theorem in_bool (ht : P.underlying t = some .bool) (hval : Value.okWide P w r b0 t v) (hd : DataW.Trod enc P w base spare true t v d ps) :
    ∃ b : Bool, v = .bool b := by
  obtain ⟨b, rfl, _, _⟩ := open_bool ht hval hd
  exact ⟨b, rfl⟩

/-- Bytes that came in: their list, their length's bound. -/
def InBs (w : World) (A : Option Addr) (l : List Nat) : Prop := Bs w A l ∧ (A = none → l = []) ∧ l.length ≤ maxLen

theorem cells_u8sc {e : TypeId} {fuel : Nat} {u : Value} {x : DataW H × List MemPlace} (ht : P.underlying t = some (.slice e)) (he : P.underlying e = some (.int .u8)) (hc : P.cellsOf e = 1)
    (h : DataW.trod enc P w base spare true fuel t [u] = some x) : ∃ A l c, u = .slice A l.length c ∧ InBs w A l ∧ l.length ≤ c := by
  rcases open_ints ht he hc h with ⟨hcs, _⟩ | ⟨a, len, cap, zs, hcs, _, hl, hm, hz, _, hcell, hwz⟩
  · injection hcs with hcs
    subst hcs
    exact ⟨none, [], 0, rfl, ⟨Bs.nil_, fun _ => rfl, by simp⟩, by simp⟩
  · injection hcs with hcs
    subst hcs
    have hzl : len ≤ zs.length := by rw [hz]; split <;> omega
    have hb : ∀ n ∈ zs, 0 ≤ n ∧ n ≤ 255 := fun n hn => bounds_u8 (hwz n hn)
    have hlen : ((zs.take len).map Int.toNat).length = len := by simp; omega
    refine ⟨some a, (zs.take len).map Int.toNat, cap, by rw [hlen], ⟨⟨fun hn => ?_, ?_⟩, (fun h => nomatch h), by rw [hlen]; omega⟩, by rw [hlen]; omega⟩
    · obtain ⟨b, off, spot⟩ := a
      have h0 : 0 < len := by simp at hn; omega
      have hc0 := hcell 0 (by omega)
      have hspot : spot = none := by simpa [Addr.add] using World.cell?_spot hc0
      subst hspot
      refine ⟨b, off, rfl, fun i u hu => ?_⟩
      have hi : i < len := by
        rcases Nat.lt_or_ge i len with h | h
        · exact h
        · rw [List.getElem?_eq_none (by rw [List.length_map, hlen]; exact h)] at hu; cases hu
      have hci := hcell i (by omega)
      rw [add_plain] at hci
      rw [hci, ← hu]
      have hiz : i < zs.length := by omega
      have := hb zs[i] (List.getElem_mem hiz)
      simp [hi, List.getElem?_eq_getElem hiz]
      omega
    · intro x hx
      obtain ⟨n, hn, rfl⟩ := List.mem_map.1 hx
      have := hb n (List.mem_of_mem_take hn)
      omega

theorem cells_u8s {e : TypeId} {fuel : Nat} {u : Value} {x : DataW H × List MemPlace} (ht : P.underlying t = some (.slice e)) (he : P.underlying e = some (.int .u8)) (hc : P.cellsOf e = 1)
    (h : DataW.trod enc P w base spare true fuel t [u] = some x) : ∃ A l c, u = .slice A l.length c ∧ InBs w A l := by
  obtain ⟨A, l, c, h1, h2, _⟩ := cells_u8sc ht he hc h
  exact ⟨A, l, c, h1, h2⟩

theorem in_u8s {e : TypeId} (ht : P.underlying t = some (.slice e)) (he : P.underlying e = some (.int .u8)) (hc : P.cellsOf e = 1) (hval : Value.okWide P w r b0 t v) (hd : DataW.Trod enc P w base spare true t v d ps) :
    ∃ A l c, v = .slice A l.length c ∧ InBs w A l := by
  obtain ⟨a, len, cap, rfl⟩ := okWide_slice ht hval
  obtain ⟨fuel, hf⟩ := hd
  exact cells_u8s ht he hc hf

theorem cell_i64 {fuel : Nat} {u : Value} {x : DataW H × List MemPlace} (ht : P.underlying t = some (.int .i64)) (h : DataW.trod enc P w base spare true fuel t [u] = some x) :
    ∃ n : Int, u = .int .i64 n ∧ -9223372036854775808 ≤ n ∧ n ≤ 9223372036854775807 := by
  obtain ⟨n, hcs, _, hw⟩ := DataW.trod_int ht h
  injection hcs with hcs
  subst hcs
  have := bounds_i64 hw
  exact ⟨n, rfl, this.1, this.2⟩

/-- A struct of bytes and a number (a pen). -/
theorem in_pen {te tb ti : TypeId} {f0 f1 : Field} (hs : P.underlying t = some (.struct #[f0, f1])) (hone : Deep.oneCellFields P #[f0, f1] = true) (hC : P.cellsOf t = 2)
    (h0 : f0.type = tb) (h1 : f1.type = ti) (ht : P.underlying tb = some (.slice te)) (he : P.underlying te = some (.int .u8)) (hc : P.cellsOf te = 1) (hi : P.underlying ti = some (.int .i64))
    (hval : Value.okWide P w r b0 t v) (hd : DataW.Trod enc P w base spare true t v d ps) :
    ∃ A l c n, v = .agg #[.slice A l.length c, .int .i64 n] ∧ InBs w A l ∧ -9223372036854775808 ≤ n ∧ n ≤ 9223372036854775807 := by
  obtain ⟨v0, v1, y0, y1, m, rfl, _, _, hy0, hy1⟩ := Joins.open_agg2 hs hone hC hval hd
  rw [h0] at hy0
  rw [h1] at hy1
  obtain ⟨A, l, c, rfl, hin⟩ := cells_u8s ht he hc hy0
  obtain ⟨n, rfl, hn1, hn2⟩ := cell_i64 hi hy1
  exact ⟨A, l, c, n, rfl, hin, hn1, hn2⟩

/-- A struct of a number and bytes (a window). -/
theorem in_win {te tb ti : TypeId} {f0 f1 : Field} (hs : P.underlying t = some (.struct #[f0, f1])) (hone : Deep.oneCellFields P #[f0, f1] = true) (hC : P.cellsOf t = 2)
    (h0 : f0.type = ti) (h1 : f1.type = tb) (ht : P.underlying tb = some (.slice te)) (he : P.underlying te = some (.int .u8)) (hc : P.cellsOf te = 1) (hi : P.underlying ti = some (.int .i64))
    (hval : Value.okWide P w r b0 t v) (hd : DataW.Trod enc P w base spare true t v d ps) :
    ∃ n A l c, v = .agg #[.int .i64 n, .slice A l.length c] ∧ -9223372036854775808 ≤ n ∧ n ≤ 9223372036854775807 ∧ InBs w A l ∧ l.length ≤ c := by
  obtain ⟨v0, v1, y0, y1, m, rfl, _, _, hy0, hy1⟩ := Joins.open_agg2 hs hone hC hval hd
  rw [h0] at hy0
  rw [h1] at hy1
  obtain ⟨A, l, c, rfl, hin, hcap⟩ := cells_u8sc ht he hc hy1
  obtain ⟨n, rfl, hn1, hn2⟩ := cell_i64 hi hy0
  exact ⟨n, A, l, c, rfl, hn1, hn2, hin, hcap⟩
end
end Go.Proofs.Ytahboomghjdjhaa
