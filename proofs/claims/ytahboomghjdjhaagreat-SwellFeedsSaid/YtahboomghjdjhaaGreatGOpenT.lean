/-
  A tree that came in: 16 numbers and a slice of numbers.
-/
import Derived.ChangeSame
import Derived.Test.YtahboomghjdjhaaGreatG06
import Derived.Test.YtahboomghjdjhaaGreatGOpen
namespace Go.Proofs.YtahboomghjdjhaaGreat
open Go.Joins Go.ChangeShapes Go.WideShapes Go.ChangeAt Go.RowKit

section
variable {H : Type} {enc : TypeId × Value → H} {P : Program} {w : World} {base : Nat} {spare : Nat → Bool} {r : Reach} {b0 : Nat} {t : TypeId} {v : Value} {d : DataW H} {ps : List MemPlace}

theorem cells_ints {ts e : TypeId} {fuel : Nat} {u : Value} {x : DataW H × List MemPlace} (ht : P.underlying ts = some (.slice e)) (he : P.underlying e = some (.int .i64)) (hc : P.cellsOf e = 1)
    (h : DataW.trod enc P w base spare true fuel ts [u] = some x) : ∃ A l c, u = .slice A l.length c ∧ Rd w A (ints l) ∧ l.length ≤ c ∧ l.length ≤ maxLen := by
  rcases open_ints ht he hc h with ⟨hcs, _⟩ | ⟨a, len, cap, zs, hcs, _, hl, hm, hz, _, hcell, hwz⟩
  · injection hcs with hcs
    subst hcs
    exact ⟨none, [], 0, rfl, ⟨Sl.nil_, fun _ => rfl⟩, by simp, by simp⟩
  · injection hcs with hcs
    subst hcs
    have hzl : len ≤ zs.length := by rw [hz]; split <;> omega
    have hlen : (zs.take len).length = len := by simp; omega
    refine ⟨some a, zs.take len, cap, by rw [hlen], ⟨fun hn => ?_, fun e => by cases e⟩, by rw [hlen]; omega, by rw [hlen]; omega⟩
    obtain ⟨b, off, spot⟩ := a
    have h0 : 0 < len := by rw [ints_length, hlen] at hn; exact hn
    have hc0 := hcell 0 (by omega)
    have hspot : spot = none := by simpa [Addr.add] using World.cell?_spot hc0
    subst hspot
    refine ⟨b, off, rfl, fun i u hu => ?_⟩
    have hi : i < len := by
      rcases Nat.lt_or_ge i len with h | h
      · exact h
      · rw [List.getElem?_eq_none (by rw [ints_length, hlen]; exact h)] at hu; cases hu
    have hci := hcell i (by omega)
    rw [add_plain] at hci
    rw [hci, ← hu]
    have hiz : i < zs.length := by omega
    simp [ints, hi, List.getElem?_eq_getElem hiz]

def numAt (cs : Array Value) (i : Nat) : Int := match cs[i]? with
  | some (.int _ z) => z
  | _ => 0

/-- The cells of a tree. -/
theorem tree_cells {ta ti ts : TypeId} {f0 f1 : Field} {fuel : Nat} {cs : Array Value} {x : DataW H × List MemPlace} (hsz : cs.size = 17) (hs : P.underlying t = some (.struct #[f0, f1])) (ho0 : f0.offset = 0) (ho1 : f1.offset = 16) (h0 : f0.type = ta) (h1 : f1.type = ts)
    (hA : P.underlying ta = some (.array 16 ti)) (hCA : P.cellsOf ta = 16) (hi : P.underlying ti = some (.int .i64)) (hCi : P.cellsOf ti = 1) (hS : P.underlying ts = some (.slice ti)) (hCs : P.cellsOf ts = 1)
    (hd : DataW.trod enc P w base spare true fuel t cs.toList = some x) :
    ∃ (f : Nat → Int) (A : Option Addr) (xs : List Int) (c : Nat), cs = cellsOf 17 (treeH f (.slice A xs.length c)) ∧ Rd w A (ints xs) ∧ xs.length ≤ c ∧ xs.length ≤ maxLen := by
  obtain ⟨y0, y1, n, _, _, g0, g1⟩ := trod_struct2 hs hd
  rw [ho0, h0, hCA, List.drop_zero] at g0
  rw [ho1, h1, hCs] at g1
  have e16 : (cs.toList.drop 16).take 1 = [cs[16]'(by omega)] := by
    apply List.ext_getElem?
    intro i
    cases i with
    | zero => simp [hsz]
    | succ i => simp [List.getElem?_take]
  rw [e16] at g1
  obtain ⟨A, l, c, hu, hr, hlc, hlm⟩ := cells_ints hS hi hCi g1
  obtain ⟨ys, m, _, _, _, hyl, hel⟩ := DataW.trod_array hA g0
  refine ⟨numAt cs, A, l, c, ?_, hr, hlc, hlm⟩
  apply Array.ext
  · rw [hsz, cellsOf_size]
  · intro i g2 g3
    have hcell : (cellsOf 17 (treeH (numAt cs) (.slice A l.length c)))[i] = treeH (numAt cs) (.slice A l.length c) i := by
      have := cellsOf_get 17 (treeH (numAt cs) (.slice A l.length c)) i (by omega)
      rw [Array.getElem?_eq_getElem g3] at this
      exact Option.some.inj this
    rw [hcell]
    rcases Nat.lt_or_ge i 16 with hi16 | hi16
    · rw [treeH_lt hi16]
      have := hel i hi16
      rw [hCi, Nat.mul_one, List.getElem?_eq_getElem (show i < ys.length by omega)] at this
      have e1 : ((cs.toList.take 16).drop i).take 1 = [cs[i]] := by
        apply List.ext_getElem?
        intro k
        cases k with
        | zero => simp [List.getElem?_drop, hi16, g2]
        | succ k => simp [List.getElem?_take]
      rw [e1] at this
      obtain ⟨z, hz, _, _⟩ := DataW.trod_int hi this
      injection hz with hz
      unfold numAt
      rw [Array.getElem?_eq_getElem g2, hz]
    · obtain rfl : i = 16 := by omega
      rw [treeH_16]
      exact hu

end
end Go.Proofs.YtahboomghjdjhaaGreat
