/-
  Slices of tokens that came in.
-/
import Derived.Test.YtfcefhaaphieeaaGreatGBlkF
import Derived.Test.YtfcefhaaphieeaaGreatGOpenS
namespace Go.Proofs.YtfcefhaaphieeaaGreat
open Go.Joins Go.ChangeShapes Go.WideShapes Go.ChangeAt Go.RowKit Go.Deep

section
variable {H : Type} {enc : TypeId × Value → H} {P : Program} {w : World} {base : Nat} {spare : Nat → Bool}
/-- A struct of three one-cell fields, by its cells. -/
theorem three_cells {e : TypeId} {f0 f1 f2 : Field} {fuel : Nat} {cs : List Value} {x : DataW H × List MemPlace} (he : P.underlying e = some (.struct #[f0, f1, f2])) (hone : oneCellFields P #[f0, f1, f2] = true) (hl : cs.length = 3)
    (h : DataW.trod enc P w base spare true fuel e cs = some x) : ∃ v0 v1 v2 y0 y1 y2 n, cs = [v0, v1, v2] ∧ DataW.trod enc P w base spare true n f0.type [v0] = some y0 ∧ DataW.trod enc P w base spare true n f1.type [v1] = some y1 ∧ DataW.trod enc P w base spare true n f2.type [v2] = some y2 := by
  obtain ⟨ys, n, _, _, _, hyl, hf⟩ := DataW.trod_struct he h
  obtain ⟨o0, k0⟩ := hone_of hone 0 f0 rfl
  obtain ⟨o1, k1⟩ := hone_of hone 1 f1 rfl
  obtain ⟨o2, k2⟩ := hone_of hone 2 f2 rfl
  have g0 := hf 0 f0 rfl
  have g1 := hf 1 f1 rfl
  have g2 := hf 2 f2 rfl
  rw [o0, k0] at g0
  rw [o1, k1] at g1
  rw [o2, k2] at g2
  match cs, hl, ys, hyl with
  | [v0, v1, v2], _, [y0, y1, y2], _ => exact ⟨v0, v1, v2, y0, y1, y2, n, rfl, by simpa using g0, by simpa using g1, by simpa using g2⟩
end

section
variable {H : Type} {enc : TypeId × Value → H} {P : Program} {w : World} {base : Nat} {spare : Nat → Bool} {r : Reach} {b0 : Nat} {t : TypeId} {v : Value} {d : DataW H} {ps : List MemPlace}
theorem cell_u8 {fuel : Nat} {u : Value} {x : DataW H × List MemPlace} (ht : P.underlying t = some (.int .u8)) (h : DataW.trod enc P w base spare true fuel t [u] = some x) :
    ∃ n : Nat, u = .int .u8 (n : Int) ∧ n < 256 := by
  obtain ⟨n, hcs, _, hw⟩ := DataW.trod_int ht h
  injection hcs with hcs
  subst hcs
  have := bounds_u8 hw
  obtain ⟨m, rfl⟩ := Int.eq_ofNat_of_zero_le this.1
  exact ⟨m, rfl, by omega⟩
/-- A pen, its bytes' capacity with it. -/
theorem in_penc {te tb ti : TypeId} {f0 f1 : Field} (hs : P.underlying t = some (.struct #[f0, f1])) (hone : Deep.oneCellFields P #[f0, f1] = true) (hC : P.cellsOf t = 2)
    (h0 : f0.type = tb) (h1 : f1.type = ti) (ht : P.underlying tb = some (.slice te)) (he : P.underlying te = some (.int .u8)) (hc : P.cellsOf te = 1) (hi : P.underlying ti = some (.int .i64))
    (hval : Value.okWide P w r b0 t v) (hd : DataW.Trod enc P w base spare true t v d ps) :
    ∃ A l c n, v = .agg #[.slice A l.length c, .int .i64 n] ∧ (InBs w A l ∧ l.length ≤ c) ∧ -9223372036854775808 ≤ n ∧ n ≤ 9223372036854775807 := by
  obtain ⟨v0, v1, y0, y1, m, rfl, _, _, hy0, hy1⟩ := Joins.open_agg2 hs hone hC hval hd
  rw [h0] at hy0
  rw [h1] at hy1
  obtain ⟨A, l, c, rfl, hin, hcap⟩ := cells_u8sc ht he hc hy0
  obtain ⟨n, rfl, hn1, hn2⟩ := cell_i64 hi hy1
  exact ⟨A, l, c, n, rfl, ⟨hin, hcap⟩, hn1, hn2⟩
end

theorem tkV_inv (l : List Tk) (j : Nat) (u : Value) (h : (tkV l)[j]? = some u) : ∃ i, ∃ h : i < l.length, (j = i * 3 ∧ u = .int .u8 ((l[i].lit : Nat) : Int)) ∨ (j = i * 3 + 1 ∧ u = .int .i64 l[i].dist) ∨ (j = i * 3 + 2 ∧ u = .int .i64 l[i].long) := by
  have hj : j < (tkV l).length := by
    rcases Nat.lt_or_ge j (tkV l).length with h' | h'
    · exact h'
    · rw [List.getElem?_eq_none h'] at h; cases h
  rw [tkV_length] at hj
  have hi : j / 3 < l.length := by omega
  obtain ⟨h1, h2, h3⟩ := tkV_at l (j / 3) hi
  refine ⟨j / 3, hi, ?_⟩
  have hm : j % 3 = 0 ∨ j % 3 = 1 ∨ j % 3 = 2 := by omega
  rcases hm with hm | hm | hm
  · have e : j = j / 3 * 3 := by omega
    rw [← e, h] at h1
    exact .inl ⟨e, by injection h1⟩
  · have e : j = j / 3 * 3 + 1 := by omega
    rw [← e, h] at h2
    exact .inr (.inl ⟨e, by injection h2⟩)
  · have e : j = j / 3 * 3 + 2 := by omega
    rw [← e, h] at h3
    exact .inr (.inr ⟨e, by injection h3⟩)

section
variable {H : Type} {enc : TypeId × Value → H} {P : Program} {w : World} {base : Nat} {spare : Nat → Bool} {r : Reach} {b0 : Nat} {t : TypeId} {v : Value} {d : DataW H} {ps : List MemPlace}
/-- Tokens that came in. -/
def InTks (w : World) (A : Option Addr) (l : List Tk) : Prop := Rd w A (tkV l) ∧ l.length ≤ maxLen ∧ ∀ t ∈ l, TkN t

theorem cells_tks {e : TypeId} {f0 f1 f2 : Field} {fuel : Nat} {u : Value} {x : DataW H × List MemPlace} (ht : P.underlying t = some (.slice e)) (he : P.underlying e = some (.struct #[f0, f1, f2])) (hone : Deep.oneCellFields P #[f0, f1, f2] = true) (hC : P.cellsOf e = 3)
    (h0 : P.underlying f0.type = some (.int .u8)) (h1 : P.underlying f1.type = some (.int .i64)) (h2 : P.underlying f2.type = some (.int .i64)) (h : DataW.trod enc P w base spare true fuel t [u] = some x) : ∃ A l c, u = .slice A l.length c ∧ InTks w A l := by
  rcases open_slice ht h with ⟨hcs, _⟩ | ⟨a, len, cap, m, n, D, Pl, hcs, _, hl, hm, hm2, _, hi⟩
  · injection hcs with hcs
    subst hcs
    exact ⟨none, [], 0, rfl, Rd.nil_, by simp, by simp⟩
  · injection hcs with hcs
    subst hcs
    have hmlen : len ≤ m := by rw [hm2]; split <;> omega
    obtain ⟨l, hll, hq⟩ := choose_list (Q := fun i (r : Tk) => w.cell? (a.add (i * 3)) = some (.int .u8 ((r.lit : Nat) : Int)) ∧ w.cell? (a.add (i * 3 + 1)) = some (.int .i64 r.dist) ∧ w.cell? (a.add (i * 3 + 2)) = some (.int .i64 r.long) ∧ TkN r) len (fun i hil => by
      obtain ⟨cs', hc, ht'⟩ := hi i (by omega)
      rw [hC] at hc
      obtain ⟨_, hcl, hat⟩ := World.cells?_some hc
      obtain ⟨v0, v1, v2, y0, y1, y2, k, rfl, ht0, ht1, ht2⟩ := three_cells he hone hcl ht'
      obtain ⟨n0, rfl, a0⟩ := cell_u8 h0 ht0
      obtain ⟨n1, rfl, a1, a2⟩ := cell_i64 h1 ht1
      obtain ⟨n2, rfl, a3, a4⟩ := cell_i64 h2 ht2
      refine ⟨⟨n0, n1, n2⟩, ?_, ?_, ?_, a0, a1, a2, a3, a4⟩
      · have := hat 0 (by omega)
        rw [Go.Deep.add_add] at this
        simpa using this
      · have := hat 1 (by omega)
        rw [Go.Deep.add_add] at this
        simpa using this
      · have := hat 2 (by omega)
        rw [Go.Deep.add_add] at this
        simpa using this)
    subst hll
    refine ⟨some a, l, cap, rfl, ⟨fun hn => ?_, fun h => by cases h⟩, by omega, fun r hr => ?_⟩
    · rw [tkV_length] at hn
      obtain ⟨b, off, spot⟩ := a
      have hspot : spot = none := by
        have := (hq 0 (by omega)).1
        have := World.cell?_spot this
        simpa [Addr.add] using this
      subst hspot
      refine ⟨b, off, rfl, fun j u hu => ?_⟩
      obtain ⟨i, hi, ⟨rfl, rfl⟩ | ⟨rfl, rfl⟩ | ⟨rfl, rfl⟩⟩ := tkV_inv l j u hu
      · have := (hq i hi).1
        rwa [add_plain] at this
      · have := (hq i hi).2.1
        rwa [add_plain] at this
      · have := (hq i hi).2.2.1
        rwa [add_plain] at this
    · obtain ⟨i, hi, rfl⟩ := List.mem_iff_getElem.1 hr
      exact (hq i hi).2.2.2

theorem in_tks {e : TypeId} {f0 f1 f2 : Field} (ht : P.underlying t = some (.slice e)) (he : P.underlying e = some (.struct #[f0, f1, f2])) (hone : Deep.oneCellFields P #[f0, f1, f2] = true) (hC : P.cellsOf e = 3)
    (h0 : P.underlying f0.type = some (.int .u8)) (h1 : P.underlying f1.type = some (.int .i64)) (h2 : P.underlying f2.type = some (.int .i64)) (hval : Value.okWide P w r b0 t v) (hd : DataW.Trod enc P w base spare true t v d ps) :
    ∃ A l c, v = .slice A l.length c ∧ InTks w A l := by
  obtain ⟨a, len, cap, rfl⟩ := okWide_slice ht hval
  obtain ⟨fuel, hf⟩ := hd
  exact cells_tks ht he hone hC h0 h1 h2 hf
end
end Go.Proofs.YtfcefhaaphieeaaGreat
