/-
  Slices of structs of two numbers that came in. No program in sight.
-/
import Derived.ChangeSame
import Derived.Deep.Fields
import Derived.Deep.Slices
import Derived.Test.YtahboomghjdjhaaG03
import Derived.Test.YtahboomghjdjhaaGOpen
namespace Go.Proofs.Ytahboomghjdjhaa
open Go.Joins Go.ChangeShapes Go.WideShapes Go.ChangeAt Go.RowKit Go.Deep

section
variable {H : Type} {enc : TypeId × Value → H} {P : Program} {w : World} {base : Nat} {spare : Nat → Bool}
/-- A struct of two one-cell fields, by its two cells. -/
theorem two_cells {e : TypeId} {f0 f1 : Field} {fuel : Nat} {cs : List Value} {x : DataW H × List MemPlace} (he : P.underlying e = some (.struct #[f0, f1])) (hone : oneCellFields P #[f0, f1] = true) (hl : cs.length = 2)
    (h : DataW.trod enc P w base spare true fuel e cs = some x) : ∃ v0 v1 y0 y1 n, cs = [v0, v1] ∧ DataW.trod enc P w base spare true n f0.type [v0] = some y0 ∧ DataW.trod enc P w base spare true n f1.type [v1] = some y1 := by
  obtain ⟨ys, n, _, _, _, hyl, hf⟩ := DataW.trod_struct he h
  obtain ⟨o0, k0⟩ := hone_of hone 0 f0 rfl
  obtain ⟨o1, k1⟩ := hone_of hone 1 f1 rfl
  have g0 := hf 0 f0 rfl
  have g1 := hf 1 f1 rfl
  rw [o0, k0] at g0
  rw [o1, k1] at g1
  match cs, hl, ys, hyl with
  | [v0, v1], _, [y0, y1], _ => exact ⟨v0, v1, y0, y1, n, rfl, by simpa using g0, by simpa using g1⟩
end

theorem choose_list {α : Type} {Q : Nat → α → Prop} : ∀ (n : Nat), (∀ i, i < n → ∃ r, Q i r) → ∃ l : List α, l.length = n ∧ ∀ i (h : i < l.length), Q i l[i]
  | 0, _ => ⟨[], rfl, fun i h => by simp at h⟩
  | n + 1, h => by
    obtain ⟨l, hl, hq⟩ := choose_list n fun i hi => h i (by omega)
    obtain ⟨r, hr⟩ := h n (by omega)
    refine ⟨l ++ [r], by simp [hl], fun i hi => ?_⟩
    rcases Nat.lt_or_ge i l.length with hlt | hge
    · rw [List.getElem_append_left hlt]; exact hq i hlt
    · have : i = l.length := by simp at hi; omega
      subst this
      rw [List.getElem_append_right (Nat.le_refl _)]
      simpa [hl] using hr

theorem prs_inv {α : Type} {f g : α → Value} (l : List α) (j : Nat) (u : Value) (h : (prs f g l)[j]? = some u) : ∃ i, ∃ h : i < l.length, (j = 2 * i ∧ u = f l[i]) ∨ (j = 2 * i + 1 ∧ u = g l[i]) := by
  have hj : j < (prs f g l).length := by
    rcases Nat.lt_or_ge j (prs f g l).length with h' | h'
    · exact h'
    · rw [List.getElem?_eq_none h'] at h; cases h
  rw [prs_length] at hj
  have hi : j / 2 < l.length := by omega
  obtain ⟨h1, h2⟩ := prs_get (f := f) (g := g) l (j / 2) l[j / 2] (List.getElem?_eq_getElem hi)
  refine ⟨j / 2, hi, ?_⟩
  rcases Nat.mod_two_eq_zero_or_one j with hm | hm
  · left
    have e : j = 2 * (j / 2) := by omega
    rw [← e, h] at h1
    exact ⟨e, by injection h1⟩
  · right
    have e : j = 2 * (j / 2) + 1 := by omega
    rw [← e, h] at h2
    exact ⟨e, by injection h2⟩

section
variable {H : Type} {enc : TypeId × Value → H} {P : Program} {w : World} {base : Nat} {spare : Nat → Bool} {r : Reach} {b0 : Nat} {t : TypeId} {v : Value} {d : DataW H} {ps : List MemPlace}
/-- Pairs of numbers that came in. -/
def InPairs (w : World) (A : Option Addr) (l : List (Int × Int)) : Prop :=
  Rd w A (prs (fun r => .int .i64 r.1) (fun r => .int .i64 r.2) l) ∧ l.length ≤ maxLen ∧ ∀ r ∈ l, -9223372036854775808 ≤ r.1 ∧ r.1 ≤ 9223372036854775807 ∧ -9223372036854775808 ≤ r.2 ∧ r.2 ≤ 9223372036854775807

theorem cells_pairs {e : TypeId} {f0 f1 : Field} {fuel : Nat} {u : Value} {x : DataW H × List MemPlace} (ht : P.underlying t = some (.slice e)) (he : P.underlying e = some (.struct #[f0, f1])) (hone : Deep.oneCellFields P #[f0, f1] = true) (hC : P.cellsOf e = 2)
    (h0 : P.underlying f0.type = some (.int .i64)) (h1 : P.underlying f1.type = some (.int .i64)) (h : DataW.trod enc P w base spare true fuel t [u] = some x) : ∃ A l c, u = .slice A l.length c ∧ InPairs w A l := by
  rcases open_slice ht h with ⟨hcs, _⟩ | ⟨a, len, cap, m, n, D, Pl, hcs, _, hl, hm, hm2, _, hi⟩
  · injection hcs with hcs
    subst hcs
    exact ⟨none, [], 0, rfl, Rd.nil_, by simp, by simp⟩
  · injection hcs with hcs
    subst hcs
    have hmlen : len ≤ m := by rw [hm2]; split <;> omega
    obtain ⟨l, hll, hq⟩ := choose_list (Q := fun i (r : Int × Int) => w.cell? (a.add (i * 2)) = some (.int .i64 r.1) ∧ w.cell? (a.add (i * 2 + 1)) = some (.int .i64 r.2) ∧ -9223372036854775808 ≤ r.1 ∧ r.1 ≤ 9223372036854775807 ∧ -9223372036854775808 ≤ r.2 ∧ r.2 ≤ 9223372036854775807) len (fun i hil => by
      obtain ⟨cs', hc, ht'⟩ := hi i (by omega)
      rw [hC] at hc
      obtain ⟨_, hcl, hat⟩ := World.cells?_some hc
      obtain ⟨v0, v1, y0, y1, k, rfl, ht0, ht1⟩ := two_cells he hone hcl ht'
      obtain ⟨n0, rfl, a1, a2⟩ := cell_i64 h0 ht0
      obtain ⟨n1, rfl, a3, a4⟩ := cell_i64 h1 ht1
      refine ⟨(n0, n1), ?_, ?_, a1, a2, a3, a4⟩
      · have := hat 0 (by omega)
        rw [Go.Deep.add_add] at this
        simpa using this
      · have := hat 1 (by omega)
        rw [Go.Deep.add_add] at this
        simpa using this)
    subst hll
    refine ⟨some a, l, cap, rfl, ⟨fun hn => ?_, fun h => by cases h⟩, by omega, fun r hr => ?_⟩
    · rw [prs_length] at hn
      obtain ⟨b, off, spot⟩ := a
      have hspot : spot = none := by
        have := (hq 0 (by omega)).1
        have := World.cell?_spot this
        simpa [Addr.add] using this
      subst hspot
      refine ⟨b, off, rfl, fun j u hu => ?_⟩
      obtain ⟨i, hi, ⟨rfl, rfl⟩ | ⟨rfl, rfl⟩⟩ := prs_inv l j u hu
      · have := (hq i hi).1
        rwa [add_plain, Nat.mul_comm] at this
      · have := (hq i hi).2.1
        rwa [add_plain, Nat.mul_comm] at this
    · obtain ⟨i, hi, rfl⟩ := List.mem_iff_getElem.1 hr
      exact (hq i hi).2.2

theorem in_pairs {e : TypeId} {f0 f1 : Field} (ht : P.underlying t = some (.slice e)) (he : P.underlying e = some (.struct #[f0, f1])) (hone : Deep.oneCellFields P #[f0, f1] = true) (hC : P.cellsOf e = 2)
    (h0 : P.underlying f0.type = some (.int .i64)) (h1 : P.underlying f1.type = some (.int .i64)) (hval : Value.okWide P w r b0 t v) (hd : DataW.Trod enc P w base spare true t v d ps) :
    ∃ A l c, v = .slice A l.length c ∧ InPairs w A l := by
  obtain ⟨a, len, cap, rfl⟩ := okWide_slice ht hval
  obtain ⟨fuel, hf⟩ := hd
  exact cells_pairs ht he hone hC h0 h1 hf
end
end Go.Proofs.Ytahboomghjdjhaa
