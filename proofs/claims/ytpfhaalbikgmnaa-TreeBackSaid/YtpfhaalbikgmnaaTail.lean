/-
  s[k:] at any k; a cell of an array held as a value. No program in sight.
-/
import Derived.Test.YtpfhaalbikgmnaaArr
namespace Go.Proofs.Ytpfhaalbikgmnaa
open Go.RowKit

/-- What s[k:] hands on: what could be read. -/
def Tails (size k : Nat) (A A' : Option Addr) (n : Nat) : Prop := ∀ (w : World) (xs : List Value), Rd w A xs → xs.length = n * size → Rd w A' (xs.drop (k * size))

section
variable {P : Program}
theorem run_tail {t e : TypeId} {size : Nat} (ht : P.underlying t = some (.slice e)) (hs : (P.info? e).map (·.size) = some size) {A : Option Addr} {n c : Nat} {j : IntKind} {i : Int} (k : Nat) (hk : i = (k : Int)) (hkn : k ≤ n) (hnc : n ≤ c) (w : World) :
    ∃ A', (Instr.slice t (.slice A n c) (some (.int j i)) none none).run P w = .ok (.slice A' (n - k) (c - k)) w ∧ Tails size k A A' n := by
  subst hk
  have hsz : (sizeOf e).run P w = .ok size w := by
    cases hq : P.info? e with
    | none => simp [hq] at hs
    | some ti =>
      have : ti.size = size := by simpa [hq] using hs
      simp [sizeOf, typeInfo, hq, this]
  by_cases hc : c = k
  · refine ⟨A, ?_, ?_⟩
    · have hnk : n = k := by omega
      subst hc hnk
      simp [Instr.slice, run_underlying ht, Instr.sliceBounds, run_sliceBound, hsz]
    · intro w xs hr hl
      have : xs.drop (k * size) = [] := List.drop_eq_nil_of_le (by rw [hl]; exact Nat.mul_le_mul_right _ (by omega))
      rw [this]
      exact ⟨fun hn => by simp at hn, fun _ => rfl⟩
  · refine ⟨A.map (fun x => x.add (k * size)), ?_, fun w xs hr _ => hr.drop _⟩
    simp [Instr.slice, run_underlying ht, Instr.sliceBounds, run_sliceBound, hsz, hkn]
    intro h
    omega
/-- 's[k:]' in a plain region. -/
theorem tails {ops : Array Oper} {rest : List Oper} {o : Oper} {a : Act} {w : World} {Q : Exit → Act → World → Prop} (hgd : o.guard = none) (x lo : Operand) {t e : TypeId} (ho : o.op = .slice t x (some lo) none none)
    {size : Nat} (ht : P.underlying t = some (.slice e)) (hs : (P.info? e).map (·.size) = some size) {A : Option Addr} {n c : Nat} (hx : a.eval x = .slice A n c) {i : Int} (hlo : a.eval lo = .int .i64 i) (k : Nat) (hk : i = (k : Int)) (hkn : k ≤ n) (hnc : n ≤ c)
    (h : ∀ A', Tails size k A A' n → wpList P ops Q rest (a.put o.dst (.slice A' (n - k) (c - k))) w) : wpList P ops Q (o :: rest) a w :=
  wpList_plain hgd fun _ hK => by
    obtain ⟨A', h1, h2⟩ := run_tail (P := P) ht hs (A := A) (n := n) (c := c) (j := .i64) k hk hkn hnc w
    unfold Oper.wp execOp
    simp only [ho, hx, hlo, Option.map_some, Option.map_none, Instr.sliceAt, run_underlying ht, h1, Sem.run_bind, Sem.run_pure, Result.andThen_ok]
    exact hK _ _ (h A' h2)
/-- An array's cell, the array held as a value. -/
theorem run_index_cells {t e : TypeId} {n : Nat} {f : Nat → Value} (ht : P.underlying t = some (.array n e)) {d : TypeDesc} (he : P.underlying e = some d) (hd : d.isRow = false) (hs : (P.info? e).map (·.size) = some 1) {j : IntKind} {i : Int} (k : Nat) (hk : i = (k : Int)) (hkn : k < n) (w : World) :
    (Instr.index t (.agg (cellsOf n f)) (.int j i)).run P w = .ok (f k) w := by
  subst hk
  have hsz : (sizeOf e).run P w = .ok 1 w := by
    cases hq : P.info? e with
    | none => simp [hq] at hs
    | some ti =>
      have : ti.size = 1 := by simpa [hq] using hs
      simp [sizeOf, typeInfo, hq, this]
  have hagg : (isAgg e).run P w = .ok false w := by
    unfold isAgg
    rw [Sem.run_bind, run_underlying he w]
    cases d <;> simp_all
  have hk2 : ((k : Nat) : Int) < (n : Int) := by omega
  simp [Instr.index, asIntOf, run_underlying ht, hsz, hkn, Go.part, hagg, cellsOf_get n f k hkn]
theorem index_cells {ops : Array Oper} {rest : List Oper} {o : Oper} {a : Act} {w : World} {Q : Exit → Act → World → Prop} (hgd : o.guard = none) (x i : Operand) {t e : TypeId} (ho : o.op = .index t x i) {n : Nat} {f : Nat → Value} (ht : P.underlying t = some (.array n e))
    {d : TypeDesc} (he : P.underlying e = some d) (hd : d.isRow = false) (hs : (P.info? e).map (·.size) = some 1) (hx : a.eval x = .agg (cellsOf n f)) {j : IntKind} {z : Int} (hi : a.eval i = .int j z) (k : Nat) (hk : z = (k : Int)) (hkn : k < n)
    (h : wpList P ops Q rest (a.put o.dst (f k)) w) : wpList P ops Q (o :: rest) a w :=
  wpList_plain hgd fun _ hK => by
    have h1 := run_index_cells (P := P) (f := f) ht he hd hs (j := j) k hk hkn w
    unfold Oper.wp execOp
    simp only [ho, hx, hi, h1, Sem.run_bind, Sem.run_pure, Result.andThen_ok]
    exact hK _ _ h
end
end Go.Proofs.Ytpfhaalbikgmnaa
