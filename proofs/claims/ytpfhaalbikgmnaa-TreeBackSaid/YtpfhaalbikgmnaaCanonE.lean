/-
  begins; the law CanonApart, walked.
-/
import Derived.Test.YtpfhaalbikgmnaaCanonD
import Derived.Test.YtpfhaalbikgmnaaCanonP
namespace Go.Proofs.Ytpfhaalbikgmnaa
open Go.RowKit

/-- Does a code begin another one: what is answered. -/
def BegRes (w w' : World) (e : Ending) (a b : Nat × Nat) : Prop := e = .returned (.bool (begB a b)) ∧ Below w.heap.size w w'
theorem BegRes.mk' {w w' : World} {e : Ending} {a b : Nat × Nat} {t : Bool} (h : begB a b = t) (he : e = .returned (.bool t)) (hb : Below w.heap.size w w') : BegRes w w' e a b := by
  subst h; exact ⟨he, hb⟩
theorem u64_pow (n : Nat) (h : n ≤ 15) : IntKind.u64.wrap ((2 : Int) ^ n) = ((2 ^ n : Nat) : Int) := by
  have h1 : 2 ^ n ≤ 2 ^ 15 := pow2_le n 15 h
  have h2 : (2 : Nat) ^ 15 = 32768 := by decide
  rw [show ((2 : Int) ^ n) = ((2 ^ n : Nat) : Int) by simp]
  generalize 2 ^ n = P at *
  rw [IntKind.wrap_u64]
  omega
theorem fits_u64 {b n : Nat} (hn : n ≤ 15) (h : b < 2 ^ n) : decide ((b : Int) < IntKind.u64.wrap (2 ^ n)) = true := by
  rw [u64_pow n hn]
  exact decide_eq_true (by omega)
theorem codesL_get (l : List Nat) (i : Nat) (h : i < (codesL l).length) : (codesL l)[i] = codeAt l i := by simp [codesL]
/-- The two cells of a place's code. -/
theorem Rd.at_code {w : World} {A : Option Addr} {l : List Nat} (h : Rd w A (codV (codesL l))) {i : Nat} (hi : i < l.length) :
    ∃ b off, A = some ⟨b, off, none⟩ ∧ w.cell? ⟨b, off + i * 2, none⟩ = some (.int .u32 (((codeAt l i).1 : Nat) : Int)) ∧ w.cell? ⟨b, off + i * 2 + 1, none⟩ = some (.int .u8 (((nth l i : Nat)) : Int)) := by
  obtain ⟨b, off, h1, h2, h3⟩ := h.cod (i := i) (by rw [codesL_length]; exact hi)
  rw [codesL_get] at h2 h3
  rw [code_two] at h3
  exact ⟨b, off, h1, h2, h3⟩

end Go.Proofs.Ytpfhaalbikgmnaa
