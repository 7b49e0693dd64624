/-
  Put and Align, program and reference, in one contract each.
-/
import Derived.Test.YtfcefhaaphieeaaGreatG03
import Derived.Test.YtfcefhaaphieeaaGreatG44
import Derived.Test.YtfcefhaaphieeaaGreatG45
namespace Go.Proofs.YtfcefhaaphieeaaGreat
open Go.RowKit

def putM (l : List Nat) (n : Int) (v : Nat) (k : Int) : List Nat := if pputE l n v k = 0 then putL l n.toNat v k.toNat else []
def putN (l : List Nat) (n : Int) (v : Nat) (k : Int) : Nat := if pputE l n v k = 0 then n.toNat + k.toNat else 0
def alnM (l : List Nat) (n : Int) : List Nat := if mayB l n = true then l else []
def alnN (l : List Nat) (n : Int) : Nat := if mayB l n = true then 8 * l.length else 0

theorem put_any (A : Option Addr) (c : Nat) (l : List Nat) (n : Int) (v : Nat) (k : Int) (w : World) (hl : Bs w A l) (hA : A = none → l = []) (hm : l.length ≤ 1000000000)
    (h1 : -9223372036854775808 ≤ n) (h2 : n ≤ 9223372036854775807) (hv : v < 4294967296) (hk1 : -9223372036854775808 ≤ k) (hk2 : k ≤ 9223372036854775807) :
    Calls Tryz.prog 14 #[.agg #[.slice A l.length c, .int .i64 n], .int .u32 v, .int .i64 k] w fun e w' => PenRes w w' e (putM l n v k) (putN l n v k) (pputE l n v k) := by
  by_cases h0 : pputE l n v k = 0
  · rw [putM, putN, if_pos h0, if_pos h0, h0]
    obtain ⟨n, k, rfl, rfl, hn8, hk32, hfull, hmay, hf, hvk⟩ := pputE_zero h0
    exact put_ok A c l n v k w hl hA hn8 hmay hv hf hfull
  · rw [putM, putN, if_neg h0, if_neg h0]
    exact put_no A c l n v k w _ rfl h0 hl hm h1 h2 hv hk1 hk2

theorem putM_spec (l : List Nat) (n : Int) (v : Nat) (k : Int) (hl : ∀ x ∈ l, x < 256) (hm : l.length ≤ 10000) : (putM l n v k).length ≤ 11000 ∧ ∀ x ∈ putM l n v k, x < 256 := by
  unfold putM
  by_cases h0 : pputE l n v k = 0
  · rw [if_pos h0]
    obtain ⟨n, k, rfl, rfl, hn8, hk32, hfull, hmay, hf, hvk⟩ := pputE_zero h0
    obtain ⟨hP, -⟩ := Pen.of_may hl hmay
    obtain ⟨hQ, -⟩ := hP.put v k
    have := hP.len; have := hQ.len
    refine ⟨?_, hQ.byte⟩
    show (putL l n v k).length ≤ _
    omega
  · rw [if_neg h0]
    exact ⟨by simp, by simp⟩
theorem alnM_spec (l : List Nat) (n : Int) (hl : ∀ x ∈ l, x < 256) (hm : l.length ≤ 10000) : (alnM l n).length ≤ 11000 ∧ ∀ x ∈ alnM l n, x < 256 := by
  unfold alnM
  by_cases h : mayB l n = true
  · rw [if_pos h]; exact ⟨by omega, hl⟩
  · rw [if_neg h]; exact ⟨by simp, by simp⟩
theorem chkE_le (l : List Nat) (n : Int) : pchkE l n ≤ 8 := by unfold pchkE; split <;> omega
theorem putE_le (l : List Nat) (n : Int) (v : Nat) (k : Int) : pputE l n v k ≤ 9 := by
  unfold pputE
  split
  · split
    · split <;> omega
    · omega
  · omega

/-- What was proved of a list's name. -/
theorem PenRes.is {w w' : World} {e : Ending} {m m' : List Nat} {n n' E E' : Nat} (h : PenRes w w' e m n E) (h1 : m = m') (h2 : n = n') (h3 : E = E') : PenRes w w' e m' n' E' := by
  subst h1 h2 h3; exact h
theorem chk_is (A : Option Addr) (c : Nat) (l : List Nat) (n : Int) (E : Nat) (w : World) (h : pchkE l n = E) (hl : Bs w A l) (hm : l.length ≤ 1000000000) (h1 : -9223372036854775808 ≤ n) (h2 : n ≤ 9223372036854775807) :
    Calls Tryz.prog 9 #[.agg #[.slice A l.length c, .int .i64 n]] w fun e w' => e = .returned (.int .i64 (E : Int)) ∧ Below w.heap.size w w' := by
  subst h; exact pcheck_any A c l n w hl hm h1 h2
end Go.Proofs.YtfcefhaaphieeaaGreat
