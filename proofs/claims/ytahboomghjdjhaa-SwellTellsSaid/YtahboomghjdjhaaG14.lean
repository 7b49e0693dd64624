/-
  ten, alive: the chapter's pen. Words for the laws without the reference.
-/
import Derived.Test.YtahboomghjdjhaaGOpen
import Derived.Test.YtahboomghjdjhaaGPenD
namespace Go.Proofs.Ytahboomghjdjhaa
open Go.RowKit

theorem u8s_two (a b : Nat) : u8s [a, b] = [.int .u8 (a : Int), .int .u8 (b : Int)] := rfl

/-- The chapter's pen. -/
def TenRes (w w' : World) (e : Ending) : Prop :=
  Below w.heap.size w w' ∧ ∃ A c, e = .returned (.tuple #[.agg #[.slice A 2 c, .int .i64 10], .bool true]) ∧ w'.ownsRow w.heap.size 5 1 (.slice A 2 c) 2 (u8s [29, 0])

theorem take_is (A : Option Addr) (c : Nat) (l : List Nat) (at_ n : Int) (w : World) (v e : Nat) (hv : takeV l at_ n = v) (he : takeE l at_ n = e) (hl : Bs w A l) (hm : l.length ≤ 1000000000)
    (h1 : -9223372036854775808 ≤ at_) (h2 : at_ ≤ 9223372036854775807) :
    Calls Try.prog 59 #[.slice A l.length c, .int .i64 at_, .int .i64 n] w fun o w' => o = .returned (.tuple #[.int .u32 (v : Int), .int .i64 (e : Int)]) ∧ w = w' := by
  subst hv he; exact take_any A c l at_ n w hl hm h1 h2

theorem two_bytes (w : World) (A : Option Addr) (a b : Nat) (t : TypeId) (hA : A = some ⟨w.heap.size, 0, none⟩) (ha : a < 256) (hb : b < 256) : Bs (w.alloc (.cells #[.int .u8 (a : Int), .int .u8 (b : Int)] t)) A [a, b] := by
  subst hA
  exact ⟨Sl.new _ _ _ _ rfl, by simp; omega⟩

theorem bytes_str (a b : Nat) : str [a, b] = ⟨#[UInt8.ofNat a, UInt8.ofNat b]⟩ := rfl

end Go.Proofs.Ytahboomghjdjhaa

/-
  BitsTurned, walked.
-/
namespace Go.Proofs.Ytahboomghjdjhaa
open Go.RowKit

theorem nat_bits (k : Nat) : ∀ x y : Nat, x < 2 ^ k → y < 2 ^ k → (∀ i, i < k → x / 2 ^ i % 2 = y / 2 ^ i % 2) → x = y := by
  induction k with
  | zero => intro x y hx hy _; simp at hx hy; omega
  | succ k ih =>
    intro x y hx hy h
    have h0 := h 0 (by omega)
    have h1 := ih (x / 2) (y / 2) (by rw [Nat.pow_succ] at hx; omega) (by rw [Nat.pow_succ] at hy; omega) fun i hi => by
      have := h (i + 1) (by omega)
      rwa [Nat.pow_succ, Nat.mul_comm, ← Nat.div_div_eq_div_mul, ← Nat.div_div_eq_div_mul] at this
    simp at h0
    omega

theorem rev_bit (v k : Nat) : ∀ j, j < k → rev v k / 2 ^ j % 2 = v / 2 ^ (k - 1 - j) % 2 := by
  induction k with
  | zero => intro j hj; omega
  | succ k ih =>
    intro j hj
    simp only [rev]
    have hb : v / 2 ^ k % 2 < 2 := Nat.mod_lt _ (by omega)
    cases j with
    | zero => simp
    | succ j =>
      have e : 2 ^ (j + 1) = 2 * 2 ^ j := by rw [Nat.pow_succ]; omega
      rw [e, ← Nat.div_div_eq_div_mul, show (2 * rev v k + v / 2 ^ k % 2) / 2 = rev v k by omega, ih j (by omega), show k + 1 - 1 - (j + 1) = k - 1 - j by omega]

theorem rev_rev (v k : Nat) (hv : v < 2 ^ k) : rev (rev v k) k = v :=
  nat_bits k _ _ (rev_lt _ _) hv fun i hi => by rw [rev_bit _ _ _ hi, rev_bit _ _ _ (by omega), show k - 1 - (k - 1 - i) = i by omega]

end Go.Proofs.Ytahboomghjdjhaa
