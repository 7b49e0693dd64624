/-
  ten, alive: the chapter's pen. Words for the laws without the reference.
-/
import Derived.Test.YtfcefhaaphieeaaGreatG44
import Derived.Test.YtfcefhaaphieeaaGreatGOpen
namespace Go.Proofs.YtfcefhaaphieeaaGreat
open Go.RowKit

theorem u8s_two (a b : Nat) : u8s [a, b] = [.int .u8 (a : Int), .int .u8 (b : Int)] := rfl

theorem put_is (A : Option Addr) (c : Nat) (l : List Nat) (n : Nat) (v k : Nat) (w : World) (m : List Nat) (N : Nat) (hm : putL l n v k = m) (hN : n + k = N)
    (hl : Bs w A l) (hA : A = none → l = []) (h2 : n ≤ 8388608) (h : mayB l n = true)
    (hv : v < 4294967296) (hf : fitsB v k = true) (hfull : n + k ≤ 8388608) :
    Calls Tryz.prog 14 #[.agg #[.slice A l.length c, .int .i64 n], .int .u32 v, .int .i64 k] w fun e w' => PenRes w w' e m N 0 := by
  subst hm hN; exact put_ok A c l n v k w hl hA h2 h hv hf hfull

/-- The chapter's pen. -/
def TenRes (w w' : World) (e : Ending) : Prop :=
  Below w.heap.size w w' ∧ ∃ A c, e = .returned (.tuple #[.agg #[.slice A 2 c, .int .i64 10], .bool true]) ∧ w'.ownsRow w.heap.size 5 1 (.slice A 2 c) 2 (u8s [29, 0])

theorem two_bytes (w : World) (A : Option Addr) (a b : Nat) (t : TypeId) (hA : A = some ⟨w.heap.size, 0, none⟩) (ha : a < 256) (hb : b < 256) : Bs (w.alloc (.cells #[.int .u8 (a : Int), .int .u8 (b : Int)] t)) A [a, b] := by
  subst hA
  exact ⟨Sl.new _ _ _ _ rfl, by simp; omega⟩

theorem bytes_str (a b : Nat) : str [a, b] = ⟨#[UInt8.ofNat a, UInt8.ofNat b]⟩ := rfl

end Go.Proofs.YtfcefhaaphieeaaGreat

/-
  BitsWhole, walked.
-/
namespace Go.Proofs.YtfcefhaaphieeaaGreat
open Go.RowKit

theorem pcheck_is (A : Option Addr) (c : Nat) (l : List Nat) (n : Int) (w : World) (E : Nat) (hE : pchkE l n = E) (hl : Bs w A l) (hm : l.length ≤ 1000000000) (h1 : -9223372036854775808 ≤ n) (h2 : n ≤ 9223372036854775807) :
    Calls Tryz.prog 9 #[.agg #[.slice A l.length c, .int .i64 n]] w fun e w' => e = .returned (.int .i64 (E : Int)) ∧ Below w.heap.size w w' := by
  subst hE; exact pcheck_any A c l n w hl hm h1 h2

end Go.Proofs.YtfcefhaaphieeaaGreat

/-
  BitsBack, walked.
-/
namespace Go.Proofs.YtfcefhaaphieeaaGreat
open Go.RowKit

theorem put_no (A : Option Addr) (c : Nat) (l : List Nat) (n : Int) (v : Nat) (k : Int) (w : World) (E : Nat) (hE : pputE l n v k = E) (h0 : E ≠ 0) (hl : Bs w A l) (hm : l.length ≤ 1000000000)
    (h1 : -9223372036854775808 ≤ n) (h2 : n ≤ 9223372036854775807) (hv : v < 4294967296) (hk1 : -9223372036854775808 ≤ k) (hk2 : k ≤ 9223372036854775807) :
    Calls Tryz.prog 14 #[.agg #[.slice A l.length c, .int .i64 n], .int .u32 v, .int .i64 k] w fun e w' => PenRes w w' e [] 0 E := by
  subst hE
  unfold pputE at h0 ⊢
  cases hmay : mayB l n with
  | false => exact put_bad A c l n v k w hl hm h1 h2 hmay
  | true =>
    obtain ⟨n, rfl, hn, -⟩ := mayB_true hmay
    cases hf : fitsB v k with
    | false => exact put_unfit A c l n v k w hl hm hn hmay hv hk1 hk2 hf
    | true =>
      obtain ⟨k, rfl⟩ := Int.eq_ofNat_of_zero_le (fitsB_true hf).1
      rw [hmay, hf] at h0
      have hfull : 8388608 < n + k := by
        refine Nat.lt_of_not_le fun h => h0 ?_
        simp only [if_pos]
        rw [if_neg (by omega)]
      simp only [if_pos]
      rw [if_pos (by omega)]
      exact put_full A c l n v k w hl hm hn hmay hv hf hfull

theorem pputE_zero {l : List Nat} {n : Int} {v : Nat} {k : Int} (h : pputE l n v k = 0) : ∃ m j : Nat, n = m ∧ k = j ∧ m ≤ 8388608 ∧ j ≤ 32 ∧ m + j ≤ 8388608 ∧ mayB l m = true ∧ fitsB v j = true ∧ v < 2 ^ j := by
  unfold pputE at h
  cases hmay : mayB l n with
  | false => simp [hmay] at h
  | true =>
    cases hf : fitsB v k with
    | false => simp [hmay, hf] at h
    | true =>
      obtain ⟨m, rfl, hn, -⟩ := mayB_true hmay
      have h3 := fitsB_true hf
      obtain ⟨j, rfl⟩ := Int.eq_ofNat_of_zero_le h3.1
      refine ⟨m, j, rfl, rfl, hn, by omega, ?_, hmay, hf, by simpa using h3.2.2⟩
      rw [hmay, hf] at h
      simp only [if_pos] at h
      by_cases hb : 8388608 < (m : Int) + j
      · rw [if_pos hb] at h; omega
      · omega

theorem take_in (l : List Nat) (a k : Nat) (h : a + k ≤ 8 * l.length) (hk : k ≤ 32) : takeE l a k = 0 ∧ takeV l a k = numOf l a k := by
  have : takeE l a k = 0 := by unfold takeE; rw [if_neg (by omega), if_neg (by omega)]
  exact ⟨this, by unfold takeV; rw [if_pos this]; rfl⟩

end Go.Proofs.YtfcefhaaphieeaaGreat
