/-
  The law RunsStretch, walked.
-/
import Derived.Test.YtahboomghjdjhaaGreatG03
import Derived.Test.YtahboomghjdjhaaGreatG29
import Derived.Test.YtahboomghjdjhaaGreatGOpenS
namespace Go.Proofs.YtahboomghjdjhaaGreat
open Go.RowKit

section
variable (A : Option Addr) (c : Nat) (l : List (Int × Int)) (n : Int) (w : World) (hl : Rd w A (runV l)) (hm : l.length ≤ 1000) (hr : ∀ r ∈ l, -9223372036854775808 ≤ r.1 ∧ r.1 ≤ 9223372036854775807 ∧ -9223372036854775808 ≤ r.2 ∧ r.2 ≤ 9223372036854775807)
  (hn1 : -9223372036854775808 ≤ n) (hn2 : n ≤ 9223372036854775807)
include hl hm hr hn1 hn2
theorem str_all : Calls Tryz.prog 109 #[.slice A l.length c, .int .i64 n] w fun e w' => StrRes w w' e (strL l n) := by
  unfold strL
  by_cases h : n < 0 ∨ 320 < n
  · rw [if_pos h]; exact str_arg A c l n w hn1 hn2 h
  · rw [if_neg h]
    obtain ⟨n, rfl⟩ := Int.eq_ofNat_of_zero_le (show 0 ≤ n by omega)
    exact str_any A c l n _ w hl hm hr (by omega) rfl
end

end Go.Proofs.YtahboomghjdjhaaGreat

/-
  is, alive; the laws RunsBack and RunsCount, walked.
-/
namespace Go.Proofs.YtahboomghjdjhaaGreat
open Go.RowKit

end Go.Proofs.YtahboomghjdjhaaGreat

/-
  The law RunsNames, walked.
-/
namespace Go.Proofs.YtahboomghjdjhaaGreat
open Go.RowKit

theorem str_is (A : Option Addr) (c nl : Nat) (l : List (Int × Int)) (n : Int) (w : World) (x : List Nat) (E : Nat) (hnl : nl = l.length) (hx : strL l n = (x, E)) (hl : Rd w A (runV l)) (hm : l.length ≤ 1000) (hr : ∀ r ∈ l, -9223372036854775808 ≤ r.1 ∧ r.1 ≤ 9223372036854775807 ∧ -9223372036854775808 ≤ r.2 ∧ r.2 ≤ 9223372036854775807)
    (hn1 : -9223372036854775808 ≤ n) (hn2 : n ≤ 9223372036854775807) : Calls Tryz.prog 109 #[.slice A nl c, .int .i64 n] w fun e w' => ∃ B d, e = .returned (.tuple #[.slice B x.length d, .int .i64 (E : Int)]) ∧ Builds w w' 5 1 B x.length d (u8s x) := by
  subst hnl
  have := str_all A c l n w hl hm hr hn1 hn2
  rw [hx] at this
  exact this
end Go.Proofs.YtahboomghjdjhaaGreat
