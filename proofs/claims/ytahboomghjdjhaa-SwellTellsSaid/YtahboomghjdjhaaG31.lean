/-
  The law RunsStretch, walked.
-/
import Derived.Test.YtahboomghjdjhaaG03
import Derived.Test.YtahboomghjdjhaaG29
import Derived.Test.YtahboomghjdjhaaGOpenS
namespace Go.Proofs.Ytahboomghjdjhaa
open Go.RowKit

theorem strF_ok (n : Nat) : ∀ (l : List (Int × Int)) (out : List Nat), (∀ x ∈ out, x < 256) → out.length ≤ n → (∀ x ∈ (strF n l out).1, x < 256) ∧ (strF n l out).1.length ≤ n ∧ (strF n l out).2 ≤ 100
  | [], out, h, h2 => by
    unfold strF
    split
    · exact ⟨h, h2, by simp⟩
    · exact ⟨by simp, by simp, by simp⟩
  | r :: l, out, h, h2 => by
    unfold strF
    split
    · rename_i h0
      obtain ⟨h3, _, h4⟩ := runsputE_zero h0
      exact strF_ok n l _ (putR_lt h3 h) (by rw [putR_length]; exact h4)
    · refine ⟨by simp, by simp, ?_⟩
      show runsputE n r out ≤ 100
      unfold runsputE; split
      · split <;> omega
      · omega
theorem strL_ok (l : List (Int × Int)) (n : Int) : (∀ x ∈ (strL l n).1, x < 256) ∧ (strL l n).1.length ≤ 320 ∧ (strL l n).2 ≤ 100 := by
  unfold strL
  split
  · exact ⟨by simp, by simp, by simp⟩
  · obtain ⟨h1, h2, h3⟩ := strF_ok n.toNat l [] (by simp) (by simp)
    exact ⟨h1, by omega, h3⟩

section
variable (A : Option Addr) (c : Nat) (l : List (Int × Int)) (n : Int) (w : World) (hl : Rd w A (runV l)) (hm : l.length ≤ 1000) (hr : ∀ r ∈ l, -9223372036854775808 ≤ r.1 ∧ r.1 ≤ 9223372036854775807 ∧ -9223372036854775808 ≤ r.2 ∧ r.2 ≤ 9223372036854775807)
  (hn1 : -9223372036854775808 ≤ n) (hn2 : n ≤ 9223372036854775807)
include hl hm hr hn1 hn2
theorem str_all : Calls Try.prog 70 #[.slice A l.length c, .int .i64 n] w fun e w' => StrRes w w' e (strL l n) := by
  unfold strL
  by_cases h : n < 0 ∨ 320 < n
  · rw [if_pos h]; exact str_arg A c l n w hn1 hn2 h
  · rw [if_neg h]
    obtain ⟨n, rfl⟩ := Int.eq_ofNat_of_zero_le (show 0 ≤ n by omega)
    exact str_any A c l n _ w hl hm hr (by omega) rfl
end

theorem ru8s_set (xs : List Nat) (i x : Nat) : (u8s xs).set i (.int .u8 (x : Int)) = u8s (xs.set i x) := by unfold u8s; rw [List.map_set]

end Go.Proofs.Ytahboomghjdjhaa

/-
  is, alive; the laws RunsBack and RunsCount, walked.
-/
namespace Go.Proofs.Ytahboomghjdjhaa
open Go.RowKit

theorem sumT_take (l : List (Int × Int)) (i : Nat) (h : i < l.length) : sumR (l.take (i + 1)) = sumR (l.take i) + timesOf l[i] := by
  rw [List.take_succ_eq_append_getElem h, sumT_snoc]
theorem sumT_le (l : List (Int × Int)) (h : ∀ r ∈ l, runOk r = true) (i : Nat) : sumR (l.take i) ≤ i * 138 := by
  induction i with
  | zero => simp [sumR]
  | succ i ih =>
    rcases Nat.lt_or_ge i l.length with hi | hi
    · rw [sumT_take l i hi]
      have := timesOf_le (h l[i] (List.getElem_mem hi))
      omega
    · rw [List.take_of_length_le (by omega)]
      rw [List.take_of_length_le hi] at ih
      omega

end Go.Proofs.Ytahboomghjdjhaa

/-
  The law RunsNames, walked.
-/
namespace Go.Proofs.Ytahboomghjdjhaa
open Go.RowKit

theorem str_is (A : Option Addr) (c nl : Nat) (l : List (Int × Int)) (n : Int) (w : World) (x : List Nat) (E : Nat) (hnl : nl = l.length) (hx : strL l n = (x, E)) (hl : Rd w A (runV l)) (hm : l.length ≤ 1000) (hr : ∀ r ∈ l, -9223372036854775808 ≤ r.1 ∧ r.1 ≤ 9223372036854775807 ∧ -9223372036854775808 ≤ r.2 ∧ r.2 ≤ 9223372036854775807)
    (hn1 : -9223372036854775808 ≤ n) (hn2 : n ≤ 9223372036854775807) : Calls Try.prog 70 #[.slice A nl c, .int .i64 n] w fun e w' => ∃ B d, e = .returned (.tuple #[.slice B x.length d, .int .i64 (E : Int)]) ∧ Builds w w' 5 1 B x.length d (u8s x) := by
  subst hnl
  have := str_all A c l n w hl hm hr hn1 hn2
  rw [hx] at this
  exact this
theorem sq_12 : sqE (List.replicate 12 0) = 0 ∧ sq (List.replicate 12 0) = [(18, 1)] := by decide +kernel
theorem sq_139 : sqE (List.replicate 139 0) = 0 ∧ sq (List.replicate 139 0) = [(18, 127), (0, 0)] := by decide +kernel
theorem sq_321 : sqE (List.replicate 321 0) = 4 := by decide +kernel

end Go.Proofs.Ytahboomghjdjhaa
