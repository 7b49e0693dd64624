/-
  Walks: cost, may.
-/
import Derived.Test.YtolcekbldpdmpaaBuildE
import Derived.Test.YtolcekbldpdmpaaOpenI
namespace Go.Proofs.Ytolcekbldpdmpaa
open Go.RowKit

/-- What lengths cost. -/
def costL (fr : List Int) (l : List Nat) (i : Nat) : Nat := sumN (fun j => (nthI fr j).toNat * nth l j) i
theorem costL_le {fr : List Int} {l : List Nat} (hf : ∀ i, i < fr.length → 0 ≤ nthI fr i ∧ nthI fr i ≤ 1073741824) (hl : ∀ x ∈ l, x < 256) : ∀ i, i ≤ fr.length → costL fr l i ≤ i * 274877906944
  | 0, _ => Nat.le_refl _
  | i + 1, h => by
    have h1 := costL_le hf hl i (by omega)
    have h2 := hf i (by omega)
    have h3 : nth l i < 256 := by
      rcases Nat.lt_or_ge i l.length with h | h
      · have : nth l i = l[i] := by simp [nth, List.getElem?_eq_getElem h]
        rw [this]; exact hl _ (List.getElem_mem h)
      · have : nth l i = 0 := by unfold nth; rw [List.getElem?_eq_none h]; rfl
        omega
    have h4 : (nthI fr i).toNat * nth l i ≤ 1073741824 * 256 := Nat.mul_le_mul (by omega) (by omega)
    unfold costL at h1 ⊢
    rw [sumN, Nat.succ_mul]
    omega

set_option maxRecDepth 100000 in
set_option maxHeartbeats 4000000 in
theorem cost_is (F : Option Addr) (nf cF : Nat) (fr : List Int) (B : Option Addr) (cB : Nat) (l : List Nat) (w : World) (hF : Rd w F (ints fr)) (hB : Bs w B l) (hn : nf = fr.length) (hl : nf = l.length) (hs : nf ≤ 1000) (hf : ∀ i, i < fr.length → 0 ≤ nthI fr i ∧ nthI fr i ≤ 1073741824) :
    Calls Try.prog 13 #[.slice F nf cF, .slice B nf cB] w fun e w' => e = .returned (.int .i64 (costL fr l nf : Nat)) ∧ ∃ q, w' = w.drewN q := by
  have HN := Lib.hid (And.intro hn (And.intro hl hf))
  have HC := Lib.hid (fun i (h : i ≤ nf) => costL_le hf hB.2 i (by omega))
  clear hn hl hf
  go_enter Try.func13, Try.ntmps13
  go_wp2_with fail
  go_loopg [5, 6] nf (fun gk v5 v6 wr => ∃ i : Nat, i ≤ nf ∧ gk = nf - i ∧ v6 = .int .i64 (i : Int) ∧ v5 = .int .i64 (costL fr l i : Nat) ∧ ∃ q, wr = w.drewN q)
  case atStart => exact ⟨0, by omega, rfl, rfl, rfl, 0, rfl⟩
  case round =>
    obtain ⟨i, hi, hgk, rfl, rfl, q, rfl⟩ := hrel
    have HG := Lib.hid hgk
    clear hgk
    by_cases hlt : i < nf
    · have hlt' : (i : Int) < (nf : Int) := by omega
      have e1 : decide ((i : Int) < (nf : Int)) = true := decide_eq_true hlt'
      obtain ⟨b, off, rfl, hcell⟩ := hF.at_ (by rw [ints_length]; have := HN.out.1; omega)
      obtain ⟨b2, off2, rfl, hcell2, _⟩ := hB.at_ (by have := HN.out.2.1; omega : i < l.length)
      have c1 : (w.drewN q).cell? ⟨b, off + i, none⟩ = _ := hcell i _ (ints_get fr i (by have := HN.out.1; omega))
      have c2 : (w.drewN q).cell? ⟨b2, off2 + i, none⟩ = _ := hcell2
      obtain ⟨x, hx⟩ : ∃ x : Nat, nthI fr i = (x : Int) := ⟨(nthI fr i).toNat, by have := HN.out.2.2 i (by have := HN.out.1; omega); omega⟩
      have hx2 := HN.out.2.2 i (by have := HN.out.1; omega)
      rw [hx] at c1 hx2
      have h3 : nth l i < 256 := by
        have h := (show i < l.length from by have := HN.out.2.1; omega)
        have : nth l i = l[i] := by simp [nth, List.getElem?_eq_getElem h]
        rw [this]; exact hB.2 _ (List.getElem_mem h)
      have hcs : costL fr l (i + 1) = costL fr l i + x * nth l i := by unfold costL; rw [sumN, hx, Int.toNat_natCast]
      have hc1 := HC.out (i + 1) hlt
      obtain ⟨y, hy⟩ : ∃ y, nth l i = y := ⟨_, rfl⟩
      rw [hy] at c2 h3 hcs
      obtain ⟨z, hz⟩ : ∃ z, x * y = z := ⟨_, rfl⟩
      have ez : (x : Int) * (y : Int) = (z : Int) := by rw [← hz]; simp
      rw [hz] at hcs
      obtain ⟨s, hs2⟩ : ∃ s, costL fr l i = s := ⟨_, rfl⟩
      obtain ⟨s1, hs1⟩ : ∃ s1, costL fr l (i + 1) = s1 := ⟨_, rfl⟩
      rw [hs1] at hc1 hcs
      rw [hs2] at hcs ⊢
      have es : (s : Int) + (z : Int) = (s1 : Int) := by omega
      have hzs : z ≤ 1000000000000000 ∧ s1 ≤ 1000000000000000 := by omega
      have HS1 := Lib.hid hs1
      clear hcell hcell2 hx hy hz hs1 hs2 hcs hc1
      generalize hw0 : w.drewN q = w0 at *
      have HW0 := Lib.hid hw0
      clear hw0
      go_wp2_with fail
      go_quiet (fail)
      go_wp2_with fail
      go_roundg (nf - (i + 1))
      case measure => have := HG.out; omega
      case rel => exact ⟨i + 1, by omega, rfl, by go_num, by rw [HS1.out], q + nq, by rw [← HW0.out, World.drewN_drewN]⟩
    · obtain rfl : nf = i := by omega
      have e1 : decide ((nf : Int) < (nf : Int)) = false := decide_eq_false (by omega)
      have hlt' : ¬ (nf : Int) < (nf : Int) := by omega
      go_wp2_with fail
      go_ret
      exact ⟨rfl, q, rfl⟩

/-- Might these be the lengths? -/
def mayS (l : List Nat) (i : Nat) : Nat := sumN (fun j => if nth l j = 0 then 0 else pw (nth l j)) i
def MayP (fr : List Int) (l : List Nat) (L : Nat) : Prop := l.length = fr.length ∧ (∀ i, i < fr.length → nth l i ≤ L ∧ (0 < nthI fr i → nth l i ≠ 0)) ∧ mayS l fr.length ≤ 32768
def MayRes (w w' : World) (e : Ending) (fr : List Int) (l : List Nat) (L : Nat) : Prop := ∃ b, e = .returned (.bool b) ∧ (b = true ↔ MayP fr l L) ∧ w' = w
theorem mayS_le (l : List Nat) : ∀ i, mayS l i ≤ i * 32768
  | 0 => Nat.le_refl _
  | i + 1 => by
    have h1 := mayS_le l i
    have h2 := pw_le (nth l i)
    have h3 : (if nth l i = 0 then 0 else pw (nth l i)) ≤ 32768 := by
      split
      · exact Nat.zero_le _
      · exact h2
    rw [Nat.succ_mul]
    exact Nat.add_le_add h1 h3

set_option maxRecDepth 100000 in
set_option maxHeartbeats 4000000 in
theorem may_is (F : Option Addr) (nf cF : Nat) (fr : List Int) (B : Option Addr) (nb cB : Nat) (l : List Nat) (L : Nat) (w : World) (hF : Rd w F (ints fr)) (hB : Bs w B l) (hn : nf = fr.length) (hl : nb = l.length) (hs : nf ≤ 1000) (hL : L ≤ 15) (hnb : nb ≤ 9223372036854775807) (hf : ∀ i, i < fr.length → 0 ≤ nthI fr i ∧ nthI fr i ≤ 1073741824) :
    Calls Try.prog 14 #[.slice F nf cF, .slice B nb cB, .int .i64 (L : Int)] w fun e w' => MayRes w w' e fr l L := by
  have HN := Lib.hid (And.intro hn (And.intro hl hf))
  by_cases hne : nb = nf
  · have e0 : ((nb : Int) != (nf : Int)) = false := by rw [hne]; simp
    have HE := Lib.hid hne
    have hbl : nf = l.length := by omega
    have HBl := Lib.hid hbl
    clear hn hl hf hbl
    subst hne
    go_enter Try.func14, Try.ntmps14
    go_wp2_with fail
    go_loopg [7, 8] nb (fun gk v7 v8 wr => ∃ i : Nat, i ≤ nb ∧ gk = nb - i ∧ v8 = .int .i64 (i : Int) ∧ v7 = .int .i64 (mayS l i : Nat) ∧ wr = w ∧ Hid (∀ j, j < i → nth l j ≤ L ∧ (0 < nthI fr j → nth l j ≠ 0)))
    case atStart => exact ⟨0, by omega, rfl, rfl, rfl, rfl, Lib.hid (fun j h => by omega)⟩
    case round =>
      obtain ⟨i, hi, hgk, rfl, rfl, rfl, HJ⟩ := hrel
      have HG := Lib.hid hgk
      clear hgk
      by_cases hlt : i < nb
      · have hlt' : (i : Int) < (nb : Int) := by omega
        obtain ⟨b, off, rfl, hcell⟩ := hF.at_ (by rw [ints_length]; have := HN.out.1; omega)
        obtain ⟨b2, off2, rfl, c2, _⟩ := hB.at_ (by have := HBl.out; omega : i < l.length)
        have c1 := hcell i _ (ints_get fr i (by have := HN.out.1; omega))
        have hx2 := HN.out.2.2 i (by have := HN.out.1; omega)
        have h3 : nth l i < 256 := by
          have h := (show i < l.length from by have := HBl.out; omega)
          have : nth l i = l[i] := by simp [nth, List.getElem?_eq_getElem h]
          rw [this]; exact hB.2 _ (List.getElem_mem h)
        have hms : mayS l (i + 1) = mayS l i + if nth l i = 0 then 0 else pw (nth l i) := rfl
        have hml := mayS_le l (i + 1)
        have HJ1 := Lib.hid (fun (h1 : nth l i ≤ L) (h2 : 0 < nthI fr i → nth l i ≠ 0) => show ∀ j, j < i + 1 → nth l j ≤ L ∧ (0 < nthI fr j → nth l j ≠ 0) from fun j hj => by
          by_cases e : j = i
          · subst e; exact ⟨h1, h2⟩
          · exact HJ.out j (by omega))
        have HJ2 := Lib.hid (fun (h1 : ¬ (nth l i ≤ L ∧ (0 < nthI fr i → nth l i ≠ 0))) => show ¬ MayP fr l L from fun h => h1 (h.2.1 i (by have := HN.out.1; omega)))
        generalize nthI fr i = x at *
        generalize nth l i = y at *
        clear hcell HJ
        by_cases hy : L < y
        · have e1 : decide ((y : Int) > (L : Int)) = true := decide_eq_true (by omega)
          have e2 : (L : Int) < (y : Int) := by omega
          have HF := Lib.hid (HJ2.out (fun h => by omega))
          clear hms hml HJ1 HJ2
          go_wp2_with fail
          go_ret
          exact ⟨false, rfl, ⟨(fun h => nomatch h), fun h => absurd h HF.out⟩, rfl⟩
        · have e1 : decide ((y : Int) > (L : Int)) = false := decide_eq_false (by omega)
          have e2 : ¬ (L : Int) < (y : Int) := by omega
          by_cases hy0 : y = 0
          · have e3 : ((y : Int) == 0) = true := by rw [beq_iff_eq]; omega
            have e5 : decide ((y : Int) > 0) = false := decide_eq_false (by omega)
            by_cases hx : 0 < x
            · have e4 : decide (x > 0) = true := decide_eq_true hx
              have HF := Lib.hid (HJ2.out (fun h => h.2 hx hy0))
              clear hms hml HJ1 HJ2
              go_wp2_with fail
              go_ret
              exact ⟨false, rfl, ⟨(fun h => nomatch h), fun h => absurd h HF.out⟩, rfl⟩
            · have e4 : decide (x > 0) = false := decide_eq_false hx
              have HT := Lib.hid (HJ1.out (by omega) (fun h => absurd h hx))
              rw [if_pos hy0] at hms
              have HMS := Lib.hid hms
              clear hms hml HJ1 HJ2
              go_wp2_with fail
              go_roundg (nb - (i + 1))
              case measure => have := HG.out; omega
              case rel => exact ⟨i + 1, by omega, rfl, by go_num, by rw [HMS.out]; rfl, rfl, HT⟩
          · have e3 : ((y : Int) == 0) = false := by rw [beq_eq_false_iff_ne]; omega
            have e5 : decide ((y : Int) > 0) = true := decide_eq_true (by omega)
            have e5' : 0 < (y : Int) := by omega
            have HT := Lib.hid (HJ1.out (by omega) (fun _ => hy0))
            rw [if_neg hy0] at hms
            obtain ⟨k, hk⟩ : ∃ k, 15 - y = k := ⟨_, rfl⟩
            have ek : (15 : Int) - (y : Int) = (k : Int) := by omega
            have hk15 : k ≤ 15 := by omega
            have hpw : pw y = 2 ^ k := by unfold pw; rw [hk]
            rw [hpw] at hms
            obtain ⟨P, hP⟩ : ∃ P, 2 ^ k = P := ⟨_, rfl⟩
            have hPz : (2 : Int) ^ k = (P : Int) := by rw [← hP]; simp
            have hPl : P ≤ 32768 := by rw [← hP]; exact Nat.le_trans (Nat.pow_le_pow_right (n := 2) (by omega) hk15) (by decide)
            rw [hP] at hms
            obtain ⟨s, hs2⟩ : ∃ s, mayS l i = s := ⟨_, rfl⟩
            obtain ⟨s1, hs1⟩ : ∃ s1, mayS l (i + 1) = s1 := ⟨_, rfl⟩
            rw [hs1] at hml hms
            rw [hs2] at hms ⊢
            have es : (s : Int) + (P : Int) = (s1 : Int) := by omega
            have hsl : s1 ≤ 100000000 := by omega
            have HS1 := Lib.hid hs1
            clear hms hml HJ1 HJ2 hk hpw hP hs1 hs2
            go_wp2_with fail
            go_roundg (nb - (i + 1))
            case measure => have := HG.out; omega
            case rel => exact ⟨i + 1, by omega, rfl, by go_num, by rw [HS1.out], rfl, HT⟩
      · obtain rfl : nb = i := by omega
        have hlt' : ¬ (nb : Int) < (nb : Int) := by omega
        have hml := mayS_le l nb
        have HM := Lib.hid (show MayP fr l L ↔ mayS l nb ≤ 32768 from ⟨fun h => by have := h.2.2; rw [← HN.out.1] at this; exact this, fun h => ⟨by have := HN.out.1; have := HBl.out; omega, fun j hj => HJ.out j (by have := HN.out.1; omega), by rw [← HN.out.1]; exact h⟩⟩)
        generalize mayS l nb = s at *
        go_wp2_with fail
        go_ret
        exact ⟨_, rfl, by rw [decide_eq_true_iff, HM.out]; omega, rfl⟩
  · have e0 : ((nb : Int) != (nf : Int)) = true := by rw [bne_iff_ne]; omega
    clear hn hl hf
    go_enter Try.func14, Try.ntmps14
    go_wp2_with fail
    go_ret
    exact ⟨false, rfl, ⟨(fun h => nomatch h), fun h => absurd h.1 (by have := HN.out.1; have := HN.out.2.1; omega)⟩, rfl⟩
end Go.Proofs.Ytolcekbldpdmpaa
