/-
  Walks: build.behind.
-/
import Derived.ScopeJumps
import Derived.Test.YtfcefhaaphieeaaGreatG05
import Derived.Test.YtfcefhaaphieeaaGreatGBuildA
import Derived.WalkMore
namespace Go.Proofs.YtfcefhaaphieeaaGreat
open Go.RowKit

theorem elem_pcl : Elem Tryz.prog 127 133 2 16 := Elem.mk' Tryz.underlying127 (z := .agg #[.int .i64 0, .bool false]) (by kernel_rfl) rfl (by omega)
/-- A row's cells. -/
def pcl (row : List (Nat × Bool)) : List Value := prs (fun x : Nat × Bool => Value.int .i64 (x.1 : Int)) (fun x => Value.bool x.2) row
theorem pcl_length (row : List (Nat × Bool)) : (pcl row).length = row.length * 2 := prs_length row
theorem pcl_append (a b : List (Nat × Bool)) : pcl (a ++ b) = pcl a ++ pcl b := prs_append a b
theorem pcl_one (row : List (Nat × Bool)) : ∀ u ∈ pcl row, u.oneCell' = true := prs_one (fun _ => rfl) (fun _ => rfl) row
theorem nthP_el {row : List (Nat × Bool)} {i : Nat} (h : i < row.length) : row[i]? = some (nthP row i) := by simp [nthP, List.getElem?_eq_getElem h]
theorem pcl_get (row : List (Nat × Bool)) (i : Nat) (h : i < row.length) : (pcl row)[2 * i]? = some (.int .i64 ((nthP row i).1 : Int)) ∧ (pcl row)[2 * i + 1]? = some (.bool (nthP row i).2) := prs_get row i _ (nthP_el h)
/-- Numbers as the program's. -/
def natsI (ws : List Nat) : List Int := ws.map fun x : Nat => (x : Int)
theorem natsI_length (ws : List Nat) : (natsI ws).length = ws.length := by simp [natsI]
theorem natsI_nth (ws : List Nat) (i : Nat) : nthI (natsI ws) i = (nth ws i : Int) := by
  unfold natsI nthI nth
  rw [List.getElem?_map]
  cases ws[i]? <;> rfl
/-- All of a row weigh M at most. -/
def RowM (M : Nat) (row : List (Nat × Bool)) : Prop := ∀ i, (nthP row i).1 ≤ M

set_option maxRecDepth 100000 in
set_option maxHeartbeats 8000000 in
theorem behind_is (R : Option Addr) (nr cR : Nat) (row : List (Nat × Bool)) (S : Option Addr) (ns cS : Nat) (ws : List Nat) (M : Nat) (w : World) (hR : Rd w R (pcl row)) (hS : Rd w S (ints (natsI ws))) (hnr : nr = row.length) (hns : ns = ws.length)
    (hsc : ns ≤ cS) (hr : nr ≤ 100000) (hs : ns ≤ 100000) (hM : M ≤ 1000000000000000000) (hrm : RowM M row) (hwm : ∀ i, nth ws i ≤ M) :
    Calls Tryz.prog 68 #[.slice R nr cR, .slice S ns cS] w fun e w' => ∃ A c, e = .returned (.slice A (behL row ws).length c) ∧ Builds w w' 133 2 A (behL row ws).length c (pcl (behL row ws)) := by
  have HN := Lib.hid (And.intro hnr hns)
  have HM := Lib.hid (And.intro hrm hwm)
  have hrl : row.length ≤ 100000 := by omega
  have hwl : ws.length ≤ 100000 := by omega
  have H0 : Hid (([] : List (Nat × Bool)) ++ mrg leP (itP (ws.drop 0)) (pairP (row.drop 0)) = behL row ws) := Lib.hid rfl
  clear hnr hns hrm hwm
  go_enter Tryz.func68, Tryz.ntmps68
  go_wp2_with fail
  go_step3
  go_wp2_with fail
  go_step3
  go_wp2_with fail
  go_loopg [4, 5, 6] nr (fun gk v4 v5 v6 wr => ∃ (A : Option Addr) (c a i : Nat) (out : List (Nat × Bool)), a ≤ ns ∧ i ≤ nr ∧ gk = nr - i ∧ v4 = .slice A out.length c ∧ v5 = .int .i64 (a : Int) ∧ v6 = .int .i64 (i : Int) ∧ Builds w wr 133 2 A out.length c (pcl out) ∧ out.length ≤ a + i ∧ Hid (out ++ mrg leP (itP (ws.drop a)) (pairP (row.drop i)) = behL row ws))
  case atStart => exact ⟨none, 0, 0, 0, [], by omega, by omega, rfl, rfl, rfl, rfl, Builds.nil_ _ _ _, by simp, H0⟩
  case round =>
    clear H0
    obtain ⟨A, c, a, i, out, ha, hi, hgk, rfl, rfl, rfl, hB, hol, HO⟩ := hrel
    have HG := Lib.hid hgk
    clear hgk
    by_cases hlt : i + 1 < nr
    · have hlt' : (i : Int) + 1 < (nr : Int) := by omega
      have hil : i + 1 < row.length := by have := HN.out.1; omega
      obtain ⟨b, off, rfl, hcell⟩ := (hR.below hB.1).at_ (by rw [pcl_length]; omega)
      have c1 := hcell _ _ (pcl_get row i (by omega)).1
      have c2 := hcell _ _ (pcl_get row (i + 1) (by omega)).1
      have m1 := HM.out.1 i
      have m2 := HM.out.1 (i + 1)
      obtain ⟨x, hx⟩ : ∃ x, (nthP row i).1 = x := ⟨_, rfl⟩
      obtain ⟨y, hy⟩ : ∃ y, (nthP row (i + 1)).1 = y := ⟨_, rfl⟩
      rw [hx] at c1 m1
      rw [hy] at c2 m2
      obtain ⟨i1, hi1⟩ : ∃ i1, i + 1 = i1 := ⟨_, rfl⟩
      have ei1 : (i : Int) + 1 = (i1 : Int) := by omega
      obtain ⟨z, hz⟩ : ∃ z, x + y = z := ⟨_, rfl⟩
      have ez : (x : Int) + (y : Int) = (z : Int) := by omega
      have hzM : z ≤ 2000000000000000000 := by omega
      rw [show off + 2 * (i + 1) = off + i1 * 2 by omega] at c2
      rw [show off + 2 * i = off + i * 2 by omega] at c1
      have hi1n : i1 < nr := by omega
      have hin : i < nr := by omega
      have HX := Lib.hid (And.intro hx (And.intro hy (And.intro hi1 hz)))
      clear hx hy hi1 hz hcell
      go_wp2_with fail
      go_quiet (fail)
      go_wp2_with fail
      have hB1 := hB.drewN nq
      generalize wr.drewN nq = w1 at *
      clear c1 c2 hB
      obtain ⟨i2, hi2⟩ : ∃ i2, i + 2 = i2 := ⟨_, rfl⟩
      have ei2 : (i : Int) + 2 = (i2 : Int) := by omega
      have hi2n : i2 ≤ 100002 := by omega
      go_loopg [4, 5] (ns - a) (fun gj v4 v5 wr2 => ∃ (A : Option Addr) (c a' : Nat) (out : List (Nat × Bool)), a ≤ a' ∧ a' ≤ ns ∧ gj = ns - a' ∧ v4 = .slice A out.length c ∧ v5 = .int .i64 (a' : Int) ∧ Builds w wr2 133 2 A out.length c (pcl out) ∧ out.length ≤ a' + i ∧ Hid (out ++ mrg leP (itP (ws.drop a')) (pairP (row.drop i)) = behL row ws))
      case atStart => exact ⟨A, c, a, out, Nat.le_refl _, ha, rfl, rfl, rfl, hB1, hol, HO⟩
      case round =>
        clear hB1 hol HO ha
        obtain ⟨A, c, a', out, haa, ha, hgj, rfl, rfl, hB, hol, HO⟩ := hrel
        have HG2 := Lib.hid hgj
        clear hgj
        by_cases hal : a' < ns
        · have hal' : (a' : Int) < (ns : Int) := by omega
          have hawl : a' < ws.length := by have := HN.out.2; omega
          obtain ⟨b2, off2, rfl, hcell2⟩ := (hS.below hB.1).at_ (by rw [ints_length, natsI_length]; omega)
          have c3 := hcell2 _ _ (ints_get (natsI ws) a' (by rw [natsI_length]; exact hawl))
          rw [natsI_nth] at c3
          have m3 := HM.out.2 a'
          obtain ⟨u, hu⟩ : ∃ u, nth ws a' = u := ⟨_, rfl⟩
          rw [hu] at c3 m3
          by_cases huz : z < u
          · have e1 : decide ((u : Int) > (z : Int)) = true := decide_eq_true (by omega)
            have HO2 : Hid ((out ++ [(z, true)]) ++ mrg leP (itP (ws.drop a')) (pairP (row.drop i2)) = behL row ws) := Lib.hid (by
              obtain ⟨x1, x2, x3, x4⟩ := HX.out
              have hlt2 : (nthP row i).1 + (nthP row (i + 1)).1 < nth ws a' := by omega
              rw [← HO.out, beh_pair hil (fun _ => hlt2) (by omega), List.append_assoc, x1, x2, x4, ← hi2]; rfl)
            have HI2 := Lib.hid hi2
            clear HO hu hcell2 hi2
            go_wp2_with (at_builtin; refine grow elem_pcl rfl (.tmp 39) (.tmp 42) rfl rfl (hB.alloc _) rfl (Rd.new' _ _ _ (pcl [(z, true)]) _ (by simp) rfl) rfl (pcl_one _) (out.length + 1) rfl (pcl (out ++ [(z, true)])) (pcl_append _ _).symm (by omega) (by omega) ?_; intro A2 c2 w2 hB2 hg2)
            go_roundg (nr - i2)
            case measure => have := HG.out; have := HI2.out; omega
            case rel => exact ⟨A2, c2, a', i2, out ++ [(z, true)], ha, by have := HI2.out; omega, rfl, by simp, rfl, by go_num, by rw [List.length_append]; exact hB2, by rw [List.length_append]; have := HI2.out; simp; omega, HO2⟩
          · have e1 : decide ((u : Int) > (z : Int)) = false := decide_eq_false (by omega)
            have e2 : ¬ (z : Int) < (u : Int) := by omega
            have HO2 : Hid ((out ++ [(u, false)]) ++ mrg leP (itP (ws.drop (a' + 1))) (pairP (row.drop i)) = behL row ws) := Lib.hid (by
              obtain ⟨x1, x2, x3, x4⟩ := HX.out
              rw [← HO.out, beh_item hawl hil (by omega), List.append_assoc, hu]; rfl)
            clear HO hu hcell2
            go_wp2_with (at_builtin; refine grow elem_pcl rfl (.tmp 44) (.tmp 50) rfl rfl (hB.alloc _) rfl (Rd.new' _ _ _ (pcl [(u, false)]) _ (by simp) rfl) rfl (pcl_one _) (out.length + 1) rfl (pcl (out ++ [(u, false)])) (pcl_append _ _).symm (by omega) (by omega) ?_; intro A2 c2 w2 hB2 hg2)
            go_roundg (ns - (a' + 1))
            case measure => have := HG2.out; omega
            case rel => exact ⟨A2, c2, a' + 1, out ++ [(u, false)], by omega, by omega, rfl, by simp, by go_num, by rw [List.length_append]; exact hB2, by rw [List.length_append]; simp; omega, HO2⟩
        · obtain rfl : a' = ns := by omega
          have hal' : ¬ (a' : Int) < (a' : Int) := by omega
          have HO2 : Hid ((out ++ [(z, true)]) ++ mrg leP (itP (ws.drop a')) (pairP (row.drop i2)) = behL row ws) := Lib.hid (by
            obtain ⟨x1, x2, x3, x4⟩ := HX.out
            rw [← HO.out, beh_pair hil (fun h => by have := HN.out.2; omega) (by have := HN.out.2; omega), List.append_assoc, x1, x2, x4, ← hi2]; rfl)
          have HI2 := Lib.hid hi2
          clear HO hi2
          go_wp2_with (at_builtin; refine grow elem_pcl rfl (.tmp 54) (.tmp 57) rfl rfl (hB.alloc _) rfl (Rd.new' _ _ _ (pcl [(z, true)]) _ (by simp) rfl) rfl (pcl_one _) (out.length + 1) rfl (pcl (out ++ [(z, true)])) (pcl_append _ _).symm (by omega) (by omega) ?_; intro A2 c2 w2 hB2 hg2)
          go_roundg (nr - i2)
          case measure => have := HG.out; have := HI2.out; omega
          case rel => exact ⟨A2, c2, a', i2, out ++ [(z, true)], Nat.le_refl _, by have := HI2.out; omega, rfl, by simp, rfl, by go_num, by rw [List.length_append]; exact hB2, by rw [List.length_append]; have := HI2.out; simp; omega, HO2⟩
    · have hlt' : ¬ (i : Int) + 1 < (nr : Int) := by omega
      have HR : Hid (out ++ itP (ws.drop a) = behL row ws) := Lib.hid (by rw [← HO.out, beh_rest (by have := HN.out.1; omega)])
      have hSr := (hS.below hB.1).drop a
      rw [show (ints (natsI ws)).drop a = ints (natsI (ws.drop a)) by simp [ints, natsI, List.map_drop]] at hSr
      clear HO HG hR HM
      by_cases han : a < ns
      · obtain ⟨b2, off2, rfl, hcell2⟩ := (hS.below hB.1).at_ (by rw [ints_length, natsI_length]; have := HN.out.2; omega)
        have hca : ¬ cS = a := by omega
        obtain ⟨d, hd⟩ : ∃ d, ns - a = d := ⟨_, rfl⟩
        have hd2 : a + d = ns := by omega
        clear hcell2 hSr
        go_wp2_with fail
        (try rw [hd])
        clear hd
        go_loopg [4, 63] d (fun gk v4 v63 wr => ∃ (A : Option Addr) (c j : Nat) (out : List (Nat × Bool)), j ≤ d ∧ gk = d - j ∧ v4 = .slice A out.length c ∧ v63 = .int .i64 (j : Int) ∧ Builds w wr 133 2 A out.length c (pcl out) ∧ out.length ≤ a + i + j ∧ Hid (out ++ itP (ws.drop (a + j)) = behL row ws))
        case atStart => exact ⟨A, c, 0, out, by omega, rfl, rfl, rfl, hB, hol, HR⟩
        case round =>
          clear hB hol HR
          obtain ⟨A, c, j, out, hj, hgk, rfl, rfl, hB, hol, HR⟩ := hrel
          have HG := Lib.hid hgk
          clear hgk
          by_cases hjd : j < d
          · have hjd' : (j : Int) < (d : Int) := by omega
            have hawl : a + j < ws.length := by have := HN.out.2; omega
            obtain ⟨b3, off3, he3, hcell2⟩ := (hS.below hB.1).at_ (by rw [ints_length, natsI_length]; omega)
            simp only [Option.some.injEq, Addr.mk.injEq, and_true] at he3
            obtain ⟨rfl, rfl⟩ := he3
            have c3 := hcell2 _ _ (ints_get (natsI ws) (a + j) (by rw [natsI_length]; exact hawl))
            rw [natsI_nth, ← Nat.add_assoc] at c3
            obtain ⟨u, hu⟩ : ∃ u, nth ws (a + j) = u := ⟨_, rfl⟩
            rw [hu] at c3
            have HO2 : Hid ((out ++ [(u, false)]) ++ itP (ws.drop (a + (j + 1))) = behL row ws) := Lib.hid (by
              rw [← HR.out, itP_drop hawl, List.append_assoc, hu]; rfl)
            clear HR hu hcell2
            go_wp2_with (at_builtin; refine grow elem_pcl rfl (.tmp 67) (.tmp 70) rfl rfl (hB.alloc _) rfl (Rd.new' _ _ _ (pcl [(u, false)]) _ (by simp) rfl) rfl (pcl_one _) (out.length + 1) rfl (pcl (out ++ [(u, false)])) (pcl_append _ _).symm (by omega) (by omega) ?_; intro A2 c2 w2 hB2 hg2)
            go_roundg (d - (j + 1))
            case measure => have := HG.out; omega
            case rel => exact ⟨A2, c2, j + 1, out ++ [(u, false)], by omega, rfl, by simp, by go_num, by rw [List.length_append]; exact hB2, by rw [List.length_append]; simp; omega, HO2⟩
          · obtain rfl : j = d := by omega
            have hjd' : ¬ (j : Int) < (j : Int) := by omega
            have hre : out = behL row ws := by
              have := HR.out
              rw [hd2, HN.out.2, itP_end, List.append_nil] at this
              exact this
            go_wp2_with fail
            (try rw [Exit.noGoto_ret])
            go_ret
            rw [← hre]
            exact ⟨A, c, rfl, hB⟩
      · obtain rfl : a = ns := by omega
        have hre : out = behL row ws := by
          have := HR.out
          rw [HN.out.2, itP_end, List.append_nil] at this
          exact this
        have HRe := Lib.hid hre
        clear hre HR hSr
        by_cases hca : cS = a
        all_goals
          go_wp2_with fail
          go_loopg [4, 63] 0 (fun gk v4 v63 wr' => v4 = .slice A out.length c ∧ v63 = .int .i64 0 ∧ wr' = wr)
          case atStart => exact ⟨rfl, rfl, rfl⟩
          case round =>
            obtain ⟨rfl, rfl, rfl⟩ := hrel
            go_wp2_with fail
            (try rw [Exit.noGoto_ret])
            go_ret
            rw [← HRe.out]
            exact ⟨A, c, rfl, hB⟩
end Go.Proofs.YtfcefhaaphieeaaGreat
