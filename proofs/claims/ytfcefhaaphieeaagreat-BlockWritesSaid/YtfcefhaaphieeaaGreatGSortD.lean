/-
  Walks: slices.symMergeCmpFunc.
-/
import Derived.Deep.DeepCutAuto
import Derived.Handy
import Derived.Test.YtfcefhaaphieeaaGreatGSortC
namespace Go.Proofs.YtfcefhaaphieeaaGreat
open Go.RowKit

/-- The search's course: s and r, of [lo, hi); the two places' sum P. -/
structure FdS (f : Int → Int) (xs : List Int) (P lo hi s r : Nat) : Prop where
  no : ∀ k, lo ≤ k → k < s → ¬ f (nthI xs (P - k)) < f (nthI xs k)
  yes : ∀ k, r ≤ k → k < hi → f (nthI xs (P - k)) < f (nthI xs k)
section
variable {f : Int → Int} {xs zs us vs : List Int} {a m b mid P lo hi s r h e : Nat}
theorem FdS.start : FdS f xs P lo hi lo hi := ⟨fun k h1 h2 => by omega, fun k h1 h2 => by omega⟩
theorem FdS.less (F : FdS f xs P lo hi s r) (hr : ∀ k, lo ≤ k → k < hi → a ≤ k ∧ k < m ∧ m ≤ P - k ∧ P - k < b) (h1 : SG f xs a m) (h2 : SG f xs m b) (l1 : lo ≤ h) (l2 : h < hi) (hl : ¬ f (nthI xs (P - h)) < f (nthI xs h)) : FdS f xs P lo hi (h + 1) r :=
  ⟨fun k k1 k2 => by
    obtain ⟨p1, p2, p3, p4⟩ := hr k k1 (by omega)
    obtain ⟨q1, q2, q3, q4⟩ := hr h l1 l2
    have e1 := h1.le (i := k) (j := h) p1 (by omega) q2
    have e2 := h2.le (i := P - h) (j := P - k) q3 (by omega) p4
    omega, F.yes⟩
theorem FdS.more (F : FdS f xs P lo hi s r) (hr : ∀ k, lo ≤ k → k < hi → a ≤ k ∧ k < m ∧ m ≤ P - k ∧ P - k < b) (h1 : SG f xs a m) (h2 : SG f xs m b) (l1 : lo ≤ h) (l2 : h < hi) (hl : f (nthI xs (P - h)) < f (nthI xs h)) : FdS f xs P lo hi s h :=
  ⟨F.no, fun k k1 k2 => by
    obtain ⟨p1, p2, p3, p4⟩ := hr k (by omega) k2
    obtain ⟨q1, q2, q3, q4⟩ := hr h l1 l2
    have e1 := h1.le (i := h) (j := k) q1 k1 p2
    have e2 := h2.le (i := P - k) (j := P - h) p3 (by omega) q4
    omega⟩
theorem Rot.none1 (ys : List Int) (m e : Nat) (he : m ≤ e) : Rot ys ys m m e := ⟨fun k h1 h2 => by congr 1; omega, fun k h1 h2 => by omega, fun _ _ => rfl⟩
theorem Rot.none2 (ys : List Int) (s m : Nat) : Rot ys ys s m m := ⟨fun k h1 h2 => by omega, fun k h1 h2 => by congr 1; omega, fun _ _ => rfl⟩
theorem SG.far {lo hi : Nat} (r : RA zs us a mid) (h : SG f zs lo hi) (hlo : mid ≤ lo) : SG f us lo hi := fun i j h1 h2 h3 => by rw [r.out i (by omega), r.out j (by omega)]; exact h i j h1 h2 h3
theorem SP.far {lo hi k : Nat} (r : RA zs us a mid) (h : SP zs lo k hi) (hlo : mid ≤ lo) : SP us lo k hi := fun i j h1 h2 h3 h4 => by rw [r.out i (by omega), r.out j (by omega)]; exact h i j h1 h2 h3 h4
theorem sym_fin (h7 : ∀ i j, a ≤ i → i < mid → mid ≤ j → j < b → LX f (nthI zs i) (nthI zs j)) (hx : RA xs zs a b) (r1 : RA zs us a mid) (g1 : SG f us a mid) (r2 : RA us vs mid b) (g2 : SG f vs mid b) (m1 : a ≤ mid) (m2 : mid ≤ b) : RA xs vs a b ∧ SG f vs a b := by
  refine ⟨(hx.trans (r1.wide (Nat.le_refl _) m2)).trans (r2.wide m1 (Nat.le_refl _)), sym_join (zs := zs) (us := vs) (mid := mid) (fun i j i1 i2 i3 => ?_) g2 (fun i i1 i2 => ?_) (fun i i1 i2 => ?_) h7⟩
  · rw [r2.out i (by omega), r2.out j (by omega)]; exact g1 i j i1 i2 i3
  · rw [r2.out i (by omega)]; exact r1.mem i i1 i2
  · obtain ⟨j, j1, j2, ej⟩ := r2.mem i i1 i2
    exact ⟨j, j1, j2, by rw [ej, r1.out j (by omega)]⟩
end

/-- Merging of stretches shorter than d. -/
def SymOk (W : World) (g n c kb : Nat) (f : Int → Int) (N : Int) (d : Nat) : Prop := ∀ (xs : List Int) (w : World) (a m b : Nat), b - a < d → Dt W w g n c xs → InN N xs → a < m → m < b → b ≤ n → SG f xs a m → SG f xs m b → SP xs a m b →
  Calls Tryz.prog 100 #[.slice (some ⟨g, 0, none⟩) n c, .int .i64 (a : Int), .int .i64 (m : Int), .int .i64 (b : Int), cmpV kb] w fun e w' => SoRes W w' e g n c f xs a b

set_option maxRecDepth 100000 in
set_option maxHeartbeats 8000000 in
theorem symC_is (W : World) (g n c a m b kb : Nat) (f : Int → Int) (N : Int) (xs : List Int) (w : World) (K : CmpK W kb f N) (IH : SymOk W g n c kb f N (b - a)) (h : Dt W w g n c xs) (hn : n ≤ 1000000) (ha : a + 1 < m) (hm : m + 1 < b) (hb : b ≤ n) (hx : InN N xs)
    (h1 : SG f xs a m) (h2 : SG f xs m b) (h3 : SP xs a m b) :
    Calls Tryz.prog 100 #[.slice (some ⟨g, 0, none⟩) n c, .int .i64 (a : Int), .int .i64 (m : Int), .int .i64 (b : Int), cmpV kb] w fun e w' => SoRes W w' e g n c f xs a b := by
  have HK := Lib.hid K
  have HI := Lib.hid IH
  have HS := Lib.hid (And.intro h1 (And.intro h2 (And.intro h3 hx)))
  have t1 : (((m : Int) - (a : Int)) == 1) = false := by rw [beq_eq_false_iff_ne]; omega
  have t2 : (((b : Int) - (m : Int)) == 1) = false := by rw [beq_eq_false_iff_ne]; omega
  have hl : xs.length = n := h.len
  have HX := Lib.hid (fun (k : Nat) (hk : k < n) => hx.at_ (i := k) (by omega))
  clear K IH h1 h2 h3 hx hl
  obtain ⟨s0, hs0⟩ : ∃ s0, a + b = s0 := ⟨_, rfl⟩
  obtain ⟨mid, hmid⟩ : ∃ mid, s0 / 2 = mid := ⟨_, rfl⟩
  obtain ⟨nn, hnn⟩ : ∃ nn, mid + m = nn := ⟨_, rfl⟩
  obtain ⟨P, hP⟩ : ∃ P, nn - 1 = P := ⟨_, rfl⟩
  have es0 : (a : Int) + (b : Int) = (s0 : Int) := by omega
  have emid : (s0 : Int) / 2 = (mid : Int) := by omega
  have enn : (mid : Int) + (m : Int) = (nn : Int) := by omega
  have eP : (nn : Int) - 1 = (P : Int) := by omega
  have HM := Lib.hid (show mid = (a + b) / 2 ∧ nn = mid + m ∧ P = mid + m - 1 from by omega)
  have b1 : s0 ≤ 2000000 ∧ a < mid ∧ mid < b ∧ nn ≤ 2000000 ∧ P < nn := by omega
  clear hs0 hmid hnn hP
  obtain ⟨lo, hlo⟩ : ∃ lo, (if m > mid then mid + m - b else a) = lo := ⟨_, rfl⟩
  obtain ⟨hi, hhi⟩ : ∃ hi, (if m > mid then mid else m) = hi := ⟨_, rfl⟩
  have HLH := Lib.hid (And.intro hlo hhi)
  have HRg : Hid (∀ k, lo ≤ k → k < hi → a ≤ k ∧ k < m ∧ m ≤ P - k ∧ P - k < b) := Lib.hid (fun k k1 k2 => by
    have := HM.out
    by_cases c : m > mid
    · rw [if_pos c] at hlo hhi; omega
    · rw [if_neg c] at hlo hhi; omega)
  have hlh : lo ≤ hi ∧ hi ≤ m := by
    have := HM.out
    by_cases c : m > mid
    · rw [if_pos c] at hlo hhi; omega
    · rw [if_neg c] at hlo hhi; omega
  have hstart : (m > mid ∧ (nn : Int) - (b : Int) = (lo : Int) ∧ mid = hi) ∨ (¬ m > mid ∧ a = lo ∧ m = hi) := by
    have := HM.out
    by_cases c : m > mid
    · rw [if_pos c] at hlo hhi; left; omega
    · rw [if_neg c] at hlo hhi; right; omega
  clear hlo hhi
  have H0 := Lib.hid (FdS.start (f := f) (xs := xs) (P := P) (lo := lo) (hi := hi))
  unfold cmpV
  go_enter Tryz.func100, Tryz.ntmps100
  go_upto_if 140 with (fail)
  go_cut [20, 21] (fun s20 s21 wx => s20 = .int .i64 (lo : Int) ∧ s21 = .int .i64 (hi : Int) ∧ wx = w)
  case first =>
    as_aux_lemma =>
    rcases hstart with ⟨hc, el, eh⟩ | ⟨hc, el, eh⟩
    · have HEh := Lib.hid eh
      clear eh
      have hc' : decide ((m : Int) > (mid : Int)) = true := decide_eq_true (by omega)
      have hc2 : (mid : Int) < (m : Int) := by omega
      go_wp2_with fail
      go_meet
      exact ⟨by first | rfl | rw [el], by rw [HEh.out], rfl⟩
    · have HEh := Lib.hid (And.intro el eh)
      clear el eh
      have hc' : decide ((m : Int) > (mid : Int)) = false := decide_eq_false (by omega)
      have hc2 : ¬ (mid : Int) < (m : Int) := by omega
      go_wp2_with fail
      go_meet
      exact ⟨by rw [HEh.out.1], by rw [HEh.out.2], rfl⟩
  case rest =>
    as_aux_lemma =>
    obtain ⟨rfl, rfl, hwc⟩ := hcut
    rw [hwc]
    clear hwc hstart
    go_wp2_with fail
    go_loopg [20, 21] (hi - lo) (fun gk v20 v21 wr => ∃ s r : Nat, lo ≤ s ∧ s ≤ r ∧ r ≤ hi ∧ gk = r - s ∧ v20 = .int .i64 (s : Int) ∧ v21 = .int .i64 (r : Int) ∧ Dt W wr g n c xs ∧ Hid (FdS f xs P lo hi s r))
    case atStart => exact ⟨lo, hi, by omega, by omega, by omega, rfl, rfl, rfl, h, H0⟩
    case round =>
      as_aux_lemma =>
      clear h H0
      obtain ⟨s, r, i1, i2, i3, hgk, rfl, rfl, h, HF⟩ := hrel
      have HG := Lib.hid hgk
      clear hgk
      by_cases hij : s < r
      · have hij' : (s : Int) < (r : Int) := by omega
        obtain ⟨sr, hsr⟩ : ∃ sr, s + r = sr := ⟨_, rfl⟩
        obtain ⟨q, hq⟩ : ∃ q, sr / 2 = q := ⟨_, rfl⟩
        have es : (s : Int) + (r : Int) = (sr : Int) := by omega
        have eq : (sr : Int) / 2 = (q : Int) := by omega
        have hq1 : lo ≤ q ∧ q < hi ∧ s ≤ q ∧ q < r := by omega
        obtain ⟨p1, p2, p3, p4⟩ := HRg.out q hq1.1 hq1.2.1
        obtain ⟨pq, hpq⟩ : ∃ pq, P - q = pq := ⟨_, rfl⟩
        have epq : (P : Int) - (q : Int) = (pq : Int) := by omega
        have hqn : q < n := by omega
        have hpqn : pq < n := by omega
        have hs2 : sr ≤ 2000000 := by omega
        have cp := h.cell pq hpqn
        have cq := h.cell q hqn
        have hxq := HX.out q hqn
        have hxp := HX.out pq hpqn
        have HC := Lib.hid (fun k => show Calls Tryz.prog 89 #[.int .i64 (nthI xs pq), .int .i64 (nthI xs q), .pointer (some ⟨kb, 0, none⟩)] (wr.drewN k) (fun e w' => e = .returned (.int .i64 (cmpI (f (nthI xs pq)) (f (nthI xs q)))) ∧ ∃ q, w' = (wr.drewN k).drewN q) from
          HK.out (wr.drewN k) (below_drewN' h.bel k) _ _ hxp.1 hxp.2 hxq.1 hxq.2)
        have HR := Lib.hid (cmpI_neg (a := f (nthI xs pq)) (b := f (nthI xs q)))
        have HF2 := Lib.hid (fun hl => HF.out.less HRg.out HS.out.1 HS.out.2.1 hq1.1 hq1.2.1 hl)
        have HF3 := Lib.hid (fun hl => HF.out.more HRg.out HS.out.1 HS.out.2.1 hq1.1 hq1.2.1 hl)
        rw [hpq] at HF2 HF3
        clear hsr hq hpq
        generalize cmpI (f (nthI xs pq)) (f (nthI xs q)) = v at *
        generalize nthI xs q = x at *
        generalize nthI xs pq = y at *
        by_cases hr : v < 0
        · as_aux_lemma =>
          have HT := Lib.hid (HF3.out (HR.out.1 hr))
          have hd : decide (v < 0) = true := decide_eq_true hr
          clear HF HF2 HF3
          go_wp2_with fail
          go_quiet ((go_at_call 89; exact Calls.quiet_of (HC.out _)))
          go_wp2_with fail
          go_roundg (q - s)
          case measure => have := HG.out; omega
          case rel => exact ⟨s, q, by omega, by omega, by omega, rfl, rfl, rfl, h.drewN _, HT⟩
        · as_aux_lemma =>
          have HT := Lib.hid (HF2.out (fun e => hr (HR.out.2 e)))
          have hd : decide (v < 0) = false := decide_eq_false hr
          clear HF HF2 HF3 hr
          go_wp2_with fail
          go_quiet ((go_at_call 89; exact Calls.quiet_of (HC.out _)))
          go_wp2_with fail
          go_roundg (r - (q + 1))
          case measure => have := HG.out; omega
          case rel => exact ⟨q + 1, r, by omega, by omega, by omega, rfl, by go_num, rfl, h.drewN _, HT⟩
      · obtain rfl : s = r := by omega
        have hij' : ¬ (s : Int) < (s : Int) := by omega
        have hFd : Found f xs a m b mid s := by
          obtain ⟨y1, y2⟩ := HLH.out
          obtain ⟨z1, z2, z3⟩ := HM.out
          refine ⟨by rw [y1]; exact i1, by rw [y2]; exact i3, fun k k1 k2 => ?_, fun k k1 k2 => ?_⟩
          · rw [y1] at k1; rw [← z3]; exact HF.out.no k k1 k2
          · rw [y2] at k2; rw [← z3]; exact HF.out.yes k k1 k2
        have hin := found_in HM.out.1 hFd
        have HFd := Lib.hid hFd
        obtain ⟨e, he⟩ : ∃ e, mid + m - s = e := ⟨_, rfl⟩
        have ee : (nn : Int) - (s : Int) = (e : Int) := by have := HM.out; omega
        rw [he] at hin
        have HE := Lib.hid he
        clear hFd HF HG HRg HLH hlh i1 i2 i3 HX he
        have HS7 := Lib.hid (fun (zs : List Int) (hR : Rot xs zs s m e) => sym_split HS.out.1 HS.out.2.1 HS.out.2.2.1 HM.out.1 HFd.out (by rw [HE.out]; exact hR))
        rw [HE.out] at HS7
        clear HFd
        obtain ⟨j1, j2, j3, j4, j5, j6⟩ := hin
        obtain ⟨B1, hB⟩ : ∃ B, decide (s < m ∧ m < e) = B := ⟨_, rfl⟩
        have HB1 := Lib.hid hB
        clear hB
        go_upto_region 39 with (fail)
        go_cut [185] (fun v wx => v = .bool B1 ∧ wx = wr)
        case first =>
          as_aux_lemma =>
          by_cases hA : s < m
          · have dA : decide ((s : Int) < (m : Int)) = true := decide_eq_true (by omega)
            by_cases hB : m < e
            · have dB : decide ((m : Int) < (e : Int)) = true := decide_eq_true (by omega)
              go_wp2_with fail
              go_meet
              exact ⟨congrArg Value.bool ((decide_eq_true (p := s < m ∧ m < e) ⟨hA, hB⟩).symm.trans HB1.out), rfl⟩
            · have dB : decide ((m : Int) < (e : Int)) = false := decide_eq_false (by omega)
              go_wp2_with fail
              go_meet
              exact ⟨congrArg Value.bool ((decide_eq_false (p := s < m ∧ m < e) (fun hh => hB hh.2)).symm.trans HB1.out), rfl⟩
          · have dA : decide ((s : Int) < (m : Int)) = false := decide_eq_false (by omega)
            go_wp2_with fail
            go_meet
            exact ⟨congrArg Value.bool ((decide_eq_false (p := s < m ∧ m < e) (fun hh => hA hh.1)).symm.trans HB1.out), rfl⟩
        case rest =>
          as_aux_lemma =>
          obtain ⟨rfl, hwc⟩ := hcut
          rw [hwc]
          clear hwc
          go_upto_if 185 with (fail)
          go_cut [] (fun wx => ∃ zs, Dt W wx g n c zs ∧ Hid (Rot xs zs s m e ∧ RA xs zs a b))
          case first =>
            as_aux_lemma =>
            cases B1
            · have hP := of_decide_eq_false HB1.out
              have hrot : Rot xs xs s m e := by
                have : s = m ∨ e = m := by omega
                rcases this with y | y
                · rw [y]; exact Rot.none1 xs m e j5
                · rw [y]; exact Rot.none2 xs s m
              have HQ := Lib.hid (And.intro hrot (RA.refl xs a b))
              clear hrot hP
              go_wp2_with fail
              go_meet
              exact ⟨xs, h, HQ⟩
            · have hP := of_decide_eq_true HB1.out
              have HRt := Lib.hid (rot_is W g n c s m e (.func (.func 89) #[] #[.pointer (some ⟨kb, 0, none⟩)]) xs wr h hn (by omega) (by omega) (by omega))
              go_wp2_with (go_at_call 101; refine (HRt.out).mono ?_; rintro _ w1 ⟨rfl, zs, hz, hrot, hra⟩)
              go_meet
              exact ⟨zs, hz, Lib.hid ⟨hrot, hra.wide j1 j6⟩⟩
          case rest =>
            as_aux_lemma =>
            obtain ⟨zs, hz, HR⟩ := hcut
            clear h HB1 B1
            obtain ⟨q1, q2, q3, q4, q5, q6, q7⟩ := HS7.out zs HR.out.1
            have HQ7 := Lib.hid (And.intro q7 HR.out.2)
            have hzN := (HS.out.2.2.2).ra HR.out.2
            have HQ4 := Lib.hid (And.intro q4 (And.intro q5 (And.intro q6 hzN)))
            have HQ1 := Lib.hid (And.intro q1 (And.intro q2 q3))
            clear HS7 q1 q2 q3 q4 q5 q6 q7 hzN HR
            generalize wc = w1 at *
            obtain ⟨B2, hB⟩ : ∃ B, decide (a < s ∧ s < mid) = B := ⟨_, rfl⟩
            have HB2 := Lib.hid hB
            clear hB
            go_upto_region 41 with (fail)
            go_cut [199] (fun v wx => v = .bool B2 ∧ wx = w1)
            case first =>
              as_aux_lemma =>
              by_cases hA : a < s
              · have dA : decide ((a : Int) < (s : Int)) = true := decide_eq_true (by omega)
                by_cases hB : s < mid
                · have dB : decide ((s : Int) < (mid : Int)) = true := decide_eq_true (by omega)
                  go_wp2_with fail
                  go_meet
                  exact ⟨congrArg Value.bool ((decide_eq_true (p := a < s ∧ s < mid) ⟨hA, hB⟩).symm.trans HB2.out), rfl⟩
                · have dB : decide ((s : Int) < (mid : Int)) = false := decide_eq_false (by omega)
                  go_wp2_with fail
                  go_meet
                  exact ⟨congrArg Value.bool ((decide_eq_false (p := a < s ∧ s < mid) (fun hh => hB hh.2)).symm.trans HB2.out), rfl⟩
              · have dA : decide ((a : Int) < (s : Int)) = false := decide_eq_false (by omega)
                go_wp2_with fail
                go_meet
                exact ⟨congrArg Value.bool ((decide_eq_false (p := a < s ∧ s < mid) (fun hh => hA hh.1)).symm.trans HB2.out), rfl⟩
            case rest =>
              as_aux_lemma =>
              obtain ⟨rfl, hwc⟩ := hcut
              rw [hwc]
              clear hwc
              go_upto_if 199 with (fail)
              go_cut [] (fun wx => ∃ us, Dt W wx g n c us ∧ Hid (RA zs us a mid ∧ SG f us a mid))
              case first =>
                as_aux_lemma =>
                cases B2
                · have hP := of_decide_eq_false HB2.out
                  have gu : SG f zs a mid := by
                    have : s = a ∨ s = mid := by omega
                    rcases this with y | y
                    · have := HQ1.out.2.1; rw [y] at this; exact this
                    · have := HQ1.out.1; rw [y] at this; exact this
                  have HQ := Lib.hid (And.intro (RA.refl zs a mid) gu)
                  clear gu hP
                  go_wp2_with fail
                  go_meet
                  exact ⟨zs, hz, HQ⟩
                · have hP := of_decide_eq_true HB2.out
                  have HI1 := Lib.hid (HI.out zs w1 a s mid (by omega) hz HQ4.out.2.2.2 (by omega) (by omega) (by omega) HQ1.out.1 HQ1.out.2.1 HQ1.out.2.2)
                  unfold cmpV at HI1
                  go_wp2_with (go_at_call 100; refine (HI1.out).mono ?_; rintro _ w2 ⟨rfl, us, hu, ru, gu⟩)
                  go_meet
                  exact ⟨us, hu, Lib.hid ⟨ru, gu⟩⟩
              case rest =>
                as_aux_lemma =>
                obtain ⟨us, hu, HU⟩ := hcut
                clear hz HB2 B2 HQ1
                generalize wc = w2 at *
                obtain ⟨B3, hB⟩ : ∃ B, decide (mid < e ∧ e < b) = B := ⟨_, rfl⟩
                have HB3 := Lib.hid hB
                clear hB
                go_upto_region 43 with (fail)
                go_cut [213] (fun v wx => v = .bool B3 ∧ wx = w2)
                case first =>
                  as_aux_lemma =>
                  by_cases hA : mid < e
                  · have dA : decide ((mid : Int) < (e : Int)) = true := decide_eq_true (by omega)
                    by_cases hB : e < b
                    · have dB : decide ((e : Int) < (b : Int)) = true := decide_eq_true (by omega)
                      go_wp2_with fail
                      go_meet
                      exact ⟨congrArg Value.bool ((decide_eq_true (p := mid < e ∧ e < b) ⟨hA, hB⟩).symm.trans HB3.out), rfl⟩
                    · have dB : decide ((e : Int) < (b : Int)) = false := decide_eq_false (by omega)
                      go_wp2_with fail
                      go_meet
                      exact ⟨congrArg Value.bool ((decide_eq_false (p := mid < e ∧ e < b) (fun hh => hB hh.2)).symm.trans HB3.out), rfl⟩
                  · have dA : decide ((mid : Int) < (e : Int)) = false := decide_eq_false (by omega)
                    go_wp2_with fail
                    go_meet
                    exact ⟨congrArg Value.bool ((decide_eq_false (p := mid < e ∧ e < b) (fun hh => hA hh.1)).symm.trans HB3.out), rfl⟩
                case rest =>
                  as_aux_lemma =>
                  obtain ⟨rfl, hwc⟩ := hcut
                  rw [hwc]
                  clear hwc
                  cases B3
                  · have hP := of_decide_eq_false HB3.out
                    have gv : SG f us mid b := by
                      have : e = mid ∨ e = b := by omega
                      rcases this with y | y
                      · have := HQ4.out.2.1.far HU.out.1 (by omega); rw [y] at this; exact this
                      · have := HQ4.out.1.far HU.out.1 (Nat.le_refl _); rw [y] at this; exact this
                    have HF := Lib.hid (sym_fin HQ7.out.1 HQ7.out.2 HU.out.1 HU.out.2 (RA.refl us mid b) gv (by omega) (by omega))
                    clear gv hP
                    go_wp2_with fail
                    go_returns
                    exact ⟨rfl, us, hu, HF.out.1, HF.out.2⟩
                  · have hP := of_decide_eq_true HB3.out
                    have HI2 := Lib.hid (HI.out us w2 mid e b (by omega) hu (HQ4.out.2.2.2.ra HU.out.1) (by omega) (by omega) (by omega) (HQ4.out.1.far HU.out.1 (Nat.le_refl _)) (HQ4.out.2.1.far HU.out.1 (by omega)) (HQ4.out.2.2.1.far HU.out.1 (Nat.le_refl _)))
                    unfold cmpV at HI2
                    go_wp2_with (go_at_call 100; refine (HI2.out).mono ?_; rintro _ w3 ⟨rfl, vs, hv, rv, gv⟩)
                    go_returns
                    obtain ⟨f1, f2⟩ := sym_fin HQ7.out.1 HQ7.out.2 HU.out.1 HU.out.2 rv gv (by omega) (by omega)
                    exact ⟨rfl, vs, hv, f1, f2⟩

theorem sym_is (W : World) (g n c kb : Nat) (f : Int → Int) (N : Int) (K : CmpK W kb f N) (hn : n ≤ 1000000) : ∀ d, SymOk W g n c kb f N d := by
  intro d
  induction d with
  | zero => intro xs w a m b hd; omega
  | succ d ih =>
    intro xs w a m b hd h hx ha hm hb h1 h2 h3
    by_cases c1 : m = a + 1
    · exact symA_is W g n c a m b kb f N xs w K h hn c1 hm hb hx h2 h3
    · by_cases c2 : b = m + 1
      · exact symB_is W g n c a m b kb f N xs w K h hn (by omega) c2 hb hx h1 h3
      · exact symC_is W g n c a m b kb f N xs w K (fun xs w a' m' b' hd' => ih xs w a' m' b' (by omega)) h hn (by omega) (by omega) hb hx h1 h2 h3
end Go.Proofs.YtfcefhaaphieeaaGreat
