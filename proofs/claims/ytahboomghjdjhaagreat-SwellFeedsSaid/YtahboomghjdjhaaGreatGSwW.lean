/-
  Walks: swell.zero, swell.Check.
-/
import Derived.Test.YtahboomghjdjhaaGreatG37
namespace Go.Proofs.YtahboomghjdjhaaGreat
open Go.RowKit

set_option maxRecDepth 100000 in
set_option maxHeartbeats 4000000 in
theorem szero_any (a : Bv) (w : World) (ha : a.ok w) :
    Calls Tryz.prog 25 #[.agg (cellsOf 37 a.F)] w fun r w' => r = .returned (.bool (sameV a zeroV)) ∧ Below w.heap.size w w' := by
  have hb0 : Below w.heap.size w (w.alloc (.cells (cellsOf 37 a.F) 28)) := (Below.refl _ _).alloc (Nat.le_refl _) _
  have k0 : Arr (w.alloc (.cells (cellsOf 37 a.F) 28)) w.heap.size 28 37 a.F := Blk.new _ _ _
  have HS := Lib.hid (ssame_any a zeroV _ (ha.below hb0) (zeroV_ok _))
  clear ha
  generalize hF : a.F = F at *
  clear hF
  go_enter Tryz.func25, Tryz.ntmps25
  go_wp2_with (first
    | (refine load_arr rfl 28 (.tmp 1) rfl rfl k0 Tryz.underlying28 rfl bk_size ?_)
    | (go_at_call 27; refine HS.out.mono ?_; rintro e w2 ⟨rfl, h2⟩))
  go_ret
  exact ⟨rfl, hb0.trans (h2.mono hb0.size)⟩

structure Wv where
  most : Int
  made : Int
  A : Option Addr
  nA : Nat
  cA : Nat
  lA : List Nat
  at0 : Int
  bk : Bv
  op : Bool
  size : Int
  Bw : Option Addr
  nw : Nat
  cw : Nat
  lw : List Nat
  over : Bool
structure Wv.ok (s : Wv) (w : World) : Prop where
  rA : Rd w s.A (u8s s.lA)
  bA : ∀ x ∈ s.lA, x < 256
  lenA : s.nA = s.lA.length
  capA : s.nA ≤ s.cA
  maxA : s.nA ≤ 1000000
  bk : s.bk.ok w
  rw_ : Rd w s.Bw (u8s s.lw)
  bw : ∀ x ∈ s.lw, x < 256
  lenw : s.nw = s.lw.length
  capw : s.nw ≤ s.cw
  maxw : s.nw ≤ 1000000
theorem Wv.ok.below {s : Wv} {w w' : World} (h : s.ok w) (hb : Below w.heap.size w w') : s.ok w' := ⟨h.rA.below hb, h.bA, h.lenA, h.capA, h.maxA, h.bk.below hb, h.rw_.below hb, h.bw, h.lenw, h.capw, h.maxw⟩
abbrev Wv.F (s : Wv) : Nat → Value := swH s.most s.made (.slice s.A s.nA s.cA) s.at0 s.bk.F s.op s.size (.slice s.Bw s.nw s.cw) s.over
def ckN (most made at0 : Int) : Bool := decide (0 ≤ most) && (decide (most ≤ 131072) && (decide (0 ≤ made) && (decide (made ≤ most) && (decide (0 ≤ at0) && decide (at0 ≤ 7)))))
def ckI (nA : Nat) (at0 : Int) (over op : Bool) : Bool := decide (nA ≤ 600) && ((decide (0 < nA) || decide (at0 = 0)) && (!over || (!op && decide (nA = 0))))
def ckW (size made : Int) (nw : Nat) : Bool := decide (size = 32768) && decide ((nw : Int) = if 32768 < made then 32768 else made)
def ckO (op : Bool) (bk : Bv) : Bool := (op && ckB bk.kind bk.left bk.f1 bk.x1 bk.f2 bk.x2) || (!op && sameV bk zeroV)
def ckS (s : Wv) : Bool := ckN s.most s.made s.at0 && (ckI s.nA s.at0 s.over s.op && (ckW s.size s.made s.nw && ckO s.op s.bk))
theorem swH_bk (most made : Int) (inV : Value) (at0 : Int) (bk : Nat → Value) (op : Bool) (size : Int) (winV : Value) (over : Bool) (i : Nat) (hi : i < 37) : swH most made inV at0 bk op size winV over (4 + i) = bk i := by
  unfold swH
  rw [if_neg (by omega), if_pos (by omega), Nat.add_sub_cancel_left]

set_option maxRecDepth 100000 in
set_option maxHeartbeats 8000000 in
theorem scheck_any (s : Wv) (w : World) (hs : s.ok w) :
    Calls Tryz.prog 11 #[.agg (cellsOf 45 s.F)] w fun r w' => CkdRes w w' (ckS s) r := by
  have hbk := hs.bk
  obtain ⟨most, made, A, nA, cA, lA, at0, bk, op, size, Bw, nw, cw, lw, over⟩ := s
  have HP := Lib.hid fun wx (h : Below w.heap.size w wx) => (show Calls Tryz.prog 24 #[.agg (cellsOf 37 bk.F)] wx _ from plck_any bk.kind bk.last bk.left bk.f1 bk.C1 bk.m1 bk.d1 bk.x1 bk.f2 bk.C2 bk.m2 bk.d2 bk.x2 wx (hbk.r1.below h) hbk.l1 hbk.c1 hbk.b1 (hbk.r2.below h) hbk.l2 hbk.c2 hbk.b2)
  have HZ := Lib.hid fun wx (h : Below w.heap.size w wx) => szero_any bk wx (hbk.below h)
  have hmA := hs.maxA
  have hmw := hs.maxw
  dsimp only at hmA hmw
  unfold ckS Wv.F
  dsimp only
  obtain ⟨ck, hck⟩ : ∃ c, ckB bk.kind bk.left bk.f1 bk.x1 bk.f2 bk.x2 = c := ⟨_, rfl⟩
  obtain ⟨zk, hzk⟩ : ∃ c, sameV bk zeroV = c := ⟨_, rfl⟩
  have HO := Lib.hid (show ckO op bk = ((op && ck) || (!op && zk)) by unfold ckO; rw [hck, hzk])
  rw [hck] at HP
  rw [hzk] at HZ
  unfold CkdRes at HP
  obtain ⟨K, hK⟩ : ∃ K, bk.F = K := ⟨_, rfl⟩
  rw [hK] at HP HZ
  rw [hK]
  clear hck hzk hK hs hbk
  obtain ⟨RR, hRR⟩ : ∃ R, (ckN most made at0 && (ckI nA at0 over op && (ckW size made nw && ckO op bk))) = R := ⟨_, rfl⟩
  rw [hRR]
  have HRR := Lib.hid hRR
  clear hRR
  have hbw : Below w.heap.size w (w.alloc (.cells (cellsOf 45 (swH most made (.slice A nA cA) at0 K op size (.slice Bw nw cw) over)) 32)) := (Below.refl _ _).alloc (Nat.le_refl _) _
  have k0 : Arr (w.alloc (.cells (cellsOf 45 (swH most made (.slice A nA cA) at0 K op size (.slice Bw nw cw) over)) 32)) w.heap.size 32 45 (swH most made (.slice A nA cA) at0 K op size (.slice Bw nw cw) over) := Blk.new _ _ _
  go_enter Tryz.func11, Tryz.ntmps11
  go_upto_region 1 with (fail)
  change Code.wp _ _ _ _ (w.alloc (.cells (cellsOf 45 (swH most made (.slice A nA cA) at0 K op size (.slice Bw nw cw) over)) 32))
  generalize w.alloc (.cells (cellsOf 45 (swH most made (.slice A nA cA) at0 K op size (.slice Bw nw cw) over)) 32) = w0 at *
  have c0 : w0.cell? ⟨w.heap.size, 0, none⟩ = some (.int .i64 most) := Arr.cell k0 0 (by omega)
  have c1 : w0.cell? ⟨w.heap.size, 1, none⟩ = some (.int .i64 made) := Arr.cell k0 1 (by omega)
  have c2 : w0.cell? ⟨w.heap.size, 2, none⟩ = some (.slice A nA cA) := Arr.cell k0 2 (by omega)
  have c3 : w0.cell? ⟨w.heap.size, 3, none⟩ = some (.int .i64 at0) := Arr.cell k0 3 (by omega)
  have c41 : w0.cell? ⟨w.heap.size, 41, none⟩ = some (.bool op) := Arr.cell k0 41 (by omega)
  have c42 : w0.cell? ⟨w.heap.size, 42, none⟩ = some (.int .i64 size) := Arr.cell k0 42 (by omega)
  have c43 : w0.cell? ⟨w.heap.size, 43, none⟩ = some (.slice Bw nw cw) := Arr.cell k0 43 (by omega)
  have c44 : w0.cell? ⟨w.heap.size, 44, none⟩ = some (.bool over) := Arr.cell k0 44 (by omega)
  go_cut [3] (fun v wx => v = .bool (ckN most made at0) ∧ w0 = wx)
  case first =>
    clear c2 c41 c42 c43 c44
    by_cases q0 : 0 ≤ most
    · have e0 : decide (0 ≤ most) = true := decide_eq_true q0
      by_cases q1 : most ≤ 131072
      · have e1 : decide (most ≤ 131072) = true := decide_eq_true q1
        by_cases q2 : 0 ≤ made
        · have e2 : decide (0 ≤ made) = true := decide_eq_true q2
          by_cases q3 : made ≤ most
          · have e3 : decide (made ≤ most) = true := decide_eq_true q3
            by_cases q4 : 0 ≤ at0
            · have e4 : decide (0 ≤ at0) = true := decide_eq_true q4
              by_cases q5 : at0 ≤ 7
              · have e5 : decide (at0 ≤ 7) = true := decide_eq_true q5
                have HV := Lib.hid (show ckN most made at0 = true by unfold ckN; rw [e0, e1, e2, e3, e4, e5]; rfl)
                go_wp2_with fail
                go_meet
                exact ⟨by rw [HV.out] <;> rfl, rfl⟩
              · have e5 : decide (at0 ≤ 7) = false := decide_eq_false q5
                have HV := Lib.hid (show ckN most made at0 = false by unfold ckN; rw [e0, e1, e2, e3, e4, e5]; simp)
                go_wp2_with fail
                go_meet
                exact ⟨by rw [HV.out] <;> rfl, rfl⟩
            · have e4 : decide (0 ≤ at0) = false := decide_eq_false q4
              have HV := Lib.hid (show ckN most made at0 = false by unfold ckN; rw [e0, e1, e2, e3, e4]; simp)
              go_wp2_with fail
              go_meet
              exact ⟨by rw [HV.out] <;> rfl, rfl⟩
          · have e3 : decide (made ≤ most) = false := decide_eq_false q3
            have HV := Lib.hid (show ckN most made at0 = false by unfold ckN; rw [e0, e1, e2, e3]; simp)
            go_wp2_with fail
            go_meet
            exact ⟨by rw [HV.out] <;> rfl, rfl⟩
        · have e2 : decide (0 ≤ made) = false := decide_eq_false q2
          have HV := Lib.hid (show ckN most made at0 = false by unfold ckN; rw [e0, e1, e2]; simp)
          go_wp2_with fail
          go_meet
          exact ⟨by rw [HV.out] <;> rfl, rfl⟩
      · have e1 : decide (most ≤ 131072) = false := decide_eq_false q1
        have HV := Lib.hid (show ckN most made at0 = false by unfold ckN; rw [e0, e1]; simp)
        go_wp2_with fail
        go_meet
        exact ⟨by rw [HV.out] <;> rfl, rfl⟩
    · have e0 : decide (0 ≤ most) = false := decide_eq_false q0
      have HV := Lib.hid (show ckN most made at0 = false by unfold ckN; rw [e0]; simp)
      go_wp2_with fail
      go_meet
      exact ⟨by rw [HV.out] <;> rfl, rfl⟩
  case rest =>
    obtain ⟨rfl, rfl⟩ := hcut
    obtain ⟨cN, hcN⟩ : ∃ c, ckN most made at0 = c := ⟨_, rfl⟩
    rw [hcN] at HRR
    rw [hcN]
    clear hcN
    go_upto_region 2 with (fail)
    go_cut [4] (fun v wx => v = .bool (ckI nA at0 over op) ∧ w0 = wx)
    case first =>
      clear c0 c1 c42 c43
      by_cases q0 : nA ≤ 600
      · have e0 : decide (nA ≤ 600) = true := decide_eq_true q0
        have f0 : decide ((nA : Int) ≤ 600) = true := decide_eq_true (by omega)
        by_cases q1 : nA = 0
        · subst q1
          by_cases q2 : at0 = 0
          · subst q2
            cases over with
            | false =>
              have HV := Lib.hid (show ckI 0 0 false op = true by unfold ckI; simp)
              go_wp2_with fail
              go_meet
              exact ⟨by rw [HV.out] <;> rfl, rfl⟩
            | true =>
              cases op with
              | true =>
                have HV := Lib.hid (show ckI 0 0 true true = false by unfold ckI; simp)
                go_wp2_with fail
                go_meet
                exact ⟨by rw [HV.out] <;> rfl, rfl⟩
              | false =>
                have HV := Lib.hid (show ckI 0 0 true false = true by unfold ckI; simp)
                go_wp2_with fail
                go_meet
                exact ⟨by rw [HV.out] <;> rfl, rfl⟩
          · have e2 : (at0 == 0) = false := by rw [beq_eq_false_iff_ne]; exact q2
            have HV := Lib.hid (show ckI 0 at0 over op = false by unfold ckI; simp [q2])
            go_wp2_with fail
            go_meet
            exact ⟨by rw [HV.out] <;> rfl, rfl⟩
        · have q1' : 0 < nA := by omega
          have e1 : decide (0 < nA) = true := decide_eq_true q1'
          have f1 : decide ((0 : Int) < (nA : Int)) = true := decide_eq_true (by omega)
          have g1 : ((nA : Int) == 0) = false := by rw [beq_eq_false_iff_ne]; omega
          have g1' : (nA == 0) = false := by rw [beq_eq_false_iff_ne]; omega
          cases over with
          | false =>
            have HV := Lib.hid (show ckI nA at0 false op = true by unfold ckI; simp [q0, q1'])
            go_wp2_with fail
            go_meet
            exact ⟨by rw [HV.out] <;> rfl, rfl⟩
          | true =>
            cases op with
            | true =>
              have HV := Lib.hid (show ckI nA at0 true true = false by unfold ckI; simp [q0, q1'])
              go_wp2_with fail
              go_meet
              exact ⟨by rw [HV.out] <;> rfl, rfl⟩
            | false =>
              have HV := Lib.hid (show ckI nA at0 true false = false by unfold ckI; simp [q0, q1', q1])
              go_wp2_with fail
              go_meet
              exact ⟨by rw [HV.out] <;> rfl, rfl⟩
      · have e0 : decide (nA ≤ 600) = false := decide_eq_false q0
        have f0 : decide ((nA : Int) ≤ 600) = false := decide_eq_false (by omega)
        have HV := Lib.hid (show ckI nA at0 over op = false by unfold ckI; simp [q0])
        go_wp2_with fail
        go_meet
        exact ⟨by rw [HV.out] <;> rfl, rfl⟩
    case rest =>
      obtain ⟨rfl, rfl⟩ := hcut
      obtain ⟨cI, hcI⟩ : ∃ c, ckI nA at0 over op = c := ⟨_, rfl⟩
      rw [hcI] at HRR
      rw [hcI]
      clear hcI
      go_upto_region 3 with (fail)
      go_cut [5] (fun v wx => v = .bool (ckW size made nw) ∧ w0 = wx)
      case first =>
        clear c0 c2 c3 c41 c44
        by_cases q0 : size = 32768
        · have e0 : (size == 32768) = true := by rw [beq_iff_eq]; exact q0
          by_cases q1 : 32768 < made
          · by_cases q2 : (nw : Int) = 32768
            · have e2 : ((nw : Int) == 32768) = true := by rw [beq_iff_eq]; exact q2
              have e3 : (nw == 32768) = true := by rw [beq_iff_eq]; omega
              have HV := Lib.hid (show ckW size made nw = true by unfold ckW; simp [q0, q1, q2])
              clear q0 q2
              go_wp2_with fail
              go_meet
              exact ⟨by rw [HV.out] <;> rfl, rfl⟩
            · have e2 : ((nw : Int) == 32768) = false := by rw [beq_eq_false_iff_ne]; exact q2
              have e3 : (nw == 32768) = false := by rw [beq_eq_false_iff_ne]; omega
              have HV := Lib.hid (show ckW size made nw = false by unfold ckW; simp [q0, q1, q2])
              clear q0
              go_wp2_with fail
              go_meet
              exact ⟨by rw [HV.out] <;> rfl, rfl⟩
          · by_cases q2 : (nw : Int) = made
            · have e2 : ((nw : Int) == made) = true := by rw [beq_iff_eq]; exact q2
              have HV := Lib.hid (show ckW size made nw = true by unfold ckW; simp [q0, q1, q2])
              clear q0 q2
              go_wp2_with fail
              go_meet
              exact ⟨by rw [HV.out] <;> rfl, rfl⟩
            · have e2 : ((nw : Int) == made) = false := by rw [beq_eq_false_iff_ne]; exact q2
              have HV := Lib.hid (show ckW size made nw = false by unfold ckW; simp [q0, q1, q2])
              clear q0
              go_wp2_with fail
              go_meet
              exact ⟨by rw [HV.out] <;> rfl, rfl⟩
        · have e0 : (size == 32768) = false := by rw [beq_eq_false_iff_ne]; exact q0
          have HV := Lib.hid (show ckW size made nw = false by unfold ckW; simp [q0])
          go_wp2_with fail
          go_meet
          exact ⟨by rw [HV.out] <;> rfl, rfl⟩
      case rest =>
        obtain ⟨rfl, rfl⟩ := hcut
        obtain ⟨cW, hcW⟩ : ∃ c, ckW size made nw = c := ⟨_, rfl⟩
        rw [hcW] at HRR
        rw [hcW]
        clear hcW
        go_upto_region 4 with (fail)
        go_cut [6] (fun v wx => v = .bool (ckO op bk) ∧ Below w.heap.size w wx)
        case first =>
          clear c0 c1 c2 c3 c42 c43 c44
          cases op with
          | true =>
            cases ck with
            | true =>
              have HV := Lib.hid (show ckO true bk = true by rw [HO.out]; rfl)
              clear HO
              go_wp2_with (first
                | (refine load_subG (by rfl) 28 (.tmp 85) rfl rfl k0 37 (by omega) Tryz.underlying28 rfl bk_size K (fun i hi => swH_bk _ _ _ _ _ _ _ _ _ i hi) ?_)
                | (go_at_call 24; refine (HP.out _ hbw).mono ?_; rintro e w2 ⟨rfl, h2⟩))
              go_meet
              exact ⟨by rw [HV.out] <;> rfl, hbw.trans (h2.mono hbw.size)⟩
            | false =>
              have HV := Lib.hid (show ckO true bk = false by rw [HO.out]; rfl)
              clear HO
              go_wp2_with (first
                | (refine load_subG (by rfl) 28 (.tmp 85) rfl rfl k0 37 (by omega) Tryz.underlying28 rfl bk_size K (fun i hi => swH_bk _ _ _ _ _ _ _ _ _ i hi) ?_)
                | (go_at_call 24; refine (HP.out _ hbw).mono ?_; rintro e w2 ⟨rfl, h2⟩; have c41' := Arr.cell (Arr.below k0 h2 (Blk.lt k0)) 41 (by omega); replace c41 : w2.cell? ⟨w.heap.size, 41, none⟩ = some (.bool true) := c41'; clear c41'))

              go_simp
              go_wp2_with fail
              go_meet
              exact ⟨by rw [HV.out] <;> rfl, hbw.trans (h2.mono hbw.size)⟩
          | false =>
            have HV := Lib.hid (show ckO false bk = zk by rw [HO.out]; rfl)
            clear HO
            go_wp2_with (first
              | (refine load_subG (by rfl) 28 (.tmp 95) rfl rfl k0 37 (by omega) Tryz.underlying28 rfl bk_size K (fun i hi => swH_bk _ _ _ _ _ _ _ _ _ i hi) ?_)
              | (go_at_call 25; refine (HZ.out _ hbw).mono ?_; rintro e w2 ⟨rfl, h2⟩))
            go_meet
            exact ⟨by rw [HV.out] <;> rfl, hbw.trans (h2.mono hbw.size)⟩
        case rest =>
          obtain ⟨rfl, hbw'⟩ := hcut
          obtain ⟨cO, hcO⟩ : ∃ c, ckO op bk = c := ⟨_, rfl⟩
          rw [hcO] at HRR
          rw [hcO]
          clear hcO HO HP HZ k0 hbw
          cases cN with
          | false =>
            go_wp2_with fail
            go_ret
            exact CkdRes.mk' 8 (by rw [← HRR.out]; rfl) rfl hbw'
          | true =>
            cases cI with
            | false =>
              go_wp2_with fail
              go_ret
              exact CkdRes.mk' 8 (by rw [← HRR.out]; rfl) rfl hbw'
            | true =>
              cases cW with
              | false =>
                go_wp2_with fail
                go_ret
                exact CkdRes.mk' 8 (by rw [← HRR.out]; rfl) rfl hbw'
              | true =>
                cases cO with
                | false =>
                  go_wp2_with fail
                  go_ret
                  exact CkdRes.mk' 8 (by rw [← HRR.out]; rfl) rfl hbw'
                | true =>
                  go_wp2_with fail
                  go_ret
                  exact CkdRes.mk' 0 (by rw [← HRR.out]; rfl) rfl hbw'
end Go.Proofs.YtahboomghjdjhaaGreat
