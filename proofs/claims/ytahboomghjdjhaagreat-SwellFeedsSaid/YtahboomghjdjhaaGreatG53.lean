/-
  The document's streams: Fed.
-/
import Derived.BigRegion
import Derived.Deep.CutBlock
import Derived.Deep.DeepCutAuto
import Derived.Deep.LoopGhost
import Derived.Test.YtahboomghjdjhaaGreatG16
import Derived.Test.YtahboomghjdjhaaGreatG45
import Derived.Test.YtahboomghjdjhaaGreatG49
import Derived.Test.YtahboomghjdjhaaGreatG50
import Derived.Test.YtahboomghjdjhaaGreatGFeE
import Derived.Test.YtahboomghjdjhaaGreatGOpen
namespace Go.Proofs.YtahboomghjdjhaaGreat
open Go.RowKit

theorem fd_start {s : Wv} {w : World} (hs : s.ok w) {k : Option Bk} (hk : CkIs s k) {most made a : Nat} (hmo : s.most = (most : Int)) (hma : s.made = (made : Int)) (hat : s.at0 = (a : Int)) {b : List Nat} (hx : ∀ x ∈ b, x < 256) (hl : (s.lA ++ b).length ≤ 100000) : FdN most made (most - made) (s.lA ++ b) s.lw ⟨a, k, false, s.lw, []⟩ := by
  have h1 := hk.most
  have h2 := hk.made
  have h3 := hk.lw_ hs.lenw hma
  refine ⟨hk.start hat hs.lenA b, ⟨?_, fun x h => (by cases h), Nat.zero_le _⟩, hs.bw, by omega, by omega, hl, fun x hx' => ?_⟩
  · show s.lw = lastL 32768 (s.lw ++ [])
    rw [List.append_nil, lastL_self (by omega)]
  · rcases List.mem_append.1 hx' with h | h
    · exact hs.bA x h
    · exact hx x h

theorem fd_one (most made NL nt nw : Nat) (I : Option Addr) (ci : Nat) (at0 : Int) (k : Option Bk) (C1 : Option Addr) (m1 d1 : Nat) (C2 : Option Addr) (m2 d2 : Nat) (Bw : Option Addr) (cw : Nat) (over : Bool) (i : Nat) : (swH (most : Int) ((made + nt : Nat) : Int) (.slice I NL ci) at0 (bkO k (.slice C1 m1 d1) (.slice C2 m2 d2)) k.isSome 32768 (.slice Bw nw cw) over i).oneCell' = true := by
  rw [← bkV_F k ⟨C1, m1, d1, C2, m2, d2, none, 0, 0, none, 0, 0⟩]
  exact swH_one _ _ _ _ _ _ _ _ _ _ _ _ _ i

set_option maxRecDepth 100000 in
set_option maxHeartbeats 8000000 in
theorem rfed_any (s : Wv) (w : World) (hs : s.ok w) (B : Option Addr) (n c : Nat) (b : List Nat) (hB : Rd w B (u8s b)) (hn : n = b.length) (hm : n ≤ 90000) (hov : s.over = false) (k : Option Bk) (hk : CkIs s k) (most made a : Nat) (hmo : s.most = (most : Int)) (hma : s.made = (made : Int)) (hat : s.at0 = (a : Int)) (hx : ∀ x ∈ b, x < 256) :
    Calls Tryz.prog 21 #[.agg (cellsOf 45 s.F), .slice B n c] w fun r w' => RFed w w' most made s.nA n (s.lA ++ b) (runS (most - made) (s.lA ++ b) ⟨a, k, false, s.lw, []⟩) r := by
  have h600 := hk.nA
  have HS := Lib.hid (And.intro hs hk)
  obtain ⟨ms, ma, A, nA, cA, lA, at0, bk, op, size, Bw, nw, cw, lw, over⟩ := s
  have e1 := hk.op
  have e2 := hk.size
  dsimp only at hov hmo hma hat e1 e2 h600
  subst hov hmo hma hat e1 e2
  have HTW := Lib.hid fun wx (h : Below w.heap.size w wx) => rtwin14_any _ wx (HS.out.1.below h)
  obtain ⟨all, hall⟩ : ∃ l, lA ++ b = l := ⟨_, rfl⟩
  obtain ⟨N, hN⟩ : ∃ N, nA + n = N := ⟨_, rfl⟩
  have hN1 : N ≤ 90600 := by omega
  have HL := Lib.hid (show (u8s lA).length = nA ∧ (u8s b).length = n ∧ u8s lA ++ u8s b = u8s all ∧ N = all.length from ⟨by rw [u8s_length, ← HS.out.1.lenA], by rw [u8s_length, hn], by rw [← hall, u8s_append], by rw [← hall, List.length_append, ← hn, ← HS.out.1.lenA]; exact hN.symm⟩)
  have HX := Lib.hid (And.intro hall (And.intro hn hx))
  obtain ⟨R, hR⟩ : ∃ R, runS (most - made) (lA ++ b) ⟨a, k, false, lw, []⟩ = R := ⟨_, rfl⟩
  dsimp only [Wv.F]
  rw [hR, hall]
  rw [hall] at hR
  have HR := Lib.hid hR
  clear hs hk hx hall hn hR
  have hHN := Lib.hid hN
  clear hN
  have hb0 : Below w.heap.size w ((w.alloc (.cells (cellsOf 45 (swH (most : Int) (made : Int) (.slice A nA cA) (a : Int) bk.F k.isSome 32768 (.slice Bw nw cw) false)) 32)).alloc (.cells (cellsOf 45 swZ) 32)) := ((Below.refl _ _).alloc (Nat.le_refl _) _).alloc (by simp) _
  have k1 : Arr ((w.alloc (.cells (cellsOf 45 (swH (most : Int) (made : Int) (.slice A nA cA) (a : Int) bk.F k.isSome 32768 (.slice Bw nw cw) false)) 32)).alloc (.cells (cellsOf 45 swZ) 32)) w.heap.size 32 45 (swH (most : Int) (made : Int) (.slice A nA cA) (a : Int) bk.F k.isSome 32768 (.slice Bw nw cw) false) := Arr.alloc (Blk.new _ _ _) _
  have k2 : Arr ((w.alloc (.cells (cellsOf 45 (swH (most : Int) (made : Int) (.slice A nA cA) (a : Int) bk.F k.isSome 32768 (.slice Bw nw cw) false)) 32)).alloc (.cells (cellsOf 45 swZ) 32)) (w.heap.size + 1) 32 45 swZ := Blk.new' _ _ _ _ (by simp)
  go_enter Tryz.func21, Tryz.ntmps21
  go_upto_region 1 with fail
  change Code.wp _ _ _ _ ((w.alloc (.cells (cellsOf 45 (swH (most : Int) (made : Int) (.slice A nA cA) (a : Int) bk.F k.isSome 32768 (.slice Bw nw cw) false)) 32)).alloc (.cells (cellsOf 45 swZ) 32))
  generalize (w.alloc (.cells (cellsOf 45 (swH (most : Int) (made : Int) (.slice A nA cA) (a : Int) bk.F k.isSome 32768 (.slice Bw nw cw) false)) 32)).alloc (.cells (cellsOf 45 swZ) 32) = w0 at *
  obtain ⟨sb, hsb⟩ : ∃ g, w.heap.size = g := ⟨_, rfl⟩
  obtain ⟨rb, hrb⟩ : ∃ g, w.heap.size + 1 = g := ⟨_, rfl⟩
  have hrA := HS.out.1.rA.below hb0
  have hrb0 := hB.below hb0
  dsimp only at hrA
  rw [hsb] at k1
  rw [hrb] at k2
  rw [hrb, hsb]
  have HG := Lib.hid (show w.heap.size ≤ sb ∧ sb < rb ∧ rb < w0.heap.size from ⟨by omega, by omega, by have := Blk.lt k2; exact this⟩)
  clear hrb hsb hB
  have c2 : w0.cell? ⟨sb, 2, none⟩ = some (.slice A nA cA) := Arr.cell k1 2 (by omega)
  go_upto_region 2 with (first
    | (refine grow selem_u8 rfl (.const (.slice none 0 0)) (.tmp 22) rfl rfl (Builds.nil' (W := w0) (Below.refl _ _) _ _) rfl hrA (by rw [HL.out.1, Nat.mul_one]) (u8s_one _) nA (by omega) (u8s lA) rfl (by omega) (by omega) ?_; intro A1 c1 w1 hB1 hg1)
    | (refine grow selem_u8 rfl (.tmp 23) (.tmp 24) rfl rfl hB1 rfl (hrb0.below hB1.1) (by rw [HL.out.2.1, Nat.mul_one]) (u8s_one _) N hHN.out (u8s all) HL.out.2.2.1 (by omega) (by omega) ?_; intro A8 c8 w2 hB2 hg2))
  have k12 := Arr.below k1 hB2.1 (Blk.lt k1)
  have k22 := Arr.below k2 hB2.1 (Blk.lt k2)
  have oA2 := own_far_base hB2.2 hb0.size
  have hb2 := hb0.trans (hB2.1.mono hb0.size)
  have HG2 := Lib.hid (show w.heap.size ≤ sb ∧ sb < rb ∧ rb < w2.heap.size from ⟨HG.out.1, HG.out.2.1, Blk.lt k22⟩)
  clear c2 hB1 hg1 hB2 hg2 k1 k2 hb0 hrA hrb0 HG
  have c3 : w2.cell? ⟨sb, 3, none⟩ = some (.int .i64 (a : Int)) := Arr.cell k12 3 (by omega)
  have HT := Lib.hid (HTW.out _ hb2)
  clear HTW
  go_upto_region 4 with (first
    | (refine load_arr rfl 32 (.tmp 2) rfl rfl k12 Tryz.underlying32 rfl sw_size ?_)
    | (go_at_call 5; refine HT.out.mono ?_; rintro e w3 ⟨hb3, A3, cA3, C1, d1, C2, d2, Bw3, cw3, rfl, hok3, hlw3⟩)
    | (refine store_over rfl 32 (.tmp 10) (.tmp 29) (f0 := swZ) rfl rfl rfl (Blk.new _ _ _) sw_size (fun i _ => swH_one _ _ _ _ _ _ _ _ _ _ _ _ _ i) ?_; intro w4 k4 g4))
  have hb23 := hb2.trans (hb3.mono hb2.size)
  have hb4 := box_sw hb23 g4
  have hb34 := box_sw (Below.refl _ _) g4
  have k14 := Arr.below (Arr.below k12 hb3 (Blk.lt k12)) hb34 (Nat.lt_of_lt_of_le (Blk.lt k12) hb3.size)
  have k24 := Arr.below (Arr.below k22 hb3 (Blk.lt k22)) hb34 (Nat.lt_of_lt_of_le (Blk.lt k22) hb3.size)
  have oA4 := own_below (own_below oA2 hb3) hb34
  have HK := Lib.hid (hok3.below hb34)
  have hrw4 := Lib.hid (show 0 < (u8s lw).length → ∀ ad, Bw3 = some ad → ad.block < w3.heap.size from fun hl => rd_heap hok3.rw_ hl)
  have HG4 := Lib.hid (show w.heap.size ≤ sb ∧ sb < rb ∧ rb < w3.heap.size ∧ w3.heap.size < w4.heap.size from ⟨HG2.out.1, HG2.out.2.1, Nat.lt_of_lt_of_le HG2.out.2.2 hb3.size, Blk.lt k4⟩)
  have HB2 := Lib.hid hb2
  have HSR := Lib.hid (show sb ≠ rb by have := HG2.out; omega)
  have HAP := Lib.hid (show 0 < (u8s lw).length → ∀ ad, Bw3 = some ad → rb < ad.block from fun hl ad e => by have h1 := hlw3 hl ad e; have h2 := HG2.out; omega)
  have HRB := Lib.hid (show w.heap.size ≤ rb by have := HG4.out; omega)
  obtain ⟨ob, hob⟩ : ∃ g, w3.heap.size = g := ⟨_, rfl⟩
  rw [hob] at k4 HG4 hrw4
  rw [hob]
  obtain ⟨K, hK⟩ : ∃ K, (⟨bk.kind, bk.last, bk.left, bk.f1, C1, bk.m1, d1, bk.x1, bk.f2, C2, bk.m2, d2, bk.x2⟩ : Bv).F = K := ⟨_, rfl⟩
  have k4' : FdO w4 ob most made (.slice A3 nA cA3) (a : Int) K 0 k.isSome Bw3 nw cw3 false := by rw [← hK]; exact k4
  clear k4 hK hok3 hb23 hb34 k12 k22 oA2 c3 hb2 g4 hb3 hob HT HG2
  go_upto_region 6 with fail
  have hb5 := hb4.alloc hb4.size (.cells bdZ 67)
  have kb5 : Blk (w4.alloc (.cells bdZ 67)) w4.heap.size 67 bdZ := Blk.new _ _ _
  have hR5 : FdR w (w4.alloc (.cells bdZ 67)) sb rb ob w4.heap.size (swH (most : Int) (made : Int) (.slice A nA cA) (a : Int) bk.F k.isSome 32768 (.slice Bw nw cw) false) A8 N c8 all lw [] Bw3 none 0 0 :=
    ⟨hb5, Arr.alloc k14 _, Arr.alloc k24 _, oA4.alloc _, HK.out.rw_.alloc _, fun hl ad e => ⟨Nat.ne_of_lt (hrw4.out hl ad e), Nat.ne_of_lt (Nat.lt_trans (hrw4.out hl ad e) HG4.out.2.2.2), fun e' => by cases e'⟩, World.ownsRow_nil _ _ _ _, fun g e => (by cases e), rfl, ⟨by have := HG4.out; omega, by have := HG4.out; omega⟩, by have := HG4.out; omega, HAP.out⟩
  have ko5 : FdO (w4.alloc (.cells bdZ 67)) ob most made (.slice A3 nA cA3) (a : Int) K 0 k.isSome Bw3 nw cw3 false := Arr.alloc k4' _
  have hcw := HK.out.capw
  have hlw := HK.out.lenw
  dsimp only [Wv.put] at hcw hlw
  change Code.wp _ _ _ _ (w4.alloc (.cells bdZ 67))
  obtain ⟨kb, hkb⟩ : ∃ g, w4.heap.size = g := ⟨_, rfl⟩
  rw [hkb] at kb5 hR5
  rw [hkb]
  have hlt5 := Blk.lt ko5
  generalize w4.alloc (.cells bdZ 67) = w5 at *
  have HH := Lib.hid (And.intro hcw hlw)
  clear hcw hlw hkb hb4 k4' k14 k24 oA4 HG4 hrw4 HK
  have c41 : w5.cell? ⟨sb, 41, none⟩ = some (.bool k.isSome) := Arr.cell hR5.bs 41 (by omega)
  go_upto_if 32 with fail
  go_cut [] (fun wx => FdR w wx sb rb ob kb (swH (most : Int) (made : Int) (.slice A nA cA) (a : Int) bk.F k.isSome 32768 (.slice Bw nw cw) false) A8 N c8 all lw [] Bw3 none 0 0 ∧ FdO wx ob most made (.slice A3 nA cA3) (a : Int) K 0 k.isSome Bw3 nw cw3 false ∧ FdB wx ob kb (.slice none 0 0) k)
  case first =>
    cases k with
    | none =>
      go_wp2_with fail
      go_meet
      case rel => exact ⟨hR5, ko5, _, _, _, _, _, _, _, _, _, kb5⟩
    | some q =>
      obtain ⟨hq, hx1, hx2⟩ := HS.out.2.blk q rfl
      dsimp only at hx1 hx2
      have hv : OfV w5 q bk.C1 bk.m1 bk.d1 bk.C2 bk.m2 bk.d2 := by
        have h := HS.out.1.bk
        dsimp only at h
        exact ⟨hx1 ▸ h.r1.below hb5, hx1 ▸ h.l1, h.c1, hx2 ▸ h.r2.below hb5, hx2 ▸ h.l2, h.c2⟩
      have HBK := Lib.hid (rback_any q hq bk.C1 bk.m1 bk.d1 bk.C2 bk.m2 bk.d2 w5 hv)
      clear hx1 hx2 hv hq
      replace c41 : w5.cell? ⟨sb, 41, none⟩ = some (.bool true) := c41
      go_wp2_with (first
        | (refine load_sub rfl 28 (.tmp 33) rfl rfl hR5.bs 37 (by omega) Tryz.underlying28 rfl bk_size (bkC q (.slice bk.C1 bk.m1 bk.d1) (.slice bk.C2 bk.m2 bk.d2)) (fun i hi => (swH_bk _ _ _ _ _ _ _ _ _ i hi).trans (HS.out.2.cells i hi)) ?_)
        | (go_at_call 32; refine HBK.out.mono ?_; rintro e w6 ⟨hb6, Q1, q1, y1, Q2, q2, y2, rfl, hbd, hl1, hl2⟩; have kb6 := Blk.below kb5 hb6 (Blk.lt kb5); have ct6 := Blk.cells kb6; have fx6 := Blk.frozens kb6; have lt6 := Blk.lt kb6))
      obtain ⟨k7, g7⟩ := bd_five kb6 (.int .u8 (q.kind : Int)) (.bool q.last) (.int .i64 (q.left : Int)) (.slice Q1 q1 y1) (.slice Q2 q2 y2)
      go_meet
      case rel =>
        have ap : ∀ (A' : Option Addr) (xs : List Value), (∀ ad, A' = some ad → w5.heap.size ≤ ad.block) → ApT (.slice none 0 0) ob kb A' xs := fun A' xs h => ApT.new (fun _ => h) hlt5 (Blk.lt kb5) (fun g e => by cases e)
        have hA : BdA w6 q Q1 q1 q.lo Q2 q2 q.fa (.slice none 0 0) ob kb := ⟨hbd, ap _ _ hl1, ap _ _ hl2⟩
        exact ⟨(hR5.below hb6).skb kb6 g7, Blk.only (Arr.below ko5 hb6 hlt5) g7 hR5.ne.2.2.2.2, Q1, q1, y1, q.lo, Q2, q2, y2, q.fa, k7, hA.skb g7⟩
  case rest =>
    obtain ⟨hR, hO, hFB⟩ := hcut
    clear hR5 ko5 kb5 c41 hb5
    have hN0 : FdN most made (most - made) all lw ⟨a, k, false, lw, []⟩ := by
      have h := fd_start HS.out.1 HS.out.2 rfl rfl rfl (b := b) HX.out.2.2 (by show (lA ++ b).length ≤ 100000; rw [HX.out.1, ← HL.out.2.2.2]; omega)
      dsimp only at h
      rwa [HX.out.1] at h
    obtain ⟨room, hroom⟩ : ∃ r, most - made = r := ⟨_, rfl⟩
    rw [hroom] at HR hN0
    obtain ⟨F, hF⟩ : ∃ F, swH (most : Int) (made : Int) (.slice A nA cA) (a : Int) bk.F k.isSome 32768 (.slice Bw nw cw) false = F := ⟨_, rfl⟩
    rw [hF] at hR
    rw [hF]
    have HFF := Lib.hid (And.intro hF hroom)
    have hNl := HL.out.2.2.2
    have HST := Lib.hid (show FdAt w wc sb rb ob kb F most made (.slice A3 nA cA3) (a : Int) K A8 N c8 all ⟨a, k, false, lw, []⟩ (.slice none 0 0) from ⟨Bw3, cw3, none, 0, 0, nw, rfl, hR, HH.out.2, HH.out.1, hO, hFB⟩)
    have HN := Lib.hid (And.intro hNl hN0)
    obtain ⟨M, hM⟩ : ∃ M, muS all ⟨a, k, false, lw, []⟩ = M := ⟨_, rfl⟩
    have HM := Lib.hid hM
    clear hM hNl hN0 hR hO hFB hF hroom h600 hm
    go_upto_block 0 with fail
    go_cut [9, 11] (fun v9 v11 wx => ∃ s1 : Ss, v9 = .int .i64 (s1.a : Int) ∧ FdAt w wx sb rb ob kb F most made (.slice A3 nA cA3) (a : Int) K A8 N c8 all s1 v11 ∧ FdN most made room all lw s1 ∧ R = .ok s1)
    case first =>
      go_wp2_with fail
      go_loopg [9, 11] M (fun gk v9 v11 wr => ∃ s1 : Ss, muS all s1 = gk ∧ v9 = .int .i64 (s1.a : Int) ∧ FdAt w wr sb rb ob kb F most made (.slice A3 nA cA3) (a : Int) K A8 N c8 all s1 v11 ∧ FdN most made room all lw s1 ∧ runS room all s1 = R)
      case atStart => exact ⟨_, HM.out, rfl, HST.out, HN.out.2, HR.out⟩
      case round =>
        obtain ⟨⟨a1, k1, ov1, win1, told1⟩, hg, rfl, ⟨Bw1, cw1, T1, nt1, ct1, nw1, rfl, hr, hnw, hcw, ho, hfb⟩, hn, hrun⟩ := hrel
        dsimp only at hr hnw ho hfb
        have hat1 : a1 ≤ 8 * N := by have h := hn.ok.at_; rw [← HN.out.1] at h; exact h
        have c44 : wr.cell? ⟨ob, 44, none⟩ = some (.bool ov1) := Arr.cell ho 44 (by omega)
        have c41 : wr.cell? ⟨ob, 41, none⟩ = some (.bool k1.isSome) := Arr.cell ho 41 (by omega)
        have hbs : Bs wr A8 all := Bs.of_own hr.all hn.byte
        have HW := Lib.hid (And.intro hg (And.intro hn (And.intro hrun (And.intro hnw hcw))))
        clear hg hn hrun hnw hcw
        cases ov1 with
        | true =>
          go_wp2_with fail
          go_meet
          case rel => exact ⟨⟨a1, k1, true, win1, told1⟩, rfl, ⟨Bw1, cw1, T1, nt1, ct1, nw1, rfl, hr, HW.out.2.2.2.1, HW.out.2.2.2.2, ho, hfb⟩, HW.out.2.1, HW.out.2.2.1.symm.trans (run_over rfl)⟩
        | false =>
          cases k1 with
          | none =>
            replace c41 : wr.cell? ⟨ob, 41, none⟩ = some (.bool false) := c41
            have HBG := Lib.hid (rbegin_any A8 N c8 all a1 wr hbs HN.out.1 (by have h := HN.out.2.len; rw [← HN.out.1] at h; exact h) hat1)
            cases hh : hdP all a1 with
            | error e =>
              have ho1 : oneS room all ⟨a1, none, false, win1, told1⟩ = .error e := one_head_no rfl hh
              unfold BdRes at HBG
              rw [hh] at HBG
              by_cases h10 : e = 10
              · subst h10
                have HRR := Lib.hid (HW.out.2.2.1.symm.trans (run_stop rfl ho1))
                clear ho1 hh hbs hat1
                go_wp2_with (go_at_call 33; refine HBG.out.mono ?_; rintro e w2 ⟨hb2, hne, rfl⟩)
                go_meet
                case rel =>
                  have hb3 := hb2.alloc hb2.size (.cells bdZ 67)
                  exact ⟨⟨a1, none, false, win1, told1⟩, rfl, ⟨Bw1, cw1, T1, nt1, ct1, nw1, rfl, hr.below hb3, HW.out.2.2.2.1, HW.out.2.2.2.2, Arr.below ho hb3 (Blk.lt ho), hfb.below hb3⟩, HW.out.2.1, HRR.out⟩
              · have HRR := Lib.hid (HW.out.2.2.1.symm.trans (run_err rfl ho1 h10))
                have hne0 := one_err0 ho1
                have e10 : ((e : Int) == 10) = false := by rw [beq_eq_false_iff_ne]; omega
                have e0 : ((e : Int) != 0) = true := by rw [bne_iff_ne]; omega
                clear ho1 hh hbs hat1 h10 hne0
                go_wp2_with (first
                  | (go_at_call 33; refine HBG.out.mono ?_; rintro e w2 ⟨hb2, hne, rfl⟩; have br2 := Arr.alloc (Arr.below hr.br hb2 (Blk.lt hr.br)) (.cells bdZ 67))
                  | (refine store_over rfl 32 (.tmp 4) (.tmp 53) (f := swZ) (f0 := swZ) rfl rfl rfl br2 sw_size (fun i _ => swH_one _ _ _ _ _ _ _ _ _ _ _ _ _ i) ?_; intro w3 k3 g3))
                have hb3 := hb2.alloc hb2.size (.cells bdZ 67)
                have hbz := hr.only.trans (hb3.mono hr.only.size)
                refine bodyPost_ret (results_four Tryz.results21 _ _ rb 32 _ _ _ _ _ rfl rfl rfl rfl k3 Tryz.underlying32 rfl (by rw [cellsOf_size]; exact sw_size)) rfl ?_
                rw [HRR.out]
                exact ⟨Below.then_only hbz g3 hbz.size HRB.out, rfl⟩
            | ok r =>
              obtain ⟨q, m⟩ := r
              have ho1 : oneS room all ⟨a1, none, false, win1, told1⟩ = .ok ⟨m, some q, false, win1, told1⟩ := one_head rfl hh
              unfold BdRes at HBG
              rw [hh] at HBG
              have HRR := Lib.hid (And.intro ((run_go HW.out.2.1.ok rfl ho1).symm.trans HW.out.2.2.1) (And.intro (HW.out.2.1.one ho1) (one_ok HW.out.2.1.ok ho1).2.1))
              clear ho1 hh hbs hat1
              go_upto_region 14 with (go_at_call 33; refine HBG.out.mono ?_; rintro e w2 ⟨hb2, D1, p1, y1, lo, D2, p2, y2, fa, rfl, hbd, hl1, hl2⟩)
              have hb3 := hb2.alloc hb2.size (.cells (bdC (q.kind : Int) q.last (q.left : Int) D1 p1 y1 D2 p2 y2) 67)
              have kx : Blk (w2.alloc (.cells (bdC (q.kind : Int) q.last (q.left : Int) D1 p1 y1 D2 p2 y2) 67)) w2.heap.size 67 (bdC (q.kind : Int) q.last (q.left : Int) D1 p1 y1 D2 p2 y2) := Blk.new _ _ _
              have hbd3 := hbd.below ((Below.refl _ _).alloc (Nat.le_refl _) (.cells (bdC (q.kind : Int) q.last (q.left : Int) D1 p1 y1 D2 p2 y2) 67))
              obtain ⟨_, _, _, _, _, _, _, _, _, kk⟩ := hfb.any
              have hA3 : BdA (w2.alloc (.cells (bdC (q.kind : Int) q.last (q.left : Int) D1 p1 y1 D2 p2 y2) 67)) q D1 p1 lo D2 p2 fa (.slice T1 nt1 ct1) ob kb := ⟨hbd3, ApT.new (fun _ => hl1) (Blk.lt ho) (Blk.lt kk) (own_lt hr.told), ApT.new (fun _ => hl2) (Blk.lt ho) (Blk.lt kk) (own_lt hr.told)⟩
              change Code.wp _ _ _ _ (w2.alloc (.cells (bdC (q.kind : Int) q.last (q.left : Int) D1 p1 y1 D2 p2 y2) 67))
              obtain ⟨xb, hxb⟩ : ∃ g, w2.heap.size = g := ⟨_, rfl⟩
              rw [hxb] at kx
              rw [hxb]
              generalize w2.alloc (.cells (bdC (q.kind : Int) q.last (q.left : Int) D1 p1 y1 D2 p2 y2) 67) = w3 at *
              have hr3 := hr.below hb3
              have ho3 := Arr.below ho hb3 (Blk.lt ho)
              have kk3 := Blk.below kk hb3 (Blk.lt kk)
              clear hxb hbd hl1 hl2 hbd3 kk hfb ho hr hb2 hb3 c41 c44
              have ctx := Blk.cells kx
              have ctk := Blk.cells kk3
              have fxk := Blk.frozens kk3
              have ltk := Blk.lt kk3
              go_upto_region 15 with fail
              obtain ⟨k4, g4⟩ := bd_five kk3 (.int .u8 (q.kind : Int)) (.bool q.last) (.int .i64 (q.left : Int)) (.slice D1 p1 y1) (.slice D2 p2 y2)
              have hr4 := hr3.skb kk3 g4
              have ho4 := Blk.only ho3 g4 hr3.ne.2.2.2.2
              have hA4 := hA3.skb g4
              generalize ((((w3.setCell ⟨kb, 0, none⟩ (.int .u8 (q.kind : Int))).setCell ⟨kb, 1, none⟩ (.bool q.last)).setCell ⟨kb, 2, none⟩ (.int .i64 (q.left : Int))).setCell ⟨kb, 3, none⟩ (.slice D1 p1 y1)).setCell ⟨kb, 4, none⟩ (.slice D2 p2 y2) = w4 at *
              clear ctx ctk fxk ltk kk3 kx hA3 ho3 hr3 g4
              have ct4 : w4.cell? ⟨ob, 41, none⟩ = some (.bool false) := Arr.cell ho4 41 (by omega)
              have fx4 := Blk.frozen ho4 41
              have lt4 := Blk.lt ho4
              go_upto_region 16 with fail
              have ho5 := (Arr.set ho4 41 (.bool true)).congr (fun i _ => swH_open true i)
              have g5 := only_set (only_self w4 ob) 41 (.bool true)
              have hr5 := hr4.sob ho4 g5
              have hA5 := hA4.sob g5
              have k5 := Blk.only k4 g5 (Ne.symm hr4.ne.2.2.2.2)
              generalize w4.setCell ⟨ob, 41, none⟩ (.bool true) = w5 at *
              clear ct4 fx4 lt4 ho4 g5 hr4 hA4 k4
              go_wp2_with fail
              go_roundg (muS all ⟨m, some q, false, win1, told1⟩)
              case measure => have h1 := HRR.out.2.2; have h2 := HW.out.1; omega
              case rel => exact ⟨⟨m, some q, false, win1, told1⟩, rfl, rfl, ⟨Bw1, cw1, T1, nt1, ct1, nw1, rfl, hr5, HW.out.2.2.2.1, HW.out.2.2.2.2, ho5, D1, p1, y1, lo, D2, p2, y2, fa, k5, hA5⟩, HRR.out.2.1, HRR.out.1⟩
          | some q =>
            replace c41 : wr.cell? ⟨ob, 41, none⟩ = some (.bool true) := c41
            obtain ⟨D1, p1, y1, lo, D2, p2, y2, fa, hkb, hA⟩ := hfb
            have hq : BkOk q := HW.out.2.1.ok.blk q rfl
            have HNX := Lib.hid (rnext13_any q hq D1 p1 y1 lo D2 p2 y2 fa A8 N c8 all a1 wr hA.bd hbs HN.out.1 (by have h := HN.out.2.len; rw [← HN.out.1] at h; exact h) hat1)
            unfold NxRes at HNX
            have ctk := Blk.cells hkb
            clear hq
            cases hh : stP q all a1 with
            | error e =>
              have ho1 : oneS room all ⟨a1, some q, false, win1, told1⟩ = .error e := one_step_no rfl hh
              rw [hh] at HNX
              by_cases h10 : e = 10
              · subst h10
                have HRR := Lib.hid (HW.out.2.2.1.symm.trans (run_stop rfl ho1))
                clear ho1 hh hbs hat1
                go_wp2_with (go_at_call 34; refine HNX.out.mono ?_; rintro e w2 ⟨hb2, hne, rfl⟩)
                go_meet
                case rel =>
                  have hb3 := hb2.alloc hb2.size (.cells #[.int .u8 0, .int .i64 0, .int .i64 0] 72)
                  exact ⟨⟨a1, some q, false, win1, told1⟩, rfl, ⟨Bw1, cw1, T1, nt1, ct1, nw1, rfl, hr.below hb3, HW.out.2.2.2.1, HW.out.2.2.2.2, Arr.below ho hb3 (Blk.lt ho), D1, p1, y1, lo, D2, p2, y2, fa, Blk.below hkb hb3 (Blk.lt hkb), hA.below hb3⟩, HW.out.2.1, HRR.out⟩
              · have HRR := Lib.hid (HW.out.2.2.1.symm.trans (run_err rfl ho1 h10))
                have hne0 := one_err0 ho1
                have e10 : ((e : Int) == 10) = false := by rw [beq_eq_false_iff_ne]; omega
                have e0 : ((e : Int) != 0) = true := by rw [bne_iff_ne]; omega
                clear ho1 hh hbs hat1 h10 hne0
                go_wp2_with (first
                  | (go_at_call 34; refine HNX.out.mono ?_; rintro e w2 ⟨hb2, hne, rfl⟩; have br2 := Arr.alloc (Arr.below hr.br hb2 (Blk.lt hr.br)) (.cells #[.int .u8 0, .int .i64 0, .int .i64 0] 72))
                  | (refine store_over rfl 32 (.tmp 4) (.tmp 71) (f := swZ) (f0 := swZ) rfl rfl rfl br2 sw_size (fun i _ => swH_one _ _ _ _ _ _ _ _ _ _ _ _ _ i) ?_; intro w3 k3 g3))
                have hb3 := hb2.alloc hb2.size (.cells #[.int .u8 0, .int .i64 0, .int .i64 0] 72)
                have hbz := hr.only.trans (hb3.mono hr.only.size)
                refine bodyPost_ret (results_four Tryz.results21 _ _ rb 32 _ _ _ _ _ rfl rfl rfl rfl k3 Tryz.underlying32 rfl (by rw [cellsOf_size]; exact sw_size)) rfl ?_
                rw [HRR.out]
                exact ⟨Below.then_only hbz g3 hbz.size HRB.out, rfl⟩
            | ok r =>
              obtain ⟨t, m⟩ := r
              have ho1 : oneS room all ⟨a1, some q, false, win1, told1⟩ = tokS room ⟨a1, some q, false, win1, told1⟩ q t m := one_step rfl hh
              have HT := Lib.hid (And.intro ho1 (stP_ok hh))
              rw [hh] at HNX
              clear ho1 hh hbs hat1
              go_upto_region 22 with (go_at_call 34; refine HNX.out.mono ?_; rintro e w2 ⟨hb2, rfl⟩)
              have hb3 := hb2.alloc hb2.size (.cells #[.int .u8 (t.lit : Int), .int .i64 (t.dist : Int), .int .i64 (t.long : Int)] 72)
              have kx : Blk (w2.alloc (.cells #[.int .u8 (t.lit : Int), .int .i64 (t.dist : Int), .int .i64 (t.long : Int)] 72)) w2.heap.size 72 #[.int .u8 (t.lit : Int), .int .i64 (t.dist : Int), .int .i64 (t.long : Int)] := Blk.new _ _ _
              change Code.wp _ _ _ _ (w2.alloc (.cells #[.int .u8 (t.lit : Int), .int .i64 (t.dist : Int), .int .i64 (t.long : Int)] 72))
              obtain ⟨xb, hxb⟩ : ∃ g, w2.heap.size = g := ⟨_, rfl⟩
              rw [hxb] at kx
              rw [hxb]
              generalize w2.alloc (.cells #[.int .u8 (t.lit : Int), .int .i64 (t.dist : Int), .int .i64 (t.long : Int)] 72) = w3 at *
              have hr3 := hr.below hb3
              have ho3 := Arr.below ho hb3 (Blk.lt ho)
              have kk3 := Blk.below hkb hb3 (Blk.lt hkb)
              have hA3 := hA.below hb3
              clear hxb ctk hkb hA ho hr hb2 hb3 c41 c44
              have ctx := Blk.cells kx
              cases hf : t.fin with
              | true =>
                have hone : oneS room all ⟨a1, some q, false, win1, told1⟩ = .ok ⟨m, none, q.last, win1, told1⟩ := HT.out.1.trans (tok_end hf)
                have HRR := Lib.hid (And.intro ((run_go HW.out.2.1.ok rfl hone).symm.trans HW.out.2.2.1) (And.intro (HW.out.2.1.one hone) (one_ok HW.out.2.1.ok hone).2.1))
                clear hone ctx
                have ct4 : w3.cell? ⟨ob, 41, none⟩ = some (.bool true) := Arr.cell ho3 41 (by omega)
                have fx4 := Blk.frozen ho3 41
                have lt4 := Blk.lt ho3
                go_upto_region 24 with fail
                have ho4 := (Arr.set ho3 41 (.bool false)).congr (fun i _ => swH_open false i)
                have g4 := only_set (only_self w3 ob) 41 (.bool false)
                have hr4 := hr3.sob ho3 g4
                have kk4 := Blk.only kk3 g4 (Ne.symm hr3.ne.2.2.2.2)
                generalize w3.setCell ⟨ob, 41, none⟩ (.bool false) = w4 at *
                clear ct4 fx4 lt4 ho3 g4 hr3 kk3 hA3 kx
                have ctk : w4.cell? ⟨kb, 1, none⟩ = some (.bool q.last) := Blk.cell kk4 1
                have ct5 : w4.cell? ⟨ob, 44, none⟩ = some (.bool false) := Arr.cell ho4 44 (by omega)
                have fx5 := Blk.frozen ho4 44
                have lt5 := Blk.lt ho4
                go_wp2_with fail
                have ho5 := (Arr.set ho4 44 (.bool q.last)).congr (fun i hi => swH_over q.last i hi)
                have g5 := only_set (only_self w4 ob) 44 (.bool q.last)
                have hr5 := hr4.sob ho4 g5
                have kk5 := Blk.only kk4 g5 (Ne.symm hr4.ne.2.2.2.2)
                go_roundg (muS all ⟨m, none, q.last, win1, told1⟩)
                case measure => have h1 := HRR.out.2.2; have h2 := HW.out.1; omega
                case rel => exact ⟨⟨m, none, q.last, win1, told1⟩, rfl, rfl, ⟨Bw1, cw1, T1, nt1, ct1, nw1, rfl, hr5, HW.out.2.2.2.1, HW.out.2.2.2.2, ho5, _, _, _, _, _, _, _, _, _, kk5⟩, HRR.out.2.1, HRR.out.1⟩
              | false =>
                have c43 : w3.cell? ⟨ob, 43, none⟩ = some (.slice Bw1 nw1 cw1) := Arr.cell ho3 43 (by omega)
                by_cases hd : nw1 < t.dist
                · have hone : oneS room all ⟨a1, some q, false, win1, told1⟩ = .error 60 := HT.out.1.trans (tok_far hf (by show win1.length < t.dist; rw [← HW.out.2.2.2.1]; exact hd))
                  have HRR := Lib.hid (HW.out.2.2.1.symm.trans (run_err rfl hone (by decide)))
                  have ed : decide (nw1 < t.dist) = true := decide_eq_true hd
                  clear hone hd
                  go_wp2_with (refine store_over rfl 32 (.tmp 4) (.tmp 86) (f := swZ) (f0 := swZ) rfl rfl rfl hr3.br sw_size (fun i _ => swH_one _ _ _ _ _ _ _ _ _ _ _ _ _ i) ?_; intro wz kz gz)
                  have hbz := hr3.only
                  refine bodyPost_ret (results_four Tryz.results21 _ _ rb 32 _ _ _ _ _ rfl rfl rfl rfl kz Tryz.underlying32 rfl (by rw [cellsOf_size]; exact sw_size)) rfl ?_
                  rw [HRR.out]
                  exact ⟨Below.then_only hbz gz hbz.size HRB.out, rfl⟩
                · have ed : decide (nw1 < t.dist) = false := decide_eq_false hd
                  have HD := Lib.hid hd
                  clear hd
                  have ltx := Blk.lt kx
                  go_upto_if 92 with fail
                  go_cut [20] (fun v20 wx => ∃ (C : Option Addr) (d mn : Nat), v20 = .slice C mn d ∧ mn = (moreT win1 t).length ∧ Rd wx C (u8s (moreT win1 t)) ∧ Below w3.heap.size w3 wx ∧ (0 < (u8s (moreT win1 t)).length → ∀ ad, C = some ad → w3.heap.size ≤ ad.block))
                  case first =>
                    have hb4 : Below w3.heap.size w3 (w3.alloc (.cells #[.int .u8 (t.lit : Int)] 5)) := (Below.refl _ _).alloc (Nat.le_refl _) _
                    by_cases hlg : t.long = 0
                    · have el : decide (0 < t.long) = false := decide_eq_false (by omega)
                      have el2 : ¬ 0 < t.long := by omega
                      have HL0 := Lib.hid hlg
                      clear hlg
                      go_wp2_with fail
                      go_meet
                      case rel => exact ⟨some ⟨w3.heap.size, 0, none⟩, 1, 1, rfl, by rw [moreT_length, if_pos HL0.out], by unfold moreT; rw [if_pos HL0.out]; exact Rd.new _ _ _ _ rfl, hb4, fun _ ad e => by cases e; exact Nat.le_refl _⟩
                    · have el : decide (0 < t.long) = true := decide_eq_true (by omega)
                      have el2 : 0 < t.long := by omega
                      have hwb := HW.out.2.1.winb
                      have hst := HT.out.2
                      have HCP := Lib.hid (copied06_any Bw1 nw1 cw1 win1 t.dist t.long _ (hr3.rwin.below hb4) hwb.1 HW.out.2.2.2.1 (by have := hwb.2; have := HW.out.2.2.2.1; dsimp only at *; omega) (hst.both hlg).2 (by have := HD.out; omega) (by have := hst.long; omega))
                      have HL0 := Lib.hid hlg
                      have cx1 := Blk.cells (Blk.alloc kx (.cells #[.int .u8 (t.lit : Int)] 5))
                      have c43' : (w3.alloc (.cells #[.int .u8 (t.lit : Int)] 5)).cell? ⟨ob, 43, none⟩ = some (.slice Bw1 nw1 cw1) := Arr.cell (Arr.alloc ho3 _) 43 (by omega)
                      clear hlg hwb hst ctx c43
                      generalize w3.alloc (.cells #[.int .u8 (t.lit : Int)] 5) = w4 at *
                      go_wp2_with (go_at_call 35; refine HCP.out.mono ?_; rintro e w5 ⟨hb5, C, d, rfl, hd, hrc, hlc⟩)
                      go_meet
                      case rel => exact ⟨C, d, t.long, rfl, by rw [moreT_length, if_neg HL0.out], by unfold moreT; rw [if_neg HL0.out]; exact hrc, hb4.trans (hb5.mono hb4.size), by unfold moreT; rw [if_neg HL0.out]; exact fun h ad e => Nat.le_trans hb4.size (hlc h ad e)⟩
                  case rest =>
                    obtain ⟨C, d, mn, rfl, hmn, hC, hb5, hlC⟩ := hcut
                    have apC : ApT (.slice T1 nt1 ct1) ob kb C (u8s (moreT win1 t)) := ApT.new hlC (Blk.lt ho3) (Blk.lt kk3) (own_lt hr3.told)
                    have hr5 := hr3.below hb5
                    have ho5 := Arr.below ho3 hb5 (Blk.lt ho3)
                    have kk5 := Blk.below kk3 hb5 (Blk.lt kk3)
                    have hA5 := hA3.below hb5
                    clear hr3 ho3 kk3 hA3 hb5 kx ctx c43 ltx
                    have hmn2 : mn ≤ 258 := by have := HT.out.2.long; rw [hmn, moreT_length]; split <;> omega
                    have hnt : nt1 ≤ 131072 := by have h1 := HW.out.2.1.inv.room; have h2 := HW.out.2.1.room_; have h3 := HW.out.2.1.most_; have h4 := hr5.nt_; dsimp only at h1; omega
                    have hmm : made ≤ 131072 ∧ most ≤ 131072 := by have h2 := HW.out.2.1.room_; have h3 := HW.out.2.1.most_; omega
                    obtain ⟨S, hS⟩ : ∃ S, made + nt1 = S := ⟨_, rfl⟩
                    obtain ⟨S2, hS2⟩ : ∃ S2, S + mn = S2 := ⟨_, rfl⟩
                    have c1 : wc.cell? ⟨ob, 1, none⟩ = some (.int .i64 (S : Int)) := (Arr.cell ho5 1 (by omega)).trans (by rw [← hS]; rfl)
                    have c0 : wc.cell? ⟨ob, 0, none⟩ = some (.int .i64 (most : Int)) := Arr.cell ho5 0 (by omega)
                    have hw : wrap64 ((S : Int) + (mn : Int)) = (S2 : Int) := by rw [IntWalk.wrap64_in _ (by omega)]; omega
                    have HMN := Lib.hid (And.intro hmn (And.intro hS hS2))
                    clear hmn hS hS2
                    by_cases hfull : most < S2
                    · have hone : oneS room all ⟨a1, some q, false, win1, told1⟩ = .error 140 := HT.out.1.trans (tok_full hf (by show t.dist ≤ win1.length; have := HD.out; have := HW.out.2.2.2.1; omega) (by show room < told1.length + (moreT win1 t).length; have := HMN.out; have := hr5.nt_; have := HW.out.2.1.room_; omega))
                      have HRR := Lib.hid (HW.out.2.2.1.symm.trans (run_err rfl hone (by decide)))
                      have ed2 : decide (most < S2) = true := decide_eq_true hfull
                      clear hone hfull
                      go_wp2_with (refine store_over rfl 32 (.tmp 4) (.tmp 109) (f := swZ) (f0 := swZ) rfl rfl rfl hr5.br sw_size (fun i _ => swH_one _ _ _ _ _ _ _ _ _ _ _ _ _ i) ?_; intro wz kz gz)
                      have hbz := hr5.only
                      refine bodyPost_ret (results_four Tryz.results21 _ _ rb 32 _ _ _ _ _ rfl rfl rfl rfl kz Tryz.underlying32 rfl (by rw [cellsOf_size]; exact sw_size)) rfl ?_
                      rw [HRR.out]
                      exact ⟨Below.then_only hbz gz hbz.size HRB.out, rfl⟩
                    · have ed2 : decide (most < S2) = false := decide_eq_false hfull
                      have HFL := Lib.hid hfull
                      clear hfull
                      go_upto_region 32 with fail
                      have hone : oneS room all ⟨a1, some q, false, win1, told1⟩ = .ok ⟨m, some (bkDec q), false, lastL 32768 (win1 ++ moreT win1 t), told1 ++ moreT win1 t⟩ := HT.out.1.trans (tok_go hf (by show t.dist ≤ win1.length; have := HD.out; have := HW.out.2.2.2.1; omega) (by show told1.length + (moreT win1 t).length ≤ room; have := HMN.out; have := hr5.nt_; have := HW.out.2.1.room_; have := HFL.out; omega))
                      have HRR := Lib.hid (And.intro ((run_go HW.out.2.1.ok rfl hone).symm.trans HW.out.2.2.1) (And.intro (HW.out.2.1.one hone) (one_ok HW.out.2.1.ok hone).2.1))
                      have HIN := Lib.hid (show Calls Tryz.prog 36 #[.agg (cellsOf 2 (wnH 32768 (.slice Bw1 nw1 cw1))), .slice C mn d] wc _ from win06_any 32768 Bw1 C nw1 cw1 mn d win1 (moreT win1 t) wc hr5.rwin hC HW.out.2.2.2.1 HMN.out.1 (by have := HW.out.2.1.winb.2; have := HW.out.2.2.2.1; dsimp only at *; omega) (by omega))
                      clear hone c0 c1
                      obtain ⟨W2, hW2⟩ : ∃ W2, lastL 32768 (win1 ++ moreT win1 t) = W2 := ⟨_, rfl⟩
                      rw [hW2] at HRR HIN
                      obtain ⟨L2, hL2⟩ : ∃ L2, W2.length = L2 := ⟨_, rfl⟩
                      rw [hL2] at HIN
                      have HL2 := Lib.hid hL2
                      clear hW2 hL2
                      go_upto_region 33 with (first
                        | (refine load_sub rfl 30 (.tmp 110) rfl rfl ho5 2 (by omega) Tryz.underlying30 rfl win_size (wnH 32768 (.slice Bw1 nw1 cw1)) swH_wn ?_)
                        | (go_at_call 36; refine HIN.out.mono ?_; rintro e w6 ⟨hb6, E, dE, rfl, hdE, hrE, hlE⟩; have ho6 := Arr.below ho5 hb6 (Blk.lt ho5))
                        | (refine store_sub rfl 30 (.tmp 114) (.tmp 113) rfl rfl 2 (k := wnH 32768 (.slice E L2 dE)) rfl ho6 (by omega) win_size (fun i _ => wnH_one _ _ _ _ i) ?_; intro w7 ho7 g7))
                      replace ho7 := ho7.congr (fun i _ => swH_win (.slice E L2 dE) i)
                      have apE : ApT (.slice T1 nt1 ct1) ob kb E (u8s W2) := ApT.new hlE (Blk.lt ho5) (Blk.lt kk5) (own_lt hr5.told)
                      have hr7 := ((hr5.below hb6).swin hrE apE (fun hl ad e => by have h1 := hlE hl ad e; have h2 := Blk.lt hr5.br; omega)).sob ho6 g7
                      have hA7 := (hA5.below hb6).sob g7
                      have kk7 := Blk.only (Blk.below kk5 hb6 (Blk.lt kk5)) g7 (Ne.symm hr5.ne.2.2.2.2)
                      have hC7 := apC.rd1 (hC.below hb6) g7
                      clear ho5 ho6 hr5 hA5 kk5 hC hb6 hrE hlE apE g7
                      have c1 : w7.cell? ⟨ob, 1, none⟩ = some (.int .i64 (S : Int)) := (Arr.cell ho7 1 (by omega)).trans (by rw [← HMN.out.2.1]; rfl)
                      have f1 := Blk.frozen ho7 1
                      have l1 := Blk.lt ho7
                      go_upto_region 34 with fail
                      have ho8 := (Arr.set ho7 1 (.int .i64 (S2 : Int))).congr (fun i _ => swH_made (S2 : Int) i)
                      have g8 := only_set (only_self w7 ob) 1 (.int .i64 (S2 : Int))
                      have hr8 := hr7.sob ho7 g8
                      have hA8 := hA7.sob g8
                      have kk8 := Blk.only kk7 g8 (Ne.symm hr7.ne.2.2.2.2)
                      have hC8 := apC.rd1 hC7 g8
                      generalize w7.setCell ⟨ob, 1, none⟩ (.int .i64 (S2 : Int)) = w8 at *
                      clear c1 f1 l1 ho7 g8 hr7 hA7 kk7 hC7
                      obtain ⟨NT, hNT⟩ : ∃ NT, nt1 + mn = NT := ⟨_, rfl⟩
                      have HNT := Lib.hid hNT
                      clear hNT
                      go_upto_region 35 with (refine grow_at selem_u8 rfl (.tmp 121) (.tmp 122) rfl rfl hr8.told hr8.only.size rfl hC8 (by rw [u8s_length, ← HMN.out.1, Nat.mul_one]) (u8s_one _) NT HNT.out (u8s (told1 ++ moreT win1 t)) (u8s_append _ _).symm (by have := HNT.out; omega) (by omega) ?_; intro T2 ct2 w9 hT9 hg9 hat9)
                      have hr9 := hr8.stell hT9 hg9 hat9 (by rw [List.length_append, ← hr8.nt_, ← HMN.out.1, HNT.out])
                      have hA9 := hA8.stell hg9 hat9
                      have kk9 := Blk.grown kk8 hg9 (fun e => own_blk_ne hr8.told kk8 (by decide) e.symm)
                      have ho9a : Arr w9 ob 32 45 _ := Blk.grown ho8 hg9 (fun e => own_blk_ne hr8.told ho8 (by decide) e.symm)
                      have ho9 : FdO w9 ob most made (.slice A3 nA cA3) (a : Int) K NT (some (bkDec q)).isSome E L2 dE false := Arr.congr ho9a (fun i _ => by rw [show ((made + NT : Nat) : Int) = (S2 : Int) from by have := HMN.out; have := HNT.out; omega]; rfl)
                      clear ho9a hr8 hA8 kk8 ho8 hC8 hT9 hg9 hat9 apC
                      have ctk : w9.cell? ⟨kb, 2, none⟩ = some (.int .i64 (q.left : Int)) := Blk.cell kk9 2
                      by_cases hl0 : q.left = 0
                      · have el : decide (0 < q.left) = false := decide_eq_false (by omega)
                        have el2 : ¬ 0 < q.left := by omega
                        have HL0 := Lib.hid hl0
                        clear hl0
                        go_wp2_with fail
                        go_roundg (muS all ⟨m, some (bkDec q), false, W2, told1 ++ moreT win1 t⟩)
                        case measure => have h1 := HRR.out.2.2; have h2 := HW.out.1; omega
                        case rel =>
                          have e1 : ((bkDec q).left : Int) = (q.left : Int) := by show ((q.left - 1 : Nat) : Int) = _; rw [HL0.out]
                          exact ⟨⟨m, some (bkDec q), false, W2, told1 ++ moreT win1 t⟩, rfl, rfl, ⟨E, dE, T2, NT, ct2, L2, rfl, hr9, HL2.out.symm, hdE, ho9, D1, p1, y1, lo, D2, p2, y2, fa, by rw [e1]; exact kk9, hA9.dec⟩, HRR.out.2.1, HRR.out.1⟩
                      · have el : decide (0 < q.left) = true := decide_eq_true (by omega)
                        have el2 : 0 < q.left := by omega
                        have hql : q.left ≤ 65535 := by
                          have h := HW.out.2.1.ok.blk q rfl
                          by_cases h0 : q.kind = 0
                          · exact (h.zero h0).1
                          · have := (h.code h0).1; omega
                        have hw2 : wrap64 ((q.left : Int) - 1) = ((q.left - 1 : Nat) : Int) := (IntWalk.wrap64_in _ (by omega)).trans (by omega)
                        have fk := Blk.frozen kk9 2
                        have lk := Blk.lt kk9
                        clear hl0 hql
                        go_wp2_with fail
                        have gk := only_set (only_self w9 kb) 2 (.int .i64 ((q.left - 1 : Nat) : Int))
                        have kk10 := Blk.set_ kk9 2 (.int .i64 ((q.left - 1 : Nat) : Int))
                        have hr10 := hr9.skb kk9 gk
                        have hA10 := hA9.dec.skb gk
                        have ho10 := Blk.only ho9 gk hr9.ne.2.2.2.2
                        go_roundg (muS all ⟨m, some (bkDec q), false, W2, told1 ++ moreT win1 t⟩)
                        case measure => have h1 := HRR.out.2.2; have h2 := HW.out.1; omega
                        case rel => exact ⟨⟨m, some (bkDec q), false, W2, told1 ++ moreT win1 t⟩, rfl, rfl, ⟨E, dE, T2, NT, ct2, L2, rfl, hr10, HL2.out.symm, hdE, ho10, D1, p1, y1, lo, D2, p2, y2, fa, kk10, hA10⟩, HRR.out.2.1, HRR.out.1⟩
    case rest =>
      obtain ⟨⟨a1, k1, ov1, win1, told1⟩, rfl, ⟨Bw1, cw1, T1, nt1, ct1, nw1, rfl, hr, hnw, hcw, ho, hfb⟩, hn, hRR⟩ := hcut
      dsimp only at hr hnw ho hfb
      have hcl : ov1 = true → k1 = none := over_closed _ HN.out.2.ok (fun h => by cases h) _ (HR.out.trans hRR)
      have HZ := Lib.hid (And.intro hn (And.intro hRR (And.intro hcl (And.intro hnw hcw))))
      clear hn hRR hcl hnw hcw
      go_upto_region 38 with (first
        | (refine wpList_build_to rfl _ _ rfl (cellsOf 37 zeroV.F) (by kernel_rfl) ?_)
        | (refine store_sub rfl 28 (.tmp 132) (.tmp 131) rfl rfl 37 (k := zeroV.F) rfl ho (by omega) bk_size (fun i _ => bkH_one _ _ _ _ _ _ _ _ _ _ _ i) ?_; intro w2 ho2 g2))
      replace ho2 := ho2.congr (fun i _ => swH_blk zeroV.F i)
      have hr2 := hr.sob ho g2
      have hfb2 := hfb.sob g2 hr.ne.2.2.2.2
      clear hr ho hfb g2
      have c41 : w2.cell? ⟨ob, 41, none⟩ = some (.bool k1.isSome) := Arr.cell ho2 41 (by omega)
      go_upto_if 134 with fail
      go_cut [] (fun wx => ∃ (C1 : Option Addr) (m1 d1 : Nat) (C2 : Option Addr) (m2 d2 : Nat), FdR w wx sb rb ob kb F A8 N c8 all win1 told1 Bw1 T1 nt1 ct1 ∧ FdO wx ob most made (.slice A3 nA cA3) (a : Int) (bkO k1 (.slice C1 m1 d1) (.slice C2 m2 d2)) nt1 k1.isSome Bw1 nw1 cw1 ov1 ∧ OfO w wx k1 C1 m1 d1 C2 m2 d2)
      case first =>
        cases k1 with
        | none =>
          replace c41 : w2.cell? ⟨ob, 41, none⟩ = some (.bool false) := c41
          go_wp2_with fail
          go_meet
          case rel => exact ⟨none, 0, 0, none, 0, 0, hr2, ho2, World.ownsRow_nil _ _ _ _, World.ownsRow_nil _ _ _ _, rfl, rfl⟩
        | some q =>
          replace c41 : w2.cell? ⟨ob, 41, none⟩ = some (.bool true) := c41
          obtain ⟨D1, p1, y1, lo, D2, p2, y2, fa, hkb, hA⟩ := hfb2
          have HOF := Lib.hid (rof_any q (HZ.out.1.ok.blk q rfl) D1 p1 y1 lo D2 p2 y2 fa w2 hA.bd)
          have ctk := Blk.cells hkb
          go_wp2_with (first
            | (go_at_call 37; refine HOF.out.mono ?_; rintro e w3 ⟨hb3, C1, m1, d1, C2, m2, d2, rfl, hv, o1, o2⟩; have ho3 := Arr.below ho2 hb3 (Blk.lt ho2))
            | (refine store_sub rfl 28 (.tmp 137) (.tmp 136) rfl rfl 37 (k := bkC q (.slice C1 m1 d1) (.slice C2 m2 d2)) rfl ho3 (by omega) bk_size (fun i _ => bkH_one _ _ _ _ _ _ _ _ _ _ _ i) ?_; intro w4 ho4 g4))
          go_meet
          case rel => exact ⟨C1, m1, d1, C2, m2, d2, (hr2.below hb3).sob ho3 g4, ho4.congr (fun i _ => swH_blk (bkC q (.slice C1 m1 d1) (.slice C2 m2 d2)) i), own_far_base (own_only o1 ho3 (by decide) g4) hr2.only.size, own_far_base (own_only o2 ho3 (by decide) g4) hr2.only.size, hv.l1, hv.l2⟩
      case rest =>
        obtain ⟨C1, m1, d1, C2, m2, d2, hr3, ho3, hOf⟩ := hcut
        clear hr2 ho2 hfb2 c41
        cases ov1 with
        | true =>
          have hk1 := HZ.out.2.2.1 rfl
          subst hk1
          have c44 : wc.cell? ⟨ob, 44, none⟩ = some (.bool true) := Arr.cell ho3 44 (by omega)
          have c2 : wc.cell? ⟨ob, 2, none⟩ = some (.slice A3 nA cA3) := Arr.cell ho3 2 (by omega)
          have f2 := Blk.frozen ho3 2
          have l2 := Blk.lt ho3
          go_upto_region 42 with fail
          have ho4 := (Arr.set ho3 2 (.slice none 0 0)).congr (fun i _ => swH_in (.slice none 0 0) i)
          have g4 := only_set (only_self wc ob) 2 (.slice none 0 0)
          have hr4 := hr3.sob ho3 g4
          have hOf4 := hOf.sob ho3 g4
          generalize wc.setCell ⟨ob, 2, none⟩ (.slice none 0 0) = w4 at *
          clear hr3 hOf ho3 c44 c2 f2 l2 g4
          have f3 := Blk.frozen ho4 3
          have l3 := Blk.lt ho4
          have c3 : w4.cell? ⟨ob, 3, none⟩ = some (.int .i64 (a : Int)) := Arr.cell ho4 3 (by omega)
          go_upto_region 43 with fail
          have ho5 : Arr (w4.setCell ⟨ob, 3, none⟩ (.int .i64 0)) ob 32 45 (swH (most : Int) ((made + nt1 : Nat) : Int) (.slice none 0 0) 0 (bkO none (.slice C1 m1 d1) (.slice C2 m2 d2)) false 32768 (.slice Bw1 nw1 cw1) true) := (Arr.set ho4 3 (.int .i64 0)).congr (fun i _ => swH_at0 0 i)
          have g5 := only_set (only_self w4 ob) 3 (.int .i64 0)
          have hr5 := hr4.sob ho4 g5
          have hOf5 := hOf4.sob ho4 g5
          generalize w4.setCell ⟨ob, 3, none⟩ (.int .i64 0) = w5 at *
          clear hr4 hOf4 ho4 f3 l3 c3 g5
          obtain ⟨q7, hq7⟩ : ∃ q, (a1 + 7) / 8 = q := ⟨_, rfl⟩
          obtain ⟨u7, hu7⟩ : ∃ u, q7 - nA = u := ⟨_, rfl⟩
          have hb8 : a1 ≤ 8 * 100000 := by have h1 := HZ.out.1.ok.at_; have h2 := HZ.out.1.len; dsimp only at h1; omega
          have hnA : nA ≤ 600 := HS.out.2.nA
          have HE := Lib.hid (show wrap64 ((a1 : Int) + 7) = (a1 : Int) + 7 ∧ IntKind.i64.wrap (((a1 : Int) + 7).tdiv 8) = (q7 : Int) ∧ wrap64 ((q7 : Int) - (nA : Int)) = (q7 : Int) - (nA : Int) ∧ (if nA < q7 then (q7 : Int) - (nA : Int) else 0) = (u7 : Int) from ⟨IntWalk.wrap64_in _ (by omega), by rw [Int.tdiv_eq_ediv_of_nonneg (by omega), IntWalk.i64_in _ (by omega)]; omega, IntWalk.wrap64_in _ (by omega), by split <;> omega⟩)
          have HU := Lib.hid (show usedN nA n ⟨a1, none, true, win1, told1⟩ = u7 by rw [← hu7, ← hq7]; rfl)
          clear hq7 hu7 hb8 hnA
          refine wp_region_turn (phase 10 (fun w' => Arr w' rb 32 45 swZ ∧ Arr w' ob 32 45 (swH (most : Int) ((made + nt1 : Nat) : Int) (.slice none 0 0) 0 (bkO none (.slice C1 m1 d1) (.slice C2 m2 d2)) false 32768 (.slice Bw1 nw1 cw1) true) ∧ Arr w' sb 32 45 F ∧ w5.grownBy w' (some rb)) (fun w' => Arr w' rb 32 45 (swH (most : Int) ((made + nt1 : Nat) : Int) (.slice none 0 0) 0 (bkO none (.slice C1 m1 d1) (.slice C2 m2 d2)) false 32768 (.slice Bw1 nw1 cw1) true) ∧ Arr w' ob 32 45 (swH (most : Int) ((made + nt1 : Nat) : Int) (.slice none 0 0) 0 (bkO none (.slice C1 m1 d1) (.slice C2 m2 d2)) false 32768 (.slice Bw1 nw1 cw1) true) ∧ Arr w' sb 32 45 F ∧ w5.grownBy w' (some rb))) (by kernel_rfl) (by kernel_rfl) (by kernel_rfl) (phase_new ⟨Arr.drew hr5.br, Arr.drew ho5, Arr.drew hr5.bs, only_drew (only_self _ _)⟩) ?_
          refine turn_read (by decide) rfl (fun wx h => run_row 32 (.tmp 10) rfl rfl (h.elim (·.2.1) (·.2.1)) Tryz.underlying32 rfl sw_size) (fun K hK => ?_)
          go_simp
          refine hK _ ?_
          clear hK K
          refine turn_read (v := .slice T1 nt1 ct1) (by decide) rfl (fun wx h => ?_) (fun K hK => ?_)
          · go_simp
          go_simp
          refine hK _ ?_
          clear hK K
          refine turn_read (v := .int .i64 (a1 : Int)) (by decide) rfl (fun wx h => ?_) (fun K hK => ?_)
          · go_simp
          go_simp
          refine hK _ ?_
          clear hK K
          refine turn_read (v := .int .i64 ((a1 : Int) + 7)) (by decide) rfl (fun wx h => ?_) (fun K hK => ?_)
          · go_simp; first | exact HE.out.1 | exact (IntWalk.i64_left _).trans HE.out.1
          go_simp
          refine hK _ ?_
          clear hK K
          refine turn_read (v := .int .i64 (q7 : Int)) (by decide) rfl (fun wx h => ?_) (fun K hK => ?_)
          · go_simp; exact HE.out.2.1
          go_simp
          refine hK _ ?_
          clear hK K
          refine turn_read (v := .pointer (some ⟨sb, 2, none⟩)) (by decide) rfl (fun wx h => ?_) (fun K hK => ?_)
          · go_simp
          go_simp
          refine hK _ ?_
          clear hK K
          refine turn_read (v := .slice A nA cA) (by decide) rfl (fun wx h => ?_) (fun K hK => ?_)
          · have cs : wx.cell? ⟨sb, 2, none⟩ = some (.slice A nA cA) := (Arr.cell (h.elim (·.2.2.1) (·.2.2.1)) 2 (by omega)).trans (by rw [← HFF.out.1]; rfl); go_simp
          go_simp
          refine hK _ ?_
          clear hK K
          refine turn_read (v := .int .i64 (nA : Int)) (by decide) rfl (fun wx h => ?_) (fun K hK => ?_)
          · go_simp
          go_simp
          refine hK _ ?_
          clear hK K
          refine turn_read (v := .int .i64 ((q7 : Int) - (nA : Int))) (by decide) rfl (fun wx h => ?_) (fun K hK => ?_)
          · go_simp; first | exact HE.out.2.2.1 | exact (IntWalk.i64_left _).trans HE.out.2.2.1
          go_simp
          refine hK _ ?_
          clear hK K
          refine turn_read (v := .int .i64 (u7 : Int)) (by decide) rfl (fun wx h => ?_) (fun K hK => ?_)
          · go_simp; exact HE.out.2.2.2
          go_simp
          refine hK _ ?_
          clear hK K
          refine turn_over rfl 32 (.tmp 4) (.tmp 142) rfl rfl rfl (fun wx h => ⟨_, h.1⟩) sw_size (fun i _ => fd_one most made 0 nt1 nw1 none 0 _ none C1 m1 d1 C2 m2 d2 Bw1 cw1 _ i) (fun wx wy h e2 e3 => ⟨e2, Blk.only h.2.1 e3 (Ne.symm hr5.ne.2.2.1), Blk.only h.2.2.1 e3 HSR.out, only_trans h.2.2.2 e3⟩) (fun K hK => ?_)
          go_simp
          refine hK _ ?_
          clear hK K
          refine turn_read (v := .slice T1 nt1 ct1) (by decide) rfl (fun wx h => ?_) (fun K hK => ?_)
          · go_simp
          go_simp
          refine hK _ ?_
          clear hK K
          refine turn_read (v := .int .i64 (u7 : Int)) (by decide) rfl (fun wx h => ?_) (fun K hK => ?_)
          · go_simp
          go_simp
          refine hK _ ?_
          clear hK K
          refine turn_read (v := .int .i64 0) (by decide) rfl (fun wx h => ?_) (fun K hK => ?_)
          · go_simp
          go_simp
          refine hK _ ?_
          clear hK K
          refine turn_nil ?_
          intro L wz hL hC
          obtain ⟨kz, kob, ksb, gz⟩ := phase_end hC (hL 10 (by decide))
          clear hL hC kob ksb
          go_wp2_with fail
          refine bodyPost_ret (results_four Tryz.results21 _ _ rb 32 _ _ _ _ _ rfl rfl rfl rfl kz Tryz.underlying32 rfl (by rw [cellsOf_size]; exact sw_size)) rfl ?_
          rw [HZ.out.2.1]
          have hwz : Rd wz Bw1 (u8s win1) := rd_row hr5.rwin gz fun hl ad e e' => by injection e' with e'; have := hr5.apr hl ad e; omega
          refine ⟨⟨C1, m1, d1, C2, m2, d2, Bw1, nw1, cw1, T1, nt1, ct1⟩, none, 0, ?_, ⟨Below.then_only hr5.only gz hr5.only.size HRB.out, fd_ok (base := w.heap.size) HZ.out.1 (World.ownsRow_nil _ _ _ _) hwz HZ.out.2.2.2.1 HZ.out.2.2.2.2 (hOf5.sob hr5.br gz), own_only hr5.told hr5.br (by decide) gz, hr5.nt_, World.ownsRow_nil _ _ _ _, hOf5.sob hr5.br gz, fun hl ad e => Nat.le_of_lt (Nat.lt_of_le_of_lt HRB.out (hr5.apr hl ad e))⟩⟩
          have hG : (fedV most made all ⟨a1, none, true, win1, told1⟩ ⟨C1, m1, d1, C2, m2, d2, Bw1, nw1, cw1, T1, nt1, ct1⟩ none (leftB all ⟨a1, none, true, win1, told1⟩).length 0).F = (swH (most : Int) ((made + nt1 : Nat) : Int) (.slice none 0 0) 0 (bkO none (.slice C1 m1 d1) (.slice C2 m2 d2)) false 32768 (.slice Bw1 nw1 cw1) true) := by
            show swH (most : Int) ((made + told1.length : Nat) : Int) (.slice none 0 0) ((0 : Nat) : Int) (bkV none ⟨C1, m1, d1, C2, m2, d2, Bw1, nw1, cw1, T1, nt1, ct1⟩).F false 32768 (.slice Bw1 nw1 cw1) true = _
            rw [bkV_F, ← hr5.nt_]
            rfl
          rw [hG, HU.out]
          rfl
        | false =>
          have hk8 : a1 / 8 ≤ N := by have h := HZ.out.1.ok.at_; rw [← HN.out.1] at h; dsimp only at h; omega
          have c44 : wc.cell? ⟨ob, 44, none⟩ = some (.bool false) := Arr.cell ho3 44 (by omega)
          have hcA := own_cap hr3.all
          have HWC := Lib.hid hr3.only.size
          obtain ⟨NL, hNL⟩ : ∃ NL, N - a1 / 8 = NL := ⟨_, rfl⟩
          have HNL := Lib.hid (And.intro hNL (show (all.drop (a1 / 8)).length = NL by rw [List.length_drop, ← HN.out.1]; exact hNL))
          clear hNL
          go_upto_region 45 with (first
            | (refine tailsB rfl (.tmp 152) (.tmp 154) rfl Tryz.underlying22 (by kernel_rfl) rfl rfl (a1 / 8) (by omega) hk8 hcA ?_; intro A' hA' hAB; have hrA' : Rd wc A' (u8s (all.drop (a1 / 8))) := (by have h := hA' _ _ (own_rd hr3.all) (by rw [u8s_length, ← HN.out.1, Nat.mul_one]); rwa [Nat.mul_one, dr_u8s] at h))
            | (refine grow selem_u8 rfl (.const (.slice none 0 0)) (.tmp 155) rfl rfl (Builds.nil' (W := wc) (Below.refl _ _) _ _) rfl hrA' (by rw [u8s_length, HNL.out.2, ← HNL.out.1, Nat.mul_one]) (u8s_one _) NL (by have := HNL.out.1; omega) (u8s (all.drop (a1 / 8))) rfl (by have := HNL.out.1; omega) (by omega) ?_; intro I ci w2 hB2 hg2; have ho2 := Arr.below ho3 hB2.1 (Blk.lt ho3); have f2 := Blk.frozen ho2 2; have l2 := Blk.lt ho2; have c2 : w2.cell? ⟨ob, 2, none⟩ = some (.slice A3 nA cA3) := Arr.cell ho2 2 (by omega)))
          have ho4 := (Arr.set ho2 2 (.slice I NL ci)).congr (fun i _ => swH_in (.slice I NL ci) i)
          have g4 := only_set (only_self w2 ob) 2 (.slice I NL ci)
          have hr4 := (hr3.below hB2.1).sob ho2 g4
          have hOf4 := (hOf.below hB2.1).sob ho2 g4
          have oI4 := own_only hB2.2 ho2 (by decide) g4
          generalize w2.setCell ⟨ob, 2, none⟩ (.slice I NL ci) = w4 at *
          clear hr3 hOf ho3 c44 hcA hA' hAB hrA' hB2 hg2 ho2 f2 l2 c2 g4
          have f3 := Blk.frozen ho4 3
          have l3 := Blk.lt ho4
          have c3 : w4.cell? ⟨ob, 3, none⟩ = some (.int .i64 (a : Int)) := Arr.cell ho4 3 (by omega)
          go_upto_region 46 with fail
          have ho5 := (Arr.set ho4 3 (.int .i64 ((a1 : Int) % 8))).congr (fun i _ => swH_at0 ((a1 : Int) % 8) i)
          have g5 := only_set (only_self w4 ob) 3 (.int .i64 ((a1 : Int) % 8))
          have hr5 := hr4.sob ho4 g5
          have hOf5 := hOf4.sob ho4 g5
          have oI5 := own_only oI4 ho4 (by decide) g5
          generalize w4.setCell ⟨ob, 3, none⟩ (.int .i64 ((a1 : Int) % 8)) = w5 at *
          clear hr4 hOf4 oI4 ho4 f3 l3 c3 g5
          go_wp2_with (first
            | (refine load_arr rfl 32 (.tmp 10) rfl rfl ho5 Tryz.underlying32 rfl sw_size ?_)
            | (refine store_over rfl 32 (.tmp 4) (.tmp 161) (f0 := swZ) rfl rfl rfl hr5.br sw_size (fun i _ => fd_one most made NL nt1 nw1 I ci _ k1 C1 m1 d1 C2 m2 d2 Bw1 cw1 _ i) ?_; intro wz kz gz))
          refine bodyPost_ret (results_four Tryz.results21 _ _ rb 32 _ _ _ _ _ rfl rfl rfl rfl kz Tryz.underlying32 rfl (by rw [cellsOf_size]; exact sw_size)) rfl ?_
          rw [HZ.out.2.1]
          have hwz : Rd wz Bw1 (u8s win1) := rd_row hr5.rwin gz fun hl ad e e' => by injection e' with e'; have := hr5.apr hl ad e; omega
          have oz := own_only oI5 hr5.br (by decide) gz
          have hlb : leftB all ⟨a1, k1, false, win1, told1⟩ = all.drop (a1 / 8) := rfl
          refine ⟨⟨C1, m1, d1, C2, m2, d2, Bw1, nw1, cw1, T1, nt1, ct1⟩, I, ci, ?_, ⟨Below.then_only hr5.only gz hr5.only.size HRB.out, fd_ok HZ.out.1 (by rw [hlb, HNL.out.2]; exact oz) hwz HZ.out.2.2.2.1 HZ.out.2.2.2.2 (hOf5.sob hr5.br gz), own_only hr5.told hr5.br (by decide) gz, hr5.nt_, own_far_base (by rw [hlb, HNL.out.2]; exact oz) HWC.out, hOf5.sob hr5.br gz, fun hl ad e => Nat.le_of_lt (Nat.lt_of_le_of_lt HRB.out (hr5.apr hl ad e))⟩⟩
          have hG : (fedV most made all ⟨a1, k1, false, win1, told1⟩ ⟨C1, m1, d1, C2, m2, d2, Bw1, nw1, cw1, T1, nt1, ct1⟩ I (leftB all ⟨a1, k1, false, win1, told1⟩).length ci).F = swH (most : Int) ((made + nt1 : Nat) : Int) (.slice I NL ci) ((a1 : Int) % 8) (bkO k1 (.slice C1 m1 d1) (.slice C2 m2 d2)) k1.isSome 32768 (.slice Bw1 nw1 cw1) false := by
            show swH (most : Int) ((made + told1.length : Nat) : Int) (.slice I (all.drop (a1 / 8)).length ci) ((a1 % 8 : Nat) : Int) (bkV k1 ⟨C1, m1, d1, C2, m2, d2, Bw1, nw1, cw1, T1, nt1, ct1⟩).F k1.isSome 32768 (.slice Bw1 nw1 cw1) false = _
            rw [bkV_F, HNL.out.2, ← hr5.nt_, show ((a1 % 8 : Nat) : Int) = (a1 : Int) % 8 from by omega]
          rw [hG]
          rfl
end Go.Proofs.YtahboomghjdjhaaGreat

/-
  The document's streams: Feed.
-/
namespace Go.Proofs.YtahboomghjdjhaaGreat
open Go.RowKit

set_option maxRecDepth 100000 in
set_option maxHeartbeats 4000000 in
theorem rfeed_any {s : Wv} {w : World} (hs : s.ok w) (hkb : s.bk.kind ≤ 255) {B : Option Addr} {n c : Nat} {b : List Nat} (hB : Rd w B (u8s b)) (hn : n = b.length) (hm : n ≤ 90000) (hx : ∀ x ∈ b, x < 256) {o : Except Nat Ss} (h : FeedIs s b o) :
    Calls Tryz.prog 9 #[.agg (cellsOf 45 s.F), .slice B n c] w fun r w' => RFed w w' s.most.toNat s.made.toNat s.nA n (s.lA ++ b) o r := by
  have HM := Lib.hid fun wx (h : Below w.heap.size w wx) => rmay14_any s wx (hs.below h) hkb
  have HFD := Lib.hid fun wx (h : Below w.heap.size w wx) (k : Option Bk) (hov : s.over = false) (hk : CkIs s k) => rfed_any s wx (hs.below h) B n c b (hB.below h) hn hm hov k hk s.most.toNat s.made.toNat s.at0.toNat (by have := hk.most; omega) (by have := hk.made; omega) (by have := hk.at0; omega) hx
  have hb0 : Below w.heap.size w ((w.alloc (.cells (cellsOf 45 s.F) 32)).alloc (.cells (cellsOf 45 swZ) 32)) := ((Below.refl _ _).alloc (Nat.le_refl _) _).alloc (by simp) _
  have k1 : Arr ((w.alloc (.cells (cellsOf 45 s.F) 32)).alloc (.cells (cellsOf 45 swZ) 32)) w.heap.size 32 45 s.F := Arr.alloc (Blk.new _ _ _) _
  have k2 : Arr ((w.alloc (.cells (cellsOf 45 s.F) 32)).alloc (.cells (cellsOf 45 swZ) 32)) (w.heap.size + 1) 32 45 swZ := Blk.new' _ _ _ _ (by simp)
  have h44 : s.F 44 = .bool s.over := rfl
  clear hs hB
  go_enter Tryz.func9, Tryz.ntmps9
  go_upto_region 1 with fail
  change Code.wp _ _ _ _ ((w.alloc (.cells (cellsOf 45 s.F) 32)).alloc (.cells (cellsOf 45 swZ) 32))
  generalize (w.alloc (.cells (cellsOf 45 s.F) 32)).alloc (.cells (cellsOf 45 swZ) 32) = w0 at *
  obtain ⟨rb, hrb⟩ : ∃ g, w.heap.size + 1 = g := ⟨_, rfl⟩
  rw [hrb] at k2
  rw [hrb]
  have HRB := Lib.hid (show w.heap.size ≤ rb ∧ w.heap.size < rb from ⟨by omega, by omega⟩)
  clear hrb
  have hone : ∀ i, (s.F i).oneCell' = true := fun i => swH_one _ _ _ _ _ _ _ _ _ _ _ _ _ i
  have HO := Lib.hid h
  have HHN := Lib.hid (And.intro hn hm)
  obtain ⟨ov, hov⟩ : ∃ ov, s.over = ov := ⟨_, rfl⟩
  rw [hov] at h44
  generalize hF : s.F = F at *
  have HF := Lib.hid (And.intro hF hov)
  clear hF hn hm hov hone
  rcases h with ⟨hck, rfl⟩ | ⟨hck, hov, rfl⟩ | ⟨hck, hov, k, hk, ho⟩
  · rw [hck] at HM
    clear HFD
    go_wp2_with (first
      | (refine load_arr rfl 32 (.tmp 2) rfl rfl k1 Tryz.underlying32 rfl sw_size ?_)
      | (go_at_call 20; refine (HM.out _ hb0).mono ?_; rintro e w2 ⟨rfl, hb2⟩; have k22 := Arr.below k2 hb2 (Blk.lt k2))
      | (refine store_over rfl 32 (.tmp 4) (.tmp 15) (f := swZ) (f0 := swZ) rfl rfl rfl k22 sw_size (fun i _ => swH_one _ _ _ _ _ _ _ _ _ _ _ _ _ i) ?_; intro wz kz gz))
    have hbz := hb0.trans (hb2.mono hb0.size)
    refine bodyPost_ret (results_four Tryz.results9 _ _ rb 32 _ _ _ _ _ rfl rfl rfl rfl kz Tryz.underlying32 rfl (by rw [cellsOf_size]; exact sw_size)) rfl ?_
    exact ⟨Below.then_only hbz gz hbz.size HRB.out.1, rfl⟩
  · rw [hck] at HM
    obtain rfl : ov = true := HF.out.2.symm.trans hov
    clear HFD
    go_upto_region 3 with (first
      | (refine load_arr rfl 32 (.tmp 2) rfl rfl k1 Tryz.underlying32 rfl sw_size ?_)
      | (go_at_call 20; refine (HM.out _ hb0).mono ?_; rintro e w2 ⟨rfl, hb2⟩; have k12 := Arr.below k1 hb2 (Blk.lt k1); have k22 := Arr.below k2 hb2 (Blk.lt k2)))
    have c44 : w2.cell? ⟨w.heap.size, 44, none⟩ = some (.bool true) := (Arr.cell k12 44 (by omega)).trans (congrArg some h44)
    go_wp2_with (refine store_over rfl 32 (.tmp 4) (.tmp 18) (f := swZ) (f0 := swZ) rfl rfl rfl k22 sw_size (fun i _ => swH_one _ _ _ _ _ _ _ _ _ _ _ _ _ i) ?_; intro wz kz gz)
    have hbz := hb0.trans (hb2.mono hb0.size)
    refine bodyPost_ret (results_four Tryz.results9 _ _ rb 32 _ _ _ _ _ rfl rfl rfl rfl kz Tryz.underlying32 rfl (by rw [cellsOf_size]; exact sw_size)) rfl ?_
    exact ⟨Below.then_only hbz gz hbz.size HRB.out.1, rfl⟩
  · rw [hck] at HM
    obtain rfl : ov = false := HF.out.2.symm.trans hov
    have HFE := Lib.hid fun wx (h : Below w.heap.size w wx) => HFD.out wx h k hov hk
    clear HFD
    have e1 : decide ((131072 : Int) < (n : Int)) = false := decide_eq_false (by have := HHN.out.2; omega)
    rw [← ho] at HFE
    clear ho hk hov hck
    go_upto_region 7 with (first
      | (refine load_arr rfl 32 (.tmp 2) rfl rfl k1 Tryz.underlying32 rfl sw_size ?_)
      | (go_at_call 20; refine (HM.out _ hb0).mono ?_; rintro e w2 ⟨rfl, hb2⟩; have k12 := Arr.below k1 hb2 (Blk.lt k1); have k22 := Arr.below k2 hb2 (Blk.lt k2); have c44 : w2.cell? ⟨w.heap.size, 44, none⟩ = some (.bool false) := (Arr.cell k12 44 (by omega)).trans (congrArg some h44)))
    have hb02 := hb0.trans (hb2.mono hb0.size)
    have HFE2 := Lib.hid (HFE.out _ hb02)
    clear HFE hb0 hb2 k1 k2 HM
    cases o with
    | error E =>
      go_wp2_with (first
        | (refine load_arr rfl 32 (.tmp 2) rfl rfl k12 Tryz.underlying32 rfl sw_size ?_)
        | (go_at_call 21; refine HFE2.out.mono ?_; rintro e w3 ⟨hb3, rfl⟩)
        | (refine store_over rfl 32 (.tmp 8) (.tmp 27) (f := swZ) (f0 := swZ) rfl rfl rfl (Blk.new _ _ _) sw_size (fun i _ => swH_one _ _ _ _ _ _ _ _ _ _ _ _ _ i) ?_; intro w4 k4 g4; have hb34 := box_sw hb3 g4; have k24 := Arr.below k22 hb34 (Blk.lt k22))
        | (refine load_arr rfl 32 (.tmp 8) rfl rfl k4 Tryz.underlying32 rfl sw_size ?_)
        | (refine store_over rfl 32 (.tmp 4) (.tmp 31) (f := swZ) (f0 := swZ) rfl rfl rfl k24 sw_size (fun i _ => swH_one _ _ _ _ _ _ _ _ _ _ _ _ _ i) ?_; intro wz kz gz))
      have hbz := hb02.trans (hb34.mono hb02.size)
      refine bodyPost_ret (results_four Tryz.results9 _ _ rb 32 _ _ _ _ _ rfl rfl rfl rfl kz Tryz.underlying32 rfl (by rw [cellsOf_size]; exact sw_size)) rfl ?_
      exact ⟨Below.then_only hbz gz hbz.size HRB.out.1, rfl⟩
    | ok s1 =>
      go_wp2_with (first
        | (refine load_arr rfl 32 (.tmp 2) rfl rfl k12 Tryz.underlying32 rfl sw_size ?_)
        | (go_at_call 21; refine HFE2.out.mono ?_; rintro e w3 ⟨v, I, ci, rfl, hM⟩; have hone := wv_one (fedV s.most.toNat s.made.toNat (s.lA ++ b) s1 v I (leftB (s.lA ++ b) s1).length ci); generalize hXF : (fedV s.most.toNat s.made.toNat (s.lA ++ b) s1 v I (leftB (s.lA ++ b) s1).length ci).F = XF at *)
        | (refine store_over rfl 32 (.tmp 8) (.tmp 27) (f := XF) (f0 := swZ) rfl rfl rfl (Blk.new _ _ _) sw_size (fun i _ => hone i) ?_; intro w4 k4 g4; have hb34 := box_sw (Below.refl _ _) g4; have k24 := Arr.below (Arr.below k22 hM.only (Blk.lt k22)) hb34 (Nat.lt_of_lt_of_le (Blk.lt k22) hM.only.size))
        | (refine load_arr rfl 32 (.tmp 8) rfl rfl k4 Tryz.underlying32 rfl sw_size ?_)
        | (refine store_over rfl 32 (.tmp 4) (.tmp 31) (f := XF) (f0 := swZ) rfl rfl rfl k24 sw_size (fun i _ => hone i) ?_; intro wz kz gz))
      refine bodyPost_ret (results_four Tryz.results9 _ _ rb 32 _ _ _ _ _ rfl rfl rfl rfl kz Tryz.underlying32 rfl (by rw [cellsOf_size]; exact sw_size)) rfl ?_
      exact ⟨v, I, ci, by rw [hXF]; rfl, (hM.below hb34).over hb02 k24 gz HRB.out.1 (Blk.lt k22)⟩
end Go.Proofs.YtahboomghjdjhaaGreat

/-
  Streams fed, by the program and by the document: what both answer. No walk.
-/
namespace Go.Proofs.YtahboomghjdjhaaGreat
open Go.RowKit

theorem bkH_turn {a a' : Int} {b b' : Bool} {c c' : Int} {f f' g g' : Nat → Int} {v1 v2 : Value} (u1 u2 : Value) {i : Nat} (h : bkH a b c f v1 g v2 i = bkH a' b' c' f' v1 g' v2 i) : bkH a b c f u1 g u2 i = bkH a' b' c' f' u1 g' u2 i := by
  unfold bkH at *
  by_cases h3 : i < 3
  · rw [if_pos h3, if_pos h3] at *; exact h
  · rw [if_neg h3, if_neg h3] at *
    by_cases h20 : i < 20
    · rw [if_pos h20, if_pos h20] at *
      unfold treeH at *
      by_cases h16 : i - 3 < 16
      · rw [if_pos h16, if_pos h16] at *; exact h
      · rw [if_neg h16, if_neg h16]
    · rw [if_neg h20, if_neg h20] at *
      unfold treeH at *
      by_cases h16 : i - 20 < 16
      · rw [if_pos h16, if_pos h16] at *; exact h
      · rw [if_neg h16, if_neg h16]
theorem CkIs.put {s : Wv} {k : Option Bk} (h : CkIs s k) (A : Option Addr) (cA : Nat) (C1 : Option Addr) (d1 : Nat) (C2 : Option Addr) (d2 : Nat) (Bw : Option Addr) (cw : Nat) : CkIs (s.put A cA C1 d1 C2 d2 Bw cw) k := by
  refine ⟨h.op, fun i hi => ?_, h.blk, h.zero, h.most, h.made, h.at0, h.nA, h.in_, h.over, h.size, h.nw⟩
  have h0 := h.cells i hi
  cases k with
  | none => exact bkH_turn _ _ h0
  | some q => exact bkH_turn _ _ h0
theorem FeedIs.put {s : Wv} {b : List Nat} {o : Except Nat Ss} (h : FeedIs s b o) (A : Option Addr) (cA : Nat) (C1 : Option Addr) (d1 : Nat) (C2 : Option Addr) (d2 : Nat) (Bw : Option Addr) (cw : Nat) : FeedIs (s.put A cA C1 d1 C2 d2 Bw cw) b o := by
  rcases h with ⟨h1, h2⟩ | ⟨h1, h2, h3⟩ | ⟨h1, h2, k, hk, h3⟩
  · exact .inl ⟨h1, h2⟩
  · exact .inr (.inl ⟨h1, h2, h3⟩)
  · exact .inr (.inr ⟨h1, h2, k, hk.put A cA C1 d1 C2 d2 Bw cw, h3⟩)
theorem sameV_self (a : Bv) : sameV a a = true := by unfold sameV; simp [sameT_refl]
theorem sameW_self (a : Wv) : sameW a a = true := by unfold sameW; simp [sameV_self]

/-! ### What is told, how many bytes are read, the error -/
def tdO : Except Nat Ss → List Nat
  | .error _ => []
  | .ok s => s.told
def usO (nA n : Nat) : Except Nat Ss → Nat
  | .error _ => 0
  | .ok s => usedN nA n s
def erO : Except Nat Ss → Nat
  | .error e => e
  | .ok _ => 0
def XO (most made : Nat) (all : List Nat) (o : Except Nat Ss) (X : Wv) : Prop := match o with
  | .error _ => X = noV
  | .ok s1 => ∃ v I ni ci, X = fedV most made all s1 v I ni ci
section
variable {most made : Nat} {all : List Nat} {o : Except Nat Ss} {X Y : Wv}
theorem XO.same (h : XO most made all o X) (h' : XO most made all o Y) : sameW X Y = true := by
  cases o with
  | error e => obtain rfl : X = noV := h; obtain rfl : Y = noV := h'; exact sameW_self _
  | ok s1 => obtain ⟨v, I, ni, ci, rfl⟩ := h; obtain ⟨v', I', ni', ci', rfl⟩ := h'; exact fedV_same
theorem XO.right (h : XO most made all o X) (h' : XO most made all o Y) (s : Wv) : sameW s X = sameW s Y := by
  cases o with
  | error e => obtain rfl : X = noV := h; obtain rfl : Y = noV := h'; rfl
  | ok s1 =>
    obtain ⟨v, I, ni, ci, rfl⟩ := h
    obtain ⟨v', I', ni', ci', rfl⟩ := h'
    obtain ⟨a, k, ov, win, told⟩ := s1
    cases k <;> rfl
end
/-- What the program's Feed answers, in memory. -/
structure FX (w w' : World) (X : Wv) (T : Option Addr) (tn : Nat) (td : List Nat) : Prop where
  only : Below w.heap.size w w'
  val : X.ok w'
  told : Rd w' T (u8s td)
  tn_ : tn = td.length
  tb : ∀ x ∈ td, x < 256
  in_ : w'.ownsRow w.heap.size 5 1 (.slice X.A X.nA X.cA) X.nA (u8s X.lA)
  win : w'.ownsRow w.heap.size 5 1 (.slice X.Bw X.nw X.cw) X.nw (u8s X.lw)
  sym : OwnOr w' w.heap.size X.bk.C1 X.bk.m1 X.bk.d1 X.bk.x1
  apart : ∀ g, (Value.slice X.A X.nA X.cA).ownBlock = some g → (Value.slice X.Bw X.nw X.cw).ownBlock ≠ some g
theorem OwnOr.below {w w' : World} {base : Nat} {C : Option Addr} {m d : Nat} {xs : List Int} (h : OwnOr w base C m d xs) (hb : Below w.heap.size w w') : OwnOr w' base C m d xs := h.elim .inl fun h => .inr (own_below h hb)
theorem FX.below {w w' w'' : World} {X : Wv} {T : Option Addr} {tn : Nat} {td : List Nat} (h : FX w w' X T tn td) (hb : Below w'.heap.size w' w'') : FX w w'' X T tn td :=
  ⟨h.only.trans (hb.mono h.only.size), h.val.below hb, h.told.below hb, h.tn_, h.tb, own_below h.in_ hb, own_below h.win hb, h.sym.below hb, h.apart⟩
theorem feed_fx {s : Wv} {w : World} (hs : s.ok w) {B : Option Addr} {n c : Nat} {b : List Nat} (hB : Rd w B (u8s b)) (hn : n = b.length) (hm : n ≤ 90000) (hx : ∀ x ∈ b, x < 256) {o : Except Nat Ss} (h : FeedIs s b o) :
    Calls Tryz.prog 8 #[.agg (cellsOf 45 s.F), .slice B n c] w fun r w' => ∃ (X : Wv) (T : Option Addr) (tn tc : Nat), r = .returned (.tuple #[.agg (cellsOf 45 X.F), .slice T tn tc, .int .i64 ((usO s.nA n o : Nat) : Int), .int .i64 ((erO o : Nat) : Int)]) ∧ XO s.most.toNat s.made.toNat (s.lA ++ b) o X ∧ FX w w' X T tn (tdO o) :=
  (feed_to hs hB hn hm hx h).mono fun r w' hr => by
    cases o with
    | error e =>
      obtain ⟨hb, rfl⟩ : FeedNo w w' e r := hr
      exact ⟨noV, none, 0, 0, rfl, rfl, hb, noV_ok w', Rd.nil_, rfl, fun _ h => (by cases h), World.ownsRow_nil _ _ _ _, World.ownsRow_nil _ _ _ _, .inl ⟨rfl, rfl⟩, fun g e => by cases e⟩
    | ok s1 =>
      obtain ⟨x, T, tn, tc, used, rfl, hX⟩ : ∃ (x : Wv) (T : Option Addr) (tn tc used : Nat), r = .returned (.tuple #[.agg (cellsOf 45 x.F), .slice T tn tc, .int .i64 (used : Int), .int .i64 0]) ∧ FedX w w' s n b s1 x T tn tc used := hr
      have hp := (h.p hs).1
      have hu := hX.used_
      have ht := hX.told
      have htn := hX.tn_
      obtain ⟨v, I, ci, rfl, hm⟩ := hX.is
      subst hu
      have hc : (bkV s1.k v).C1 = v.C1 ∧ (bkV s1.k v).m1 = v.m1 ∧ (bkV s1.k v).d1 = v.d1 := by cases s1.k <;> exact ⟨rfl, rfl, rfl⟩
      refine ⟨_, T, tn, tc, rfl, ⟨v, I, _, ci, rfl⟩, hm.only, hm.val, own_rd ht, htn, hp.byte, hm.in_, hm.win, ?_, hm.apart⟩
      show OwnOr w' w.heap.size (bkV s1.k v).C1 (bkV s1.k v).m1 (bkV s1.k v).d1 (bkV s1.k v).x1
      rw [hc.1, hc.2.1, hc.2.2]
      exact hm.sym
/-- What the document's answers, in memory. -/
structure FY (w w' : World) (Y : Wv) (T : Option Addr) (tn : Nat) (td : List Nat) : Prop where
  only : Below w.heap.size w w'
  val : Y.ok w'
  told : Rd w' T (u8s td)
  tn_ : tn = td.length
theorem FY.below {w w' w'' : World} {Y : Wv} {T : Option Addr} {tn : Nat} {td : List Nat} (h : FY w w' Y T tn td) (hb : Below w'.heap.size w' w'') : FY w w'' Y T tn td :=
  ⟨h.only.trans (hb.mono h.only.size), h.val.below hb, h.told.below hb, h.tn_⟩
theorem feed_fy {s : Wv} {w : World} (hs : s.ok w) (hkb : s.bk.kind ≤ 255) {B : Option Addr} {n c : Nat} {b : List Nat} (hB : Rd w B (u8s b)) (hn : n = b.length) (hm : n ≤ 90000) (hx : ∀ x ∈ b, x < 256) {o : Except Nat Ss} (h : FeedIs s b o) :
    Calls Tryz.prog 9 #[.agg (cellsOf 45 s.F), .slice B n c] w fun r w' => ∃ (Y : Wv) (T : Option Addr) (tn tc : Nat), r = .returned (.tuple #[.agg (cellsOf 45 Y.F), .slice T tn tc, .int .i64 ((usO s.nA n o : Nat) : Int), .int .i64 ((erO o : Nat) : Int)]) ∧ XO s.most.toNat s.made.toNat (s.lA ++ b) o Y ∧ FY w w' Y T tn (tdO o) :=
  (rfeed_any hs hkb hB hn hm hx h).mono fun r w' hr => by
    cases o with
    | error e =>
      obtain ⟨hb, rfl⟩ : FeedNo w w' e r := hr
      exact ⟨noV, none, 0, 0, rfl, rfl, hb, noV_ok w', Rd.nil_, rfl⟩
    | ok s1 =>
      obtain ⟨v, I, ci, rfl, hM⟩ : ∃ v I ci, r = .returned (.tuple #[.agg (cellsOf 45 (fedV s.most.toNat s.made.toNat (s.lA ++ b) s1 v I (leftB (s.lA ++ b) s1).length ci).F), .slice v.D v.nt v.ct, .int .i64 ((usedN s.nA n s1 : Nat) : Int), .int .i64 0]) ∧ RFMem w w' s.most.toNat s.made.toNat (s.lA ++ b) s1 v I ci := hr
      exact ⟨_, v.D, v.nt, v.ct, rfl, ⟨v, I, _, ci, rfl⟩, hM.only, hM.val, own_rd hM.told, hM.nt_⟩
/-- A new stream, or none. -/
def nwV (m : Int) : Wv := if 0 ≤ m ∧ m ≤ 131072 then newV m else noV
def nwE (m : Int) : Nat := if 0 ≤ m ∧ m ≤ 131072 then 0 else 2
theorem nwV_ok (m : Int) (w : World) : (nwV m).ok w := by
  unfold nwV
  split
  · exact newV_ok m w
  · exact noV_ok w
theorem new_res {w w' : World} {m : Int} {r : Ending} (h : NewRes w w' m r) : r = .returned (.tuple #[.agg (cellsOf 45 (nwV m).F), .int .i64 ((nwE m : Nat) : Int)]) ∧ Below w.heap.size w w' := by
  obtain ⟨hb, hr⟩ := h
  refine ⟨?_, hb⟩
  rw [hr]
  unfold nwV nwE
  by_cases hc : 0 ≤ m ∧ m ≤ 131072
  · rw [if_pos hc, if_pos hc, if_pos hc]; rfl
  · rw [if_neg hc, if_neg hc, if_neg hc]; rfl
/-- A twin, told by what is so of it. -/
structure TwOf (s S : Wv) : Prop where
  most : S.most = s.most
  made : S.made = s.made
  lA : S.lA = s.lA
  nA : S.nA = s.nA
  ck : ckS S = ckS s
  same : ∀ t, sameW S t = sameW s t
  fd : ∀ b o, FeedIs s b o → FeedIs S b o
theorem twin_is (s : Wv) (w : World) (hs : s.ok w) : Calls Tryz.prog 5 #[.agg (cellsOf 45 s.F)] w fun r w' => ∃ S : Wv, r = .returned (.agg (cellsOf 45 S.F)) ∧ S.ok w' ∧ TwOf s S ∧ Below w.heap.size w w' :=
  (rtwin14_any s w hs).mono fun _r _w' ⟨hb, A, cA, C1, d1, C2, d2, Bw, cw, hr, hok, _⟩ => ⟨_, hr, hok, ⟨rfl, rfl, rfl, rfl, rfl, fun _ => rfl, fun _ _ h => h.put A cA C1 d1 C2 d2 Bw cw⟩, hb⟩
end Go.Proofs.YtahboomghjdjhaaGreat

/-
  Walks: SwellFeeds.
-/
namespace Go.Proofs.YtahboomghjdjhaaGreat
open Go.RowKit

theorem u8s_put (l : List Nat) (i v : Nat) : (u8s l).set i (.int .u8 ((v : Nat) : Int)) = u8s (l.set i v) := by
  unfold u8s
  rw [List.map_set]
theorem ints_put (l : List Int) (i : Nat) (v : Int) : (ints l).set i (.int .i64 v) = ints (l.set i v) := by
  unfold ints
  rw [List.map_set]
theorem own_apart {w : World} {b1 b2 e1 e2 s1 s2 n1 n2 : Nat} {v1 v2 : Value} {xs ys : List Value} (h1 : w.ownsRow b1 e1 s1 v1 n1 xs) (h2 : w.ownsRow b2 e2 s2 v2 n2 ys) (hne : e2 ≠ e1) : ∀ g, v1.ownBlock = some g → v2.ownBlock ≠ some g := by
  intro g e
  rcases h1.2 with ⟨rfl, _⟩ | ⟨g', cap, cur, rfl, _, hh, _⟩
  · cases e
  · have e' : g' = g := by injection e
    subst e'
    exact own_blk_ne h2 (hh : Blk w g' e1 cur) hne
/-- What was answered, while it is written over. -/
structure FLp (W wr : World) (xb : Nat) (XF : Nat → Value) (A : Option Addr) (nA cA : Nat) (la : List Nat) (Bw : Option Addr) (nw cw : Nat) (lw : List Nat) (C : Option Addr) (m d : Nat) (xs : List Int) : Prop where
  only : Below W.heap.size W wr
  k : Arr wr xb 32 45 XF
  in_ : wr.ownsRow W.heap.size 5 1 (.slice A nA cA) nA (u8s la)
  win : wr.ownsRow W.heap.size 5 1 (.slice Bw nw cw) nw (u8s lw)
  sym : OwnOr wr W.heap.size C m d xs
  apart : ∀ g, (Value.slice A nA cA).ownBlock = some g → (Value.slice Bw nw cw).ownBlock ≠ some g
section
variable {W wr : World} {xb : Nat} {XF : Nat → Value} {A : Option Addr} {nA cA : Nat} {la : List Nat} {Bw : Option Addr} {nw cw : Nat} {lw : List Nat} {C : Option Addr} {m d : Nat} {xs : List Int} {g : Nat}
theorem OwnOr.far {w : World} {base : Nat} (h : OwnOr w base C m d xs) {p : Addr} (hp : ∀ _h : w.ownsRow base 3 1 (.slice C m d) m (ints xs), (Value.slice C m d).ownBlock ≠ some p.block) (u : Value) : OwnOr (w.setCell p u) base C m d xs := h.elim .inl fun h => .inr (own_far h (hp h) u)
theorem FLp.put1 (h : FLp W wr xb XF (some ⟨g, 0, none⟩) nA cA la Bw nw cw lw C m d xs) (i : Nat) (hi : i < nA) (x : Nat) : FLp W (wr.setCell ⟨g, i, none⟩ (.int .u8 ((x : Nat) : Int))).drew xb XF (some ⟨g, 0, none⟩) nA cA (la.set i x) Bw nw cw lw C m d xs := by
  have hB : Builds W wr 5 1 (some ⟨g, 0, none⟩) nA cA (u8s la) := ⟨h.only, h.in_⟩
  have hs := hB.set i (by omega) (.int .u8 ((x : Nat) : Int))
  rw [u8s_put] at hs
  have hne := own_blk_ne h.in_ h.k (by decide)
  exact ⟨hs.1.drew, Arr.far h.k (p := ⟨g, i, none⟩) (fun e => hne (by rw [e]; rfl)) _, hs.2, own_far h.win (p := ⟨g, i, none⟩) (h.apart g rfl) _, h.sym.far (p := ⟨g, i, none⟩) (fun ho => own_apart h.in_ ho (by decide) g rfl) _, h.apart⟩
theorem FLp.put2 (h : FLp W wr xb XF A nA cA la (some ⟨g, 0, none⟩) nw cw lw C m d xs) (i : Nat) (hi : i < nw) (x : Nat) : FLp W (wr.setCell ⟨g, i, none⟩ (.int .u8 ((x : Nat) : Int))).drew xb XF A nA cA la (some ⟨g, 0, none⟩) nw cw (lw.set i x) C m d xs := by
  have hB : Builds W wr 5 1 (some ⟨g, 0, none⟩) nw cw (u8s lw) := ⟨h.only, h.win⟩
  have hs := hB.set i (by omega) (.int .u8 ((x : Nat) : Int))
  rw [u8s_put] at hs
  have hne := own_blk_ne h.win h.k (by decide)
  exact ⟨hs.1.drew, Arr.far h.k (p := ⟨g, i, none⟩) (fun e => hne (by rw [e]; rfl)) _, own_far h.in_ (p := ⟨g, i, none⟩) (fun e => h.apart g e rfl) _, hs.2, h.sym.far (p := ⟨g, i, none⟩) (fun ho => own_apart h.win ho (by decide) g rfl) _, h.apart⟩
theorem FLp.put3 (h : FLp W wr xb XF A nA cA la Bw nw cw lw (some ⟨g, 0, none⟩) m d xs) (ho : wr.ownsRow W.heap.size 3 1 (.slice (some ⟨g, 0, none⟩) m d) m (ints xs)) (i : Nat) (hi : i < m) (x : Int) : FLp W (wr.setCell ⟨g, i, none⟩ (.int .i64 x)) xb XF A nA cA la Bw nw cw lw (some ⟨g, 0, none⟩) m d (xs.set i x) := by
  have hB : Builds W wr 3 1 (some ⟨g, 0, none⟩) m d (ints xs) := ⟨h.only, ho⟩
  have hs := hB.set i (by omega) (.int .i64 x)
  rw [ints_put] at hs
  have hne := own_blk_ne ho h.k (by decide)
  exact ⟨hs.1, Arr.far h.k (p := ⟨g, i, none⟩) (fun e => hne (by rw [e]; rfl)) _, own_far h.in_ (p := ⟨g, i, none⟩) (own_apart ho h.in_ (by decide) g rfl) _, own_far h.win (p := ⟨g, i, none⟩) (own_apart ho h.win (by decide) g rfl) _, .inr hs.2, h.apart⟩
end
set_option maxRecDepth 100000 in
set_option maxHeartbeats 8000000 in
theorem law_sfeeds (s : Wv) (B : Option Addr) (l : List Nat) (c : Nat) (m : Int) (w : World) (hin : s.inn w) (hl : InBs w B l) (_ : -9223372036854775808 ≤ m) (_ : m ≤ 9223372036854775807) :
    Calls Tryz.prog 3 #[.agg (cellsOf 45 s.F), .slice B l.length c, .int .i64 m] w fun e w' => e = .returned (.bool true) ∧ Below w.heap.size w w' := by
  obtain ⟨hbs, hB, hm⟩ := hl
  have hrd : Rd w B (u8s l) := Bs.rd hbs hB
  have hbyte := hbs.2
  obtain ⟨n, hn⟩ : ∃ n, l.length = n := ⟨_, rfl⟩
  rw [hn]
  have hb0 : Below w.heap.size w (w.alloc (.cells (cellsOf 45 s.F) 32)) := (Below.refl _ _).alloc (Nat.le_refl _) _
  have k0 : Arr (w.alloc (.cells (cellsOf 45 s.F) 32)) w.heap.size 32 45 s.F := Blk.new _ _ _
  have HG := Lib.hid fun wx => great_any s B n c wx
  have HI := Lib.hid (And.intro hin (And.intro hrd (And.intro hn hbyte)))
  generalize hF : s.F = F at *
  have HF := Lib.hid hF
  clear hin hrd hbs hbyte hB hm hn hF
  go_enter Tryz.func3, Tryz.ntmps3
  go_upto_region 1 with (fail)
  change Code.wp _ _ _ _ (w.alloc (.cells (cellsOf 45 F) 32))
  generalize w.alloc (.cells (cellsOf 45 F) 32) = w0 at *
  obtain ⟨gs, hgs⟩ : ∃ g, w.heap.size = g := ⟨_, rfl⟩
  rw [hgs] at k0
  rw [hgs]
  have HGS := Lib.hid hgs
  clear hgs
  go_wp2_with (refine load_arr rfl 32 (.tmp 3) rfl rfl k0 Tryz.underlying32 rfl sw_size ?_)
  refine (HG.out _).mono ?_
  rintro e w2 ⟨g, rfl, h2, hg⟩
  have k2 := Arr.below k0 h2 (Blk.lt k0)
  have hb2 := hb0.trans (h2.mono hb0.size)
  clear k0 hb0 h2
  cases g with
  | true =>
    go_wp2_with fail
    go_ret
    exact ⟨rfl, hb2⟩
  | false =>
    obtain ⟨g1, g2, g3, g4, g5, g6⟩ := hg rfl
    have hok : s.ok w := HI.out.1.ok (by omega) (by omega) (by omega) (by omega)
    obtain ⟨o, FO⟩ := FeedIs.ex s l
    have HO := Lib.hid (And.intro hok (And.intro FO g1))
    have HTW := Lib.hid (twin_is s w2 (hok.below hb2))
    rw [HF.out] at HTW
    have hn1 : n ≤ 300 := g1
    clear hg g1 g2 g3 g4 g5 g6 hok FO HG
    go_upto_region 4 with (first
      | (refine load_arr rfl 32 (.tmp 3) rfl rfl k2 Tryz.underlying32 rfl sw_size ?_)
      | (go_at_call 5; refine HTW.out.mono ?_; rintro e w3 ⟨S, rfl, hS3, hTS, hb23⟩; have honeSF := wv_one S; generalize hSF : S.F = SF at *)
      | (refine store_over rfl 32 (.tmp 7) (.tmp 30) (f := SF) (f0 := swZ) rfl rfl rfl (Blk.new _ _ _) sw_size (fun i _ => honeSF i) ?_; intro w4 k7 g4))
    have HSF := Lib.hid hSF
    have HTS := Lib.hid hTS
    have hb24 := box_sw hb23 g4
    have hb34 := box_sw (Below.refl _ _) g4
    have hb4 := hb2.trans (hb24.mono hb2.size)
    have k3 := Arr.below k2 hb24 (Blk.lt k2)
    have hS4 := hS3.below hb34
    have hrd4 := HI.out.2.1.below hb4
    clear HTW k2 hb2 hb23 hb24 hb34 g4 hS3 hTS hSF honeSF
    go_upto_region 5 with (refine grow selem_u8 rfl (.const (.slice none 0 0)) (.tmp 31) rfl rfl (Builds.nil_ w4 _ _) rfl hrd4 (by rw [u8s_length, HI.out.2.2.1, Nat.mul_one]) (u8s_one _) n (by omega) (u8s l) rfl (by omega) (by omega) ?_; intro A5 c5 w5 hB5 hg5)
    have hb5 := hb4.trans (hB5.1.mono hb4.size)
    replace k3 := Arr.below k3 hB5.1 (Blk.lt k3)
    replace k7 := Arr.below k7 hB5.1 (Blk.lt k7)
    have hS5 := hS4.below hB5.1
    have hI5 := hB5.rd
    clear hB5 hg5 hS4 hrd4 hb4
    have honeNF := wv_one (nwV m)
    have HN1 := Lib.hid ((snew_any m w5).mono fun r w' h => new_res h)
    have HN2 := Lib.hid fun wx => (rnew14_any m wx).mono fun r w' h => new_res h
    obtain ⟨NF, hNF⟩ : ∃ NF, (nwV m).F = NF := ⟨_, rfl⟩
    rw [hNF] at honeNF HN1 HN2
    have HNF := Lib.hid hNF
    clear hNF
    go_upto_region 6 with (first
      | (go_at_call 6; refine HN1.out.mono ?_; rintro e w6 ⟨rfl, hb56⟩)
      | (refine store_over rfl 32 (.tmp 9) (.tmp 36) (f := NF) (f0 := swZ) rfl rfl rfl (Blk.new _ _ _) sw_size (fun i _ => honeNF i) ?_; intro w7 k9 g7))
    have hb57 := box_sw hb56 g7
    have hb7 := hb5.trans (hb57.mono hb5.size)
    replace k3 := Arr.below k3 hb57 (Blk.lt k3)
    replace k7 := Arr.below k7 hb57 (Blk.lt k7)
    have hS7 := hS5.below hb57
    have hI7 := hI5.below hb57
    clear HN1 hb56 g7 hb57 hb5 hS5 hI5
    go_upto_region 7 with (first
      | (go_at_call 7; refine (HN2.out w7).mono ?_; rintro e w8 ⟨rfl, hb78⟩)
      | (refine store_over rfl 32 (.tmp 11) (.tmp 41) (f := NF) (f0 := swZ) rfl rfl rfl (Blk.new _ _ _) sw_size (fun i _ => honeNF i) ?_; intro w9 k11 g9))
    have hb79 := box_sw hb78 g9
    have hb9 := hb7.trans (hb79.mono hb7.size)
    replace k3 := Arr.below k3 hb79 (Blk.lt k3)
    replace k7 := Arr.below k7 hb79 (Blk.lt k7)
    replace k9 := Arr.below k9 hb79 (Blk.lt k9)
    have hS9 := hS7.below hb79
    have hI9 := hI7.below hb79
    clear HN2 hb78 g9 hb79 hb7 hS7 hI7 honeNF
    have HFD := Lib.hid (feed_fx (c := c5) hS9 hI9 HI.out.2.2.1.symm (by omega) HI.out.2.2.2 (HTS.out.fd _ _ HO.out.2.1))
    rw [HSF.out, HTS.out.nA, HTS.out.most, HTS.out.made, HTS.out.lA] at HFD
    obtain ⟨td, htd⟩ : ∃ td, tdO o = td := ⟨_, rfl⟩
    obtain ⟨us, hus⟩ : ∃ us, usO s.nA n o = us := ⟨_, rfl⟩
    obtain ⟨er, her⟩ : ∃ er, erO o = er := ⟨_, rfl⟩
    rw [htd, hus, her] at HFD
    have HT := Lib.hid (And.intro htd (And.intro hus her))
    clear htd hus her
    go_upto_region 8 with (first
      | (refine load_arr rfl 32 (.tmp 7) rfl rfl k7 Tryz.underlying32 rfl sw_size ?_)
      | (go_at_call 8; refine HFD.out.mono ?_; rintro e wA ⟨X, T, tn, tc, rfl, hXO, hXA⟩; have honeXF := wv_one X; generalize hXF : X.F = XF at *)
      | (refine store_over rfl 32 (.tmp 13) (.tmp 47) (f := XF) (f0 := swZ) rfl rfl rfl (Blk.new _ _ _) sw_size (fun i _ => honeXF i) ?_; intro wB k13 gB))
    have HXF := Lib.hid hXF
    have HXO := Lib.hid hXO
    have hbAB := box_sw (Below.refl _ _) gB
    have hX := hXA.below hbAB
    have hb9B := hX.only
    have hbB := hb9.trans (hb9B.mono hb9.size)
    have k3B := Arr.below k3 hb9B (Blk.lt k3)
    have k7B := Arr.below k7 hb9B (Blk.lt k7)
    have k9B := Arr.below k9 hb9B (Blk.lt k9)
    have k11B := Arr.below k11 hb9B (Blk.lt k11)
    have H9 := Lib.hid (And.intro k3 (And.intro k7 (And.intro hS9 (And.intro hI9 (And.intro hb9 (Blk.lt k13))))))
    clear HFD hbAB gB hXA hXF hXO honeXF k3 k7 k9 k11 hS9 hI9
    have HRF := Lib.hid (feed_fy (c := c) (HO.out.1.below hbB) (by have := HI.out.1.kb; omega) (HI.out.2.1.below hbB) HI.out.2.2.1.symm (by omega) HI.out.2.2.2 HO.out.2.1)
    rw [HF.out, HT.out.1, HT.out.2.1, HT.out.2.2] at HRF
    go_upto_region 9 with (first
      | (refine load_arr rfl 32 (.tmp 3) rfl rfl k3B Tryz.underlying32 rfl sw_size ?_)
      | (go_at_call 9; refine HRF.out.mono ?_; rintro e wC ⟨Y, U, un, uc, rfl, hYO, hYC⟩; have honeYF := wv_one Y; generalize hYF : Y.F = YF at *)
      | (refine store_over rfl 32 (.tmp 17) (.tmp 55) (f := YF) (f0 := swZ) rfl rfl rfl (Blk.new _ _ _) sw_size (fun i _ => honeYF i) ?_; intro wD k17 gD))
    have HYF := Lib.hid hYF
    have HYO := Lib.hid hYO
    have hbCD := box_sw (Below.refl _ _) gD
    have hY := hYC.below hbCD
    have hbBD := hY.only
    have hbD := hbB.trans (hbBD.mono hbB.size)
    have hXD := hX.below hbBD
    have k3D := Arr.below k3B hbBD (Blk.lt k3B)
    have k7D := Arr.below k7B hbBD (Blk.lt k7B)
    have k9D := Arr.below k9B hbBD (Blk.lt k9B)
    have k11D := Arr.below k11B hbBD (Blk.lt k11B)
    have k13D := Arr.below k13 hbBD (Blk.lt k13)
    clear HRF hbCD gD hYC hYF hYO honeYF k3B k7B k9B k11B k13 hX hb9B hbBD hbB hb9
    have HS1 := Lib.hid (show Calls Tryz.prog 10 #[.agg (cellsOf 45 NF), .agg (cellsOf 45 NF)] wD (fun e w' => e = .returned (.bool true) ∧ Below wD.heap.size wD w') from by
      have h := rsame14_any (nwV m) (nwV m) wD (nwV_ok m _) (nwV_ok m _)
      rw [sameW_self, HNF.out] at h
      exact h)
    have HS2 := Lib.hid fun wx (hb : Below wD.heap.size wD wx) => (show Calls Tryz.prog 10 #[.agg (cellsOf 45 XF), .agg (cellsOf 45 YF)] wx (fun e w' => e = .returned (.bool true) ∧ Below wx.heap.size wx w') from by
      have h := rsame14_any X Y wx (hXD.val.below hb) (hY.val.below hb)
      rw [HXO.out.same HYO.out, HXF.out, HYF.out] at h
      exact h)
    have HCT := Lib.hid fun wx (hb : Below wD.heap.size wD wx) => conv_row wx (hXD.told.below hb) hXD.tb hXD.tn_ tc
    have HCU := Lib.hid fun wx (hb : Below wD.heap.size wD wx) => conv_row wx (hY.told.below hb) hXD.tb hY.tn_ uc
    go_wp2_with (first
      | (refine load_arr rfl 32 (.tmp 9) rfl rfl k9D Tryz.underlying32 rfl sw_size ?_)
      | (refine load_arr rfl 32 (.tmp 11) rfl rfl k11D Tryz.underlying32 rfl sw_size ?_))
    with_reducible refine Calls.mono HS1.out ?_
    rintro e wE ⟨rfl, hbDE⟩
    have k13E := Arr.below k13D hbDE (Blk.lt k13D)
    have k17E := Arr.below k17 hbDE (Blk.lt k17)
    go_wp2_with (first
      | (refine load_arrG (by rfl) 32 (.tmp 13) rfl rfl k13E Tryz.underlying32 rfl sw_size ?_)
      | (refine load_arrG (by rfl) 32 (.tmp 17) rfl rfl k17E Tryz.underlying32 rfl sw_size ?_))
    with_reducible refine Calls.mono (HS2.out wE hbDE) ?_
    rintro e wG ⟨rfl, hbEG⟩
    have hbDG := hbDE.trans (hbEG.mono hbDE.size)
    have hcT := HCT.out wG hbDG
    have hcU := HCU.out wG hbDG
    go_upto_region 10 with fail
    have hbG := hbD.trans (hbDG.mono hbD.size)
    have k3G := Arr.below k3D hbDG (Blk.lt k3D)
    have k7G := Arr.below k7D hbDG (Blk.lt k7D)
    have k13G := Arr.below k13D hbDG (Blk.lt k13D)
    have k17G := Arr.below k17 hbDG (Blk.lt k17)
    have hXG := hXD.below hbDG
    have hYG := hY.val.below hbDG
    have hSG := H9.out.2.2.1.below hXG.only
    have hokG := HO.out.1.below hbG
    have K3 : ∀ w', (∃ n : Wx wG, w' = n.w) → Arr w' gs 32 45 F := fun _ ⟨n, hn⟩ => hn ▸ Arr.below k3G n.b (Blk.lt k3G)
    have K7 : ∀ w', (∃ n : Wx wG, w' = n.w) → Arr w' w3.heap.size 32 45 SF := fun _ ⟨n, hn⟩ => hn ▸ Arr.below k7G n.b (Blk.lt k7G)
    have K13 : ∀ w', (∃ n : Wx wG, w' = n.w) → Arr w' wA.heap.size 32 45 XF := fun _ ⟨n, hn⟩ => hn ▸ Arr.below k13G n.b (Blk.lt k13G)
    have K17 : ∀ w', (∃ n : Wx wG, w' = n.w) → Arr w' wC.heap.size 32 45 YF := fun _ ⟨n, hn⟩ => hn ▸ Arr.below k17G n.b (Blk.lt k17G)
    obtain ⟨ce, hce⟩ : ∃ ce : Nat, (if ckS s = true then 0 else 8) = ce := ⟨_, rfl⟩
    obtain ⟨z, hz⟩ : ∃ z, sameW s X = z := ⟨_, rfl⟩
    have HC1 := Lib.hid (fun n : Wx wG => show Calls Tryz.prog 11 #[.agg (cellsOf 45 SF)] n.w (fun e w' => e = .returned (.int .i64 ((ce : Nat) : Int)) ∧ Below n.w.heap.size n.w w') from by
      have h := scheck_any S n.w (hSG.below n.b)
      unfold CkdRes at h
      rw [HTS.out.ck, hce, HSF.out] at h
      exact h)
    have HC2 := Lib.hid (fun n : Wx wG => show Calls Tryz.prog 12 #[.agg (cellsOf 45 F)] n.w (fun e w' => e = .returned (.int .i64 ((ce : Nat) : Int)) ∧ Below n.w.heap.size n.w w') from by
      have h := rcheck14_any s n.w (hokG.below n.b) (by have := HI.out.1.kb; omega)
      unfold CkdRes at h
      rw [hce, HF.out] at h
      exact h)
    have HSX := Lib.hid (fun n : Wx wG => show Calls Tryz.prog 13 #[.agg (cellsOf 45 SF), .agg (cellsOf 45 XF)] n.w (fun e w' => e = .returned (.bool z) ∧ Below n.w.heap.size n.w w') from by
      have h := sw_same S X n.w (hSG.below n.b) (hXG.val.below n.b)
      rw [HTS.out.same, hz, HSF.out, HXF.out] at h
      exact h)
    have HSY := Lib.hid (fun n : Wx wG => show Calls Tryz.prog 10 #[.agg (cellsOf 45 F), .agg (cellsOf 45 YF)] n.w (fun e w' => e = .returned (.bool z) ∧ Below n.w.heap.size n.w w') from by
      have h := rsame14_any s Y n.w (hokG.below n.b) (hYG.below n.b)
      rw [← HXO.out.right HYO.out s, hz, HF.out, HYF.out] at h
      exact h)
    have HSS := Lib.hid (fun n : Wx wG => show Calls Tryz.prog 13 #[.agg (cellsOf 45 SF), .agg (cellsOf 45 F)] n.w (fun e w' => e = .returned (.bool true) ∧ Below n.w.heap.size n.w w') from by
      have h := sw_same S s n.w (hSG.below n.b) (hokG.below n.b)
      rw [HTS.out.same, sameW_self, HSF.out, HF.out] at h
      exact h)
    have ez : (z == z) = true := by simp
    clear hce hz hcT hcU HCT HCU HS1 HS2 k3D k7D k9D k11D k13D k17 k13E k17E hbDE hbEG hXD hY
    refine wp_region_ext (by kernel_rfl) (by kernel_rfl) ?_
    repeat (first
      | (go_big_quiet_want; refine quiet_row 32 (.tmp 7) rfl rfl K7 Tryz.underlying32 rfl sw_size ?_; go_big_quiet_on; simp only [Act.put, List.setIfInBounds_toArray, List.set_cons_zero, List.set_cons_succ])
      | (go_big_quiet_want; refine quiet_row 32 (.tmp 3) rfl rfl K3 Tryz.underlying32 rfl sw_size ?_; go_big_quiet_on; simp only [Act.put, List.setIfInBounds_toArray, List.set_cons_zero, List.set_cons_succ])
      | (go_big_quiet_want; refine quiet_row 32 (.tmp 13) rfl rfl K13 Tryz.underlying32 rfl sw_size ?_; go_big_quiet_on; simp only [Act.put, List.setIfInBounds_toArray, List.set_cons_zero, List.set_cons_succ])
      | (go_big_quiet_want; refine quiet_row 32 (.tmp 17) rfl rfl K17 Tryz.underlying32 rfl sw_size ?_; go_big_quiet_on; simp only [Act.put, List.setIfInBounds_toArray, List.set_cons_zero, List.set_cons_succ])
      | (go_big_quiet_step (first
          | (go_at_call 11; with_reducible exact Calls.ext _ (HC1.out _))
          | (go_at_call 12; with_reducible exact Calls.ext _ (HC2.out _))
          | (go_at_call 13; with_reducible exact Calls.ext _ (HSX.out _))
          | (go_at_call 13; with_reducible exact Calls.ext _ (HSS.out _))
          | (go_at_call 10; with_reducible exact Calls.ext _ (HSY.out _)))))
    refine wpQuiet_nil ?_
    rintro wH ⟨nH, hnH⟩
    have hbGH : Below wG.heap.size wG wH := hnH ▸ nH.b
    clear hnH nH
    have hXH := hXG.below hbGH
    have k13H := Arr.below k13G hbGH (Blk.lt k13G)
    clear HC1 HC2 HSX HSY HSS K3 K7 K13 K17 ez k3G k7G k13G k17G hXG hYG hSG hokG hbGH hbDG hbD hbG
    obtain ⟨xb, hxb⟩ : ∃ g, wA.heap.size = g := ⟨_, rfl⟩
    rw [hxb] at k13H
    rw [hxb]
    clear hxb
    obtain ⟨xm, xd, xA, xn, xc, xlA, xat, ⟨bkd, bla, ble, bf1, xC, xcm, xcd, xx1, bf2, bC2, bm2, bd2, bx2⟩, xop, xsz, xBw, xnw, xcw, xlw, xov⟩ := X
    have hL : FLp w9 wH xb XF xA xn xc xlA xBw xnw xcw xlw xC xcm xcd xx1 := ⟨hXH.only, k13H, hXH.in_, hXH.win, hXH.sym, hXH.apart⟩
    have hbA := hXH.val.bA
    have hbW := hXH.val.bw
    have hnA := hXH.val.lenA
    have hnW := hXH.val.lenw
    have hmA := hXH.val.maxA
    have hmW := hXH.val.maxw
    have hxl := hXH.val.bk.l1
    have hxm := hXH.val.bk.b1
    dsimp only at hbA hbW hnA hnW hxl hmA hmW hxm
    have HX2 : XF 2 = .slice xA xn xc := by rw [← HXF.out]; rfl
    have HX43 : XF 43 = .slice xBw xnw xcw := by rw [← HXF.out]; rfl
    have HX23 : XF 23 = .slice xC xcm xcd := by rw [← HXF.out]; rfl
    have HQ := Lib.hid (And.intro HX2 (And.intro HX43 HX23))
    have HP := Lib.hid (And.intro hbA (And.intro hbW (And.intro hnA (And.intro hnW (And.intro hxl (And.intro hmA (And.intro hmW hxm)))))))
    have HZ9 := Lib.hid fun wx (hb : Below w9.heap.size w9 wx) => (show Calls Tryz.prog 10 #[.agg (cellsOf 45 SF), .agg (cellsOf 45 F)] wx (fun e w' => e = .returned (.bool true) ∧ Below wx.heap.size wx w') from by
      have h := rsame14_any S s wx (H9.out.2.2.1.below hb) (HO.out.1.below (H9.out.2.2.2.2.1.trans (hb.mono H9.out.2.2.2.2.1.size)))
      rw [HTS.out.same, sameW_self, HSF.out, HF.out] at h
      exact h)
    have HCI := Lib.hid fun wx (hb : Below w9.heap.size w9 wx) => conv_row wx (H9.out.2.2.2.1.below hb) HI.out.2.2.2 HI.out.2.2.1.symm c5
    have HCB := Lib.hid fun wx (hb : Below w9.heap.size w9 wx) => conv_row wx (HI.out.2.1.below (H9.out.2.2.2.2.1.trans (hb.mono H9.out.2.2.2.2.1.size))) HI.out.2.2.2 HI.out.2.2.1.symm c
    clear hbA hbW hnA hnW hxl hmA hmW hxm HX2 HX43 HX23 hXH k13H
    go_wp2_with fail
    go_loopg [23] xn (fun gk v23 wr => ∃ (i : Nat) (li : List Nat), i ≤ xn ∧ gk = xn - i ∧ v23 = .int .i64 ((i : Nat) : Int) ∧ FLp w9 wr xb XF xA xn xc li xBw xnw xcw xlw xC xcm xcd xx1 ∧ Hid (li.length = xn ∧ ∀ x ∈ li, x < 256))
    case atStart => exact ⟨0, xlA, by omega, by omega, rfl, hL, ⟨HP.out.2.2.1.symm, HP.out.1⟩⟩
    case round =>
      clear hL
      obtain ⟨i, li, hi, hgk, rfl, hL, HLI⟩ := hrel
      have HG := Lib.hid (And.intro hi hgk)
      have c2 : wr.cell? ⟨xb, 2, none⟩ = some (.slice xA xn xc) := (Arr.cell hL.k 2 (by omega)).trans (congrArg some HQ.out.1)
      have lx := Blk.lt hL.k
      clear hgk
      by_cases hlt : i < xn
      · have hxn : xn ≤ 1000000 := HP.out.2.2.2.2.2.1
        have hB : Builds w9 wr 5 1 xA xn xc (u8s li) := ⟨hL.only, hL.in_⟩
        obtain ⟨g, rfl, hg1, hg2⟩ := hB.at_ (by omega)
        have hcell := (hB.cell i (by omega)).trans (u8s_get li i (by rw [HLI.out.1]; exact hlt))
        have hfree := hB.free i
        have hx := nth_lt HLI.out.2 (by omega) i
        obtain ⟨x, hX⟩ : ∃ x, nth li i = x := ⟨_, rfl⟩
        rw [hX] at hcell hx
        clear hX hB
        have hm : ((x : Int) + 1) % 256 = (((x + 1) % 256 : Nat) : Int) := by omega
        have HN := Lib.hid hm
        clear hm
        go_wp2_with fail
        go_region
        go_wp2_with fail
        go_roundg (xn - (i + 1))
        case measure => have := HG.out; omega
        case rel =>
          refine ⟨i + 1, li.set i ((x + 1) % 256), by omega, by omega, by go_num, ?_, ⟨by rw [List.length_set]; exact HLI.out.1, ?_⟩⟩
          · have h := hL.put1 i hlt ((x + 1) % 256)
            exact h
          · intro y hy
            rcases List.mem_or_eq_of_mem_set hy with hy | rfl
            · exact HLI.out.2 y hy
            · omega
      · clear hi HG
        go_wp2_with fail
        clear c2 lx
        go_loopg [24] xnw (fun gk v24 wr => ∃ (i2 : Nat) (lj : List Nat), i2 ≤ xnw ∧ gk = xnw - i2 ∧ v24 = .int .i64 ((i2 : Nat) : Int) ∧ FLp w9 wr xb XF xA xn xc li xBw xnw xcw lj xC xcm xcd xx1 ∧ Hid (lj.length = xnw ∧ ∀ x ∈ lj, x < 256))
        case atStart => exact ⟨0, xlw, by omega, by omega, rfl, hL, ⟨HP.out.2.2.2.1.symm, HP.out.2.1⟩⟩
        case round =>
          clear hL
          obtain ⟨i2, lj, hi, hgk, rfl, hL, HLI⟩ := hrel
          have HG := Lib.hid (And.intro hi hgk)
          have c43 : wr.cell? ⟨xb, 43, none⟩ = some (.slice xBw xnw xcw) := (Arr.cell hL.k 43 (by omega)).trans (congrArg some HQ.out.2.1)
          have lx := Blk.lt hL.k
          clear hgk
          by_cases hlt2 : i2 < xnw
          · have hxn : xnw ≤ 1000000 := HP.out.2.2.2.2.2.2.1
            have hB : Builds w9 wr 5 1 xBw xnw xcw (u8s lj) := ⟨hL.only, hL.win⟩
            obtain ⟨g, rfl, hg1, hg2⟩ := hB.at_ (by omega)
            have hcell := (hB.cell i2 (by omega)).trans (u8s_get lj i2 (by rw [HLI.out.1]; exact hlt2))
            have hfree := hB.free i2
            have hx := nth_lt HLI.out.2 (by omega) i2
            obtain ⟨x, hX⟩ : ∃ x, nth lj i2 = x := ⟨_, rfl⟩
            rw [hX] at hcell hx
            clear hX hB
            have hm : ((x : Int) + 1) % 256 = (((x + 1) % 256 : Nat) : Int) := by omega
            have HN := Lib.hid hm
            clear hm
            go_wp2_with fail
            go_region
            go_wp2_with fail
            go_roundg (xnw - (i2 + 1))
            case measure => have := HG.out; omega
            case rel =>
              refine ⟨i2 + 1, lj.set i2 ((x + 1) % 256), by omega, by omega, by go_num, ?_, ⟨by rw [List.length_set]; exact HLI.out.1, ?_⟩⟩
              · have h := hL.put2 i2 hlt2 ((x + 1) % 256)
                exact h
              · intro y hy
                rcases List.mem_or_eq_of_mem_set hy with hy | rfl
                · exact HLI.out.2 y hy
                · omega
          · clear hi HG
            go_wp2_with fail
            clear c43 lx
            go_loopg [25] xcm (fun gk v25 wr => ∃ (i3 : Nat) (xs : List Int), i3 ≤ xcm ∧ gk = xcm - i3 ∧ v25 = .int .i64 ((i3 : Nat) : Int) ∧ FLp w9 wr xb XF xA xn xc li xBw xnw xcw lj xC xcm xcd xs ∧ Hid (xs.length = xcm))
            case atStart => exact ⟨0, xx1, by omega, by omega, rfl, hL, HP.out.2.2.2.2.1.symm⟩
            case round =>
              clear hL
              obtain ⟨i3, xs, hi, hgk, rfl, hL, HLI⟩ := hrel
              have HG := Lib.hid (And.intro hi hgk)
              have c23 : wr.cell? ⟨xb, 23, none⟩ = some (.slice xC xcm xcd) := (Arr.cell hL.k 23 (by omega)).trans (congrArg some HQ.out.2.2)
              have lx := Blk.lt hL.k
              clear hgk
              by_cases hlt3 : i3 < xcm
              · have hxn : xcm ≤ 1001 := HP.out.2.2.2.2.2.2.2
                have ho := hL.sym.resolve_left (fun h => by have := h.2; omega)
                have hB : Builds w9 wr 3 1 xC xcm xcd (ints xs) := ⟨hL.only, ho⟩
                obtain ⟨g, rfl, hg1, hg2⟩ := hB.at_ (by omega)
                have hcell := (hB.cell i3 (by omega)).trans (ints_get xs i3 (by rw [HLI.out]; exact hlt3))
                have hfree := hB.free i3
                clear hB
                go_wp2_with fail
                go_roundg (xcm - (i3 + 1))
                case measure => have := HG.out; omega
                case rel => exact ⟨i3 + 1, xs.set i3 (-7), by omega, by omega, by go_num, hL.put3 ho i3 hlt3 (-7), (by show (xs.set i3 (-7)).length = xcm; rw [List.length_set]; exact HLI.out)⟩
              · have hb9r := hL.only
                have k7r := Arr.below H9.out.2.1 hb9r (Blk.lt H9.out.2.1)
                have k3r := Arr.below H9.out.1 hb9r (Blk.lt H9.out.1)
                have HFS := Lib.hid (HZ9.out wr hb9r)
                clear hL hi HG
                go_wp2_with (first
                  | (refine load_arrG (by rfl) 32 (.tmp 7) rfl rfl k7r Tryz.underlying32 rfl sw_size ?_)
                  | (refine load_arrG (by rfl) 32 (.tmp 3) rfl rfl k3r Tryz.underlying32 rfl sw_size ?_))
                with_reducible refine Calls.mono HFS.out ?_
                rintro e wZ ⟨rfl, hbZ⟩
                have hb9Z := hb9r.trans (hbZ.mono hb9r.size)
                have hcI := HCI.out wZ hb9Z
                have hcB := HCB.out wZ hb9Z
                go_wp2_with fail
                go_ret
                exact ⟨rfl, H9.out.2.2.2.2.1.trans (hb9Z.mono H9.out.2.2.2.2.1.size)⟩
end Go.Proofs.YtahboomghjdjhaaGreat
