/-
  A block's head, as the document reads it.
-/
import Derived.Test.YtahboomghjdjhaaGreatG49
import Derived.Test.YtahboomghjdjhaaGreatGRefB
namespace Go.Proofs.YtahboomghjdjhaaGreat
open Go.RowKit

set_option maxRecDepth 100000 in
set_option maxHeartbeats 1500000 in
theorem rbegin_any (B : Option Addr) (n c : Nat) (b : List Nat) (a : Nat) (w : World) (hB : Bs w B b) (hn : n = b.length) (hm : n ≤ 100000) (ha : a ≤ 8 * n) :
    Calls Tryz.prog 33 #[.slice B n c, .int .i64 (a : Int)] w fun e w' => BdRes w w' hdP b a e := by
  have HT := Lib.hid fun wx (hb : Below w.heap.size w wx) => (rtakeP B n c b a 3 wx (hB.below hb) hn (by omega) (by omega) (by omega) : Calls Tryz.prog 48 #[.slice B n c, .int .i64 (a : Int), .int .i64 3] wx fun e w' => TkpRes b a 3 e ∧ wx = w')
  have HT2 := Lib.hid fun wx (at_ : Nat) (h : at_ ≤ 1000000) (hb : Below w.heap.size w wx) => (rtakeP B n c b at_ 32 wx (hB.below hb) hn (by omega) (by omega) (by omega) : Calls Tryz.prog 48 #[.slice B n c, .int .i64 (at_ : Int), .int .i64 32] wx fun e w' => TkpRes b at_ 32 e ∧ wx = w')
  have HDY := Lib.hid fun wx (last : Bool) (at_ : Nat) (hb : Below w.heap.size w wx) (h : at_ ≤ 8 * n) => rdyn13_any last B n c b at_ wx (hB.below hb) hn hm h
  have HN := Lib.hid hn
  clear hB hn
  go_enter Tryz.func33, Tryz.ntmps33
  go_upto_region 1 with fail
  have hb0 : Below w.heap.size w (w.alloc (.cells bdZ 67)) := (Below.refl _ _).alloc (Nat.le_refl _) _
  have k4 : Blk (w.alloc (.cells bdZ 67)) w.heap.size 67 bdZ := Blk.new _ _ _
  change Code.wp _ _ _ _ (w.alloc (.cells bdZ 67))
  have hs1 : (w.alloc (.cells bdZ 67)).heap.size = w.heap.size + 1 := by simp
  generalize w.alloc (.cells bdZ 67) = w1 at *
  obtain ⟨g4, hg4⟩ : ∃ g, w.heap.size = g := ⟨_, rfl⟩
  rw [hg4] at k4 hs1
  rw [hg4]
  have HG := Lib.hid hg4
  clear hg4
  have HTT := Lib.hid (HT.out w1 hb0)
  unfold TkpRes at HTT
  have ct4 := Blk.cells k4
  have fx4 := Blk.frozens k4
  cases htk : tkP 3 b a with
  | error x =>
    rw [htk] at HTT
    obtain rfl := fe_tk_err htk
    have HE := Lib.hid (show hdP b a = .error 10 from paBind_no htk)
    clear htk
    go_wp2_with (go_at_call 48; refine HTT.out.mono ?_; rintro e w' ⟨rfl, rfl⟩)
    obtain ⟨k9, g9⟩ := bd_five k4 (.int .u8 0) (.bool false) (.int .i64 0) (.slice none 0 0) (.slice none 0 0)
    refine bodyPost_ret (results_three Tryz.results33 _ _ g4 67 bdZ _ _ _ rfl rfl rfl k9 Tryz.underlying67 rfl bd_size) rfl ?_
    unfold BdRes
    rw [HE.out]
    exact ⟨Below.then_only hb0 g9 hb0.size (by have := HG.out; omega), by decide, rfl⟩
  | ok r =>
    obtain ⟨v, m1⟩ := r
    rw [htk] at HTT
    obtain ⟨hv, hm1, hm1b⟩ := fe_tk_inv htk
    have hv8 : v < 8 := hv
    have hhd : hdP b a = hvP v b m1 := paBind_ok htk
    unfold hvP at hhd
    go_upto_region 5 with (go_at_call 48; refine HTT.out.mono ?_; rintro e w' ⟨rfl, rfl⟩)
    obtain ⟨kd, hkd⟩ : ∃ x, v / 2 = x := ⟨_, rfl⟩
    obtain ⟨la, hla⟩ : ∃ x : Bool, (v % 2 == 1) = x := ⟨_, rfl⟩
    have eKd : (v : Int) / 2 = (kd : Int) := by omega
    have eLa : ((v : Int) % 2 == 1) = la := by
      rw [← hla, Bool.eq_iff_iff, beq_iff_eq, beq_iff_eq]
      omega
    rw [hkd, hla] at hhd
    rw [eKd, eLa]
    have hkd3 : kd ≤ 3 := by omega
    have hm1n : m1 ≤ 8 * n := by rw [HN.out]; omega
    have em1 : (a : Int) + 3 = (m1 : Int) := by omega
    have k9 : Blk (w1.alloc (.cells (bdC (kd : Int) la 0 none 0 0 none 0 0) 67)) (g4 + 1) 67 (bdC (kd : Int) la 0 none 0 0 none 0 0) := Blk.new' _ _ _ _ hs1.symm
    have k4' := Blk.alloc k4 (.cells (bdC (kd : Int) la 0 none 0 0 none 0 0) 67)
    have hb2 := hb0.alloc hb0.size (.cells (bdC (kd : Int) la 0 none 0 0 none 0 0) 67)
    change Code.wp _ _ _ _ (w1.alloc (.cells (bdC (kd : Int) la 0 none 0 0 none 0 0) 67))
    clear hv hv8 hkd hla eKd eLa htk hm1 hm1b k4 hb0 HTT ct4 fx4
    generalize (v : Int) % 2 = z1 at *
    generalize (v : Int) / 2 = z2 at *
    generalize w1.alloc (.cells (bdC (kd : Int) la 0 none 0 0 none 0 0) 67) = w2 at *
    obtain ⟨g9, hg9⟩ : ∃ g, g4 + 1 = g := ⟨_, rfl⟩
    rw [hg9] at k9
    rw [hg9]
    have hne : g9 ≠ g4 := by omega
    have HG9 := Lib.hid hg9
    clear hg9
    have ct4 := Blk.cells k4'
    have fx4 := Blk.frozens k4'
    have ct9 := Blk.cells k9
    have fx9 := Blk.frozens k9
    by_cases h3 : kd = 3
    · have HE := Lib.hid (show hdP b a = .error 130 by rw [hhd, if_pos h3]; rfl)
      have q3 : ((kd : Int) == 3) = true := by rw [h3]; rfl
      clear hhd h3
      go_wp2_with fail
      obtain ⟨k9, g9⟩ := bd_five k4' (.int .u8 0) (.bool false) (.int .i64 0) (.slice none 0 0) (.slice none 0 0)
      refine bodyPost_ret (results_three Tryz.results33 _ _ g4 67 bdZ _ _ _ rfl rfl rfl k9 Tryz.underlying67 rfl bd_size) rfl ?_
      unfold BdRes
      rw [HE.out]
      exact ⟨Below.then_only hb2 g9 hb2.size (by have := HG.out; omega), by decide, rfl⟩
    · have q3 : ((kd : Int) == 3) = false := by rw [beq_eq_false_iff_ne]; omega
      rw [if_neg h3] at hhd
      by_cases h2 : kd = 2
      · subst h2
        have HE := Lib.hid (show hdP b a = dyP la b m1 by rw [hhd, if_pos rfl])
        have HDD := Lib.hid (HDY.out w2 la m1 hb2 hm1n)
        clear hhd h3
        replace k9 : Blk w2 g9 67 (bdC 2 la 0 none 0 0 none 0 0) := k9
        unfold BdRes at HDD
        clear ct9 fx9
        have ct9 := Blk.cells k9
        cases hdy : dyP la b m1 with
        | error x =>
          rw [hdy] at HDD
          have HE2 := Lib.hid (show hdP b a = .error x by rw [HE.out, hdy])
          clear hdy
          go_upto_region 10 with (go_at_call 49; refine HDD.out.mono ?_; rintro e w3 ⟨hb23, hx0, rfl⟩)
          have k10 : Blk (w3.alloc (.cells bdZ 67)) w3.heap.size 67 bdZ := Blk.new _ _ _
          have k4b := Blk.alloc (Blk.below k4' hb23 (Blk.lt k4')) (.cells bdZ 67)
          have hb4 := (hb2.trans (hb23.mono hb2.size)).alloc (hb2.trans (hb23.mono hb2.size)).size (.cells bdZ 67)
          change Code.wp _ _ _ _ (w3.alloc (.cells bdZ 67))
          clear ct4 fx4 ct9 k4' k9 hb23 hb2 HDD
          generalize w3.alloc (.cells bdZ 67) = w4 at *
          have ct4 := Blk.cells k4b
          have fx4 := Blk.frozens k4b
          have ct10 := Blk.cells k10
          go_wp2_with fail
          obtain ⟨k5, g5⟩ := bd_five k4b (.int .u8 0) (.bool false) (.int .i64 0) (.slice none 0 0) (.slice none 0 0)
          refine bodyPost_ret (results_three Tryz.results33 _ _ g4 67 _ _ _ _ rfl rfl rfl k5 Tryz.underlying67 rfl bd_size) rfl ?_
          unfold BdRes
          rw [HE2.out]
          exact ⟨Below.then_only hb4 g5 hb4.size (by have := HG.out; omega), hx0, rfl⟩
        | ok r =>
          obtain ⟨k, m⟩ := r
          rw [hdy] at HDD
          have HE2 := Lib.hid (show hdP b a = .ok (k, m) by rw [HE.out, hdy])
          clear hdy
          go_upto_region 10 with (go_at_call 49; refine HDD.out.mono ?_; rintro e w3 ⟨hb23, A1, n1, c1, lo, A2, n2, c2, fa, rfl, hBd, hA1, hA2⟩)
          have k10 : Blk (w3.alloc (.cells (bdC ((k.kind : Nat) : Int) k.last ((k.left : Nat) : Int) A1 n1 c1 A2 n2 c2) 67)) w3.heap.size 67 (bdC ((k.kind : Nat) : Int) k.last ((k.left : Nat) : Int) A1 n1 c1 A2 n2 c2) := Blk.new _ _ _
          have k4b := Blk.alloc (Blk.below k4' hb23 (Blk.lt k4')) (.cells (bdC ((k.kind : Nat) : Int) k.last ((k.left : Nat) : Int) A1 n1 c1 A2 n2 c2) 67)
          have hba : Below w3.heap.size w3 (w3.alloc (.cells (bdC ((k.kind : Nat) : Int) k.last ((k.left : Nat) : Int) A1 n1 c1 A2 n2 c2) 67)) := (Below.refl _ _).alloc (Nat.le_refl _) _
          have hBd4 := hBd.below hba
          have hb3 := hb2.trans (hb23.mono hb2.size)
          have hb4 := hb3.trans (hba.mono hb3.size)
          have hg4w : g4 < w2.heap.size := Blk.lt k4'
          have hww2 := hb2.size
          change Code.wp _ _ _ _ (w3.alloc (.cells (bdC ((k.kind : Nat) : Int) k.last ((k.left : Nat) : Int) A1 n1 c1 A2 n2 c2) 67))
          clear ct4 fx4 ct9 k4' k9 hb23 hb2 HDD hBd hba hb3
          generalize w3.alloc (.cells (bdC ((k.kind : Nat) : Int) k.last ((k.left : Nat) : Int) A1 n1 c1 A2 n2 c2) 67) = w4 at *
          have ct4 := Blk.cells k4b
          have fx4 := Blk.frozens k4b
          have ct10 := Blk.cells k10
          go_wp2_with fail
          obtain ⟨k5, g5⟩ := bd_five k4b (.int .u8 (k.kind : Int)) (.bool k.last) (.int .i64 (k.left : Int)) (.slice A1 n1 c1) (.slice A2 n2 c2)
          refine bodyPost_ret (results_three Tryz.results33 _ _ g4 67 _ _ _ _ rfl rfl rfl k5 Tryz.underlying67 rfl bd_size) rfl ?_
          unfold BdRes
          rw [HE2.out]
          exact ⟨Below.then_only hb4 g5 hb4.size (by have := HG.out; omega), A1, n1, c1, lo, A2, n2, c2, fa, rfl, ⟨rd_far hBd4.r1 g5 (fun ad h => by have := hA1 ad h; omega), hBd4.l1, rd_far hBd4.r2 g5 (fun ad h => by have := hA2 ad h; omega), hBd4.l2, hBd4.code⟩, fun ad h => Nat.le_trans hww2 (hA1 ad h), fun ad h => Nat.le_trans hww2 (hA2 ad h)⟩
      · have q2 : ((kd : Int) == 2) = false := by rw [beq_eq_false_iff_ne]; omega
        rw [if_neg h2] at hhd
        by_cases h1 : kd = 1
        · subst h1
          have HE := Lib.hid (show hdP b a = .ok (⟨1, la, 0, padL longsF, padL farsF⟩, m1) by rw [hhd, if_pos rfl]; rfl)
          clear hhd h3 h2
          replace k9 : Blk w2 g9 67 (bdC 1 la 0 none 0 0 none 0 0) := k9
          clear ct9 fx9
          have ct9 := Blk.cells k9
          have fx9 := Blk.frozens k9
          have hww2 := hb2.size
          go_upto_region 13 with (go_at_call 50; refine (rlongsF_any _).mono ?_; rintro e w3 ⟨A1, c1, rfl, hO1⟩; have k9a := Blk.below k9 hO1.1 (Blk.lt k9); have ct9a := Blk.cells k9a; have fx9a := Blk.frozens k9a)
          have k9b := Blk.set_ k9a 3 (.slice A1 288 c1)
          have gz3 := only_set (only_self w3 g9) 3 (.slice A1 288 c1)
          have k4b := Blk.grown (Blk.below k4' hO1.1 (Blk.lt k4')) gz3 (by intro e; injection e with e; omega)
          have hb3 := hb2.trans (hO1.1.mono hb2.size)
          have hb4 := Below.then_only hb3 gz3 hb3.size (by have := HG.out; have := HG9.out; omega)
          have ho1 := own_only hO1.2 k9a (by decide) gz3
          clear ct4 fx4 ct9 fx9 ct9a fx9a k4' k9 hb3 hb2 k9a hO1
          generalize w3.setCell ⟨g9, 3, none⟩ (.slice A1 288 c1) = w4 at *
          replace k9b : Blk w4 g9 67 (bdC 1 la 0 A1 288 c1 none 0 0) := k9b
          go_upto_region 14 with (go_at_call 51; refine (rfarsF_any _).mono ?_; rintro e w5 ⟨A2, c2, rfl, hO2⟩; have k9a := Blk.below k9b hO2.1 (Blk.lt k9b); have ct9a := Blk.cells k9a; have fx9a := Blk.frozens k9a)
          have k9c := Blk.set_ k9a 4 (.slice A2 32 c2)
          have gz4 := only_set (only_self w5 g9) 4 (.slice A2 32 c2)
          have k4c := Blk.grown (Blk.below k4b hO2.1 (Blk.lt k4b)) gz4 (by intro e; injection e with e; omega)
          have hb5 := hb4.trans (hO2.1.mono hb4.size)
          have hb6 := Below.then_only hb5 gz4 hb5.size (by have := HG.out; have := HG9.out; omega)
          have ho1b := own_only (own_below ho1 hO2.1) k9a (by decide) gz4
          have ho2b := own_only hO2.2 k9a (by decide) gz4
          have hww4 := hb4.size
          clear ct9a fx9a k4b k9b hb5 hb4 k9a hO2 ho1
          generalize w5.setCell ⟨g9, 4, none⟩ (.slice A2 32 c2) = w6 at *
          replace k9c : Blk w6 g9 67 (bdC 1 la 0 A1 288 c1 A2 32 c2) := k9c
          have ct9 := Blk.cells k9c
          have ct4 := Blk.cells k4c
          have fx4 := Blk.frozens k4c
          go_wp2_with fail
          obtain ⟨k5, g5⟩ := bd_five k4c (.int .u8 1) (.bool la) (.int .i64 0) (.slice A1 288 c1) (.slice A2 32 c2)
          refine bodyPost_ret (results_three Tryz.results33 _ _ g4 67 _ _ _ _ rfl rfl rfl k5 Tryz.underlying67 rfl bd_size) rfl ?_
          have p1 := own_only ho1b k4c (by decide) g5
          have p2 := own_only ho2b k4c (by decide) g5
          have l1 : longsF.length = 288 := by decide +kernel
          have l2 : farsF.length = 32 := by decide
          unfold BdRes
          rw [HE.out]
          refine ⟨Below.then_only hb6 g5 hb6.size (by have := HG.out; omega), A1, 288, c1, longsF, A2, 32, c2, farsF, rfl, ⟨own_rd p1, l1.symm, own_rd p2, l2.symm, fun _ => ⟨rfl, rfl, can_longsF, can_farsF⟩⟩, fun ad h => ?_, fun ad h => ?_⟩
          · obtain ⟨g', hg', hge⟩ := own_at p1 (by omega)
            rw [hg'] at h
            injection h with h
            rw [← h]
            show w.heap.size ≤ g'
            omega
          · obtain ⟨g', hg', hge⟩ := own_at p2 (by omega)
            rw [hg'] at h
            injection h with h
            rw [← h]
            show w.heap.size ≤ g'
            omega
        · obtain rfl : kd = 0 := by omega
          rw [if_neg (by omega)] at hhd
          replace k9 : Blk w2 g9 67 (bdC 0 la 0 none 0 0 none 0 0) := k9
          clear ct9 fx9
          have ct9 := Blk.cells k9
          have fx9 := Blk.frozens k9
          obtain ⟨a0, ha0⟩ : ∃ x, (m1 + 7) / 8 * 8 = x := ⟨_, rfl⟩
          have hsu : hdP b a = paBind (tkP 32) (szP la) b a0 := by rw [hhd, ← ha0]; rfl
          have hge : m1 ≤ a0 ∧ a0 < m1 + 8 ∧ a0 % 8 = 0 := by omega
          have HSU := Lib.hid hsu
          clear hsu hhd ha0
          go_wp2_with fail
          go_loopg [1] (a0 - m1) (fun gk v1 wr => ∃ x : Nat, m1 ≤ x ∧ x ≤ a0 ∧ gk = a0 - x ∧ v1 = .int .i64 (x : Int) ∧ wr = w2)
          case atStart => exact ⟨m1, Nat.le_refl _, hge.1, rfl, rfl, rfl⟩
          case round =>
            obtain ⟨x, hx1, hx2, hgk, rfl, hw⟩ := hrel
            subst hw
            have HGK := Lib.hid hgk
            clear hgk
            by_cases h8 : x % 8 = 0
            · obtain rfl : x = a0 := by omega
              have q8 : ((x : Int) % 8 != 0) = false := by rw [bne_eq_false_iff_eq]; omega
              have HTU := Lib.hid (HT2.out wr x (by omega) hb2)
              unfold TkpRes at HTU
              cases htu : tkP 32 b x with
              | error y =>
                rw [htu] at HTU
                obtain rfl := fe_tk_err htu
                have HE3 := Lib.hid (show hdP b a = .error 10 by rw [HSU.out]; exact paBind_no htu)
                clear htu
                go_wp2_with (go_at_call 48; refine HTU.out.mono ?_; rintro e w' ⟨rfl, rfl⟩)
                obtain ⟨k5, g5⟩ := bd_five k4' (.int .u8 0) (.bool false) (.int .i64 0) (.slice none 0 0) (.slice none 0 0)
                refine bodyPost_ret (results_three Tryz.results33 _ _ g4 67 _ _ _ _ rfl rfl rfl k5 Tryz.underlying67 rfl bd_size) rfl ?_
                unfold BdRes
                rw [HE3.out]
                exact ⟨Below.then_only hb2 g5 hb2.size (by have := HG.out; omega), by decide, rfl⟩
              | ok r =>
                obtain ⟨v2, m2⟩ := r
                rw [htu] at HTU
                obtain ⟨hv2, hm2, hm2b⟩ := fe_tk_inv htu
                have hv32 : v2 < 4294967296 := hv2
                have hsz := HSU.out
                rw [paBind_ok htu] at hsz
                unfold szP at hsz
                obtain ⟨lf, hlf⟩ : ∃ y, v2 % 65536 = y := ⟨_, rfl⟩
                obtain ⟨rt, hrt⟩ : ∃ y, v2 / 65536 = y := ⟨_, rfl⟩
                rw [hlf, hrt] at hsz
                have elf : (v2 : Int) % 65536 = (lf : Int) := by omega
                have ert : (v2 : Int) / 65536 = (rt : Int) := by omega
                have hlr : lf < 65536 ∧ rt < 65536 := by omega
                have em2 : (x : Int) + 32 = (m2 : Int) := by omega
                have hxm : x ≤ 1000000 := by omega
                clear htu hv2 hv32 hlf hrt hm2b hm2
                go_upto_region 21 with (go_at_call 48; refine HTU.out.mono ?_; rintro e w' ⟨rfl, rfl⟩)
                have k9b := Blk.set_ k9 2 (.int .i64 (lf : Int))
                have gz := only_set (only_self wr g9) 2 (.int .i64 (lf : Int))
                have k4b := Blk.grown k4' gz (by intro e; injection e with e; omega)
                have hb3 := Below.then_only hb2 gz hb2.size (by have := HG.out; have := HG9.out; omega)
                clear ct9 fx9 ct4 fx4 k9 k4' hb2 HTU
                generalize wr.setCell ⟨g9, 2, none⟩ (.int .i64 (lf : Int)) = w4 at *
                replace k9b : Blk w4 g9 67 (bdC 0 la (lf : Int) none 0 0 none 0 0) := k9b
                have ct9 := Blk.cells k9b
                have ct4 := Blk.cells k4b
                have fx4 := Blk.frozens k4b
                by_cases hs : lf + rt = 65535
                · have HE3 := Lib.hid (show hdP b a = .ok (⟨0, la, lf, [], []⟩, m2) by rw [hsz, if_pos hs]; rfl)
                  have qs : (((lf : Int) + (rt : Int)) != 65535) = false := by rw [bne_eq_false_iff_eq]; omega
                  have es : (lf : Int) + (rt : Int) = 65535 := by omega
                  clear hsz hs
                  go_wp2_with fail
                  obtain ⟨k5, g5⟩ := bd_five k4b (.int .u8 0) (.bool la) (.int .i64 (lf : Int)) (.slice none 0 0) (.slice none 0 0)
                  refine bodyPost_ret (results_three Tryz.results33 _ _ g4 67 _ _ _ _ rfl rfl rfl k5 Tryz.underlying67 rfl bd_size) rfl ?_
                  unfold BdRes
                  rw [HE3.out]
                  exact ⟨Below.then_only hb3 g5 hb3.size (by have := HG.out; omega), none, 0, 0, [], none, 0, 0, [], rfl, ⟨Rd.nil_, rfl, Rd.nil_, rfl, fun h => absurd rfl h⟩, fun ad h => (by cases h), fun ad h => (by cases h)⟩
                · have HE3 := Lib.hid (show hdP b a = .error 131 by rw [hsz, if_neg hs]; rfl)
                  have qs : (((lf : Int) + (rt : Int)) != 65535) = true := by rw [bne_iff_ne]; omega
                  have es : ¬ ((lf : Int) + (rt : Int) = 65535) := by omega
                  clear hsz hs
                  go_wp2_with fail
                  obtain ⟨k5, g5⟩ := bd_five k4b (.int .u8 0) (.bool false) (.int .i64 0) (.slice none 0 0) (.slice none 0 0)
                  refine bodyPost_ret (results_three Tryz.results33 _ _ g4 67 _ _ _ _ rfl rfl rfl k5 Tryz.underlying67 rfl bd_size) rfl ?_
                  unfold BdRes
                  rw [HE3.out]
                  exact ⟨Below.then_only hb3 g5 hb3.size (by have := HG.out; omega), by decide, rfl⟩
            · have q8 : ((x : Int) % 8 != 0) = true := by rw [bne_iff_ne]; omega
              go_wp2_with fail
              go_roundg (a0 - (x + 1))
              case measure => have := HGK.out; omega
              case rel => exact ⟨x + 1, by omega, by omega, rfl, by go_num, rfl⟩
end Go.Proofs.YtahboomghjdjhaaGreat
