/-
  BitsPuts, walked.
-/
import Derived.Test.YtdaoocpcncbdpaaPenG
namespace Go.Proofs.Ytdaoocpcncbdpaa
open Go.RowKit

set_option maxHeartbeats 4000000 in
set_option maxRecDepth 100000 in
theorem puts_walk (A : Option Addr) (l : List Nat) (c : Nat) (n : Int) (v : Nat) (k : Int) (w : World) (hin : InBs w A l) (h1 : -9223372036854775808 ≤ n) (h2 : n ≤ 9223372036854775807)
    (hv : v < 4294967296) (hk1 : -9223372036854775808 ≤ k) (hk2 : k ≤ 9223372036854775807) :
    Calls Try.prog 4 #[.agg #[.slice A l.length c, .int .i64 n], .int .u32 v, .int .i64 k] w fun e w' => e = .returned (.bool true) ∧ Below w.heap.size w w' := by
  obtain ⟨hl, hA, hm⟩ := hin
  unfold maxLen at hm
  have HA := Lib.hid hA; clear hA
  have HM := Lib.hid hm; clear hm
  by_cases hbig : 10000 < l.length
  · go_enter Try.func4, Try.ntmps4
    go_wp2_with fail
    go_ret
    exact ⟨rfl, (Below.refl _ _).alloc (Nat.le_refl _) _⟩
  · obtain ⟨m, hmm⟩ : ∃ m, putM l n v k = m := ⟨_, rfl⟩
    obtain ⟨N, hNN⟩ : ∃ m, putN l n v k = m := ⟨_, rfl⟩
    obtain ⟨E, hEE⟩ : ∃ m, putE l n v k = m := ⟨_, rfl⟩
    obtain ⟨q, hqq⟩ : ∃ m, alnM l n = m := ⟨_, rfl⟩
    obtain ⟨M, hMM⟩ : ∃ m, alnN l n = m := ⟨_, rfl⟩
    obtain ⟨F, hFF⟩ : ∃ m, chkE l n = m := ⟨_, rfl⟩
    have hlt := hl.2
    obtain ⟨hm1, hm2⟩ := putM_spec l n v k hlt (by omega)
    obtain ⟨hq1, hq2⟩ := alnM_spec l n hlt (by omega)
    rw [hmm] at hm1 hm2
    rw [hqq] at hq1 hq2
    have hl10 : l.length ≤ 10000 := by omega
    have HP := Lib.hid fun A c w (hl : Bs w A l) hA => (put_any A c l n v k w hl hA (by omega) h1 h2 hv hk1 hk2).mono fun _ _ h => PenRes.is h hmm hNN hEE
    have HR := Lib.hid fun A c w (hl : Bs w A l) hA => (rput_any A c l n v k w hl hA (by omega) h1 h2 hv hk1 hk2).mono fun _ _ h => PenRes.is h hmm hNN hEE
    have HG := Lib.hid fun A c w (hl : Bs w A l) hA => (align_any A c l n w hl hA (by omega) h1 h2).mono fun _ _ h => PenRes.is h hqq hMM hFF
    have HH := Lib.hid fun A c w (hl : Bs w A l) hA => (ralign_any A c l n w hl hA (by omega) h1 h2).mono fun _ _ h => PenRes.is h hqq hMM hFF
    have HC := Lib.hid fun A c w (hl : Bs w A l) => chk_is A c l n F w hFF hl (by omega) h1 h2
    have HD := Lib.hid fun A c w (hl : Bs w A l) => rchk_is A c l n F w hFF hl (by omega) h1 h2
    have HT := Lib.hid fun A c w (hl : Bs w A l) hA => twin_any A c l n w hl hA (by omega)
    have BL := Lib.hid hlt
    have BM := Lib.hid hm2
    have BQ := Lib.hid hq2
    clear hmm hNN hEE hqq hMM hFF hlt hm2 hq2
    go_enter Try.func4, Try.ntmps4
    go_wp2_with fail
    refine (HT.out A c _ (hl.alloc _) HA.out).mono ?_
    rintro e w1 ⟨A1, c1, rfl, own1, hb1⟩
    obtain ⟨b1, z1, k1⟩ := box1 hb1
    have k1 : Blk w1 w.heap.size 33 #[.slice A l.length c, .int .i64 n] := k1
    have d1 := Blk.cells k1
    have y1 := Blk.lt k1
    have kp1 := k1
    have l1 : Bs w1 A1 l := Bs.of_own own1 BL.out
    have N1 := Lib.hid (own_nil own1)
    have hl1 := hl.below b1
    clear hb1 own1
    go_wp2_with fail
    refine (HP.out A1 c1 _ (l1.alloc _) N1.out).mono ?_
    rintro e w2 ⟨hb2, A2, c2, rfl, own2⟩
    obtain ⟨b2, z2, k2⟩ := box1 hb2
    have k2 : Blk w2 w1.heap.size 33 #[.slice A1 l.length c1, .int .i64 n] := k2
    have k1 := Blk.below k1 b2 z1
    have d1 := Blk.cells k1
    have y1 := Blk.lt k1
    have hl2 := hl1.below b2
    have l2 := l1.below b2
    have hB2 : Builds _ w2 _ 1 A2 _ _ _ := ⟨hb2, own2⟩
    have G2 := Lib.hid fun g h => (own2.lt g h).2
    clear hb2 own2
    go_wp2_with fail
    refine (HR.out A c _ (hl2.alloc _) HA.out).mono ?_
    rintro e w3 ⟨hb3, A3, c3, rfl, own3⟩
    obtain ⟨b3, z3, k3⟩ := box1 hb3
    have k3 : Blk w3 w2.heap.size 33 #[.slice A2 m.length c2, .int .i64 N] := k3
    have k2 := Blk.below k2 b3 z2
    have k1 := Blk.below k1 b3 (Blk.lt k1)
    have d2 := Blk.cells k2
    have y2 := Blk.lt k2
    have hl3 := hl2.below b3
    have l3 := l2.below b3
    have hB2 := hB2.below b3
    have x3 : Bs w3 A3 m := Bs.of_own own3 BM.out
    have N3 := Lib.hid (own_nil own3)
    clear hb3 own3
    clear d1
    go_wp2_with fail
    refine (HG.out A1 c1 _ (l3.alloc _) N1.out).mono ?_
    rintro e w4 ⟨hb4, A4, c4, rfl, own4⟩
    obtain ⟨b4, z4, k4⟩ := box1 hb4
    have k4 : Blk w4 w3.heap.size 33 #[.slice A3 m.length c3, .int .i64 N] := k4
    have k3 := Blk.below k3 b4 (Blk.lt k3)
    have k2 := Blk.below k2 b4 (Blk.lt k2)
    have k1 := Blk.below k1 b4 (Blk.lt k1)
    have d1 := Blk.cells k1
    have y1 := Blk.lt k1
    have hl4 := hl3.below b4
    have l4 := l3.below b4
    have hB4 : Builds _ w4 _ 1 A4 _ _ _ := ⟨hb4, own4⟩
    have hB2 := hB2.below b4
    have x3 := x3.below b4
    clear hb4 own4
    clear d2
    go_wp2_with fail
    refine (HH.out A c _ (hl4.alloc _) HA.out).mono ?_
    rintro e w5 ⟨hb5, A5, c5, rfl, own5⟩
    obtain ⟨b5, z5, k5⟩ := box1 hb5
    have k5 : Blk w5 w4.heap.size 33 #[.slice A4 q.length c4, .int .i64 M] := k5
    have k4 := Blk.below k4 b5 (Blk.lt k4)
    have k3 := Blk.below k3 b5 (Blk.lt k3)
    have k2 := Blk.below k2 b5 (Blk.lt k2)
    have k1 := Blk.below k1 b5 (Blk.lt k1)
    have hl5 := hl4.below b5
    have l5 := l4.below b5
    have hB4 := hB4.below b5
    have hB2 := hB2.below b5
    have x3 := x3.below b5
    have x5 : Bs w5 A5 q := Bs.of_own own5 BQ.out
    have N5 := Lib.hid (own_nil own5)
    clear hb5 own5
    clear d1
    have d1 := Blk.cells k1
    have y1 := Blk.lt k1
    have d2 := Blk.cells k2
    have y2 := Blk.lt k2
    have d3 := Blk.cells k3
    have y3 := Blk.lt k3
    have d4 := Blk.cells k4
    have y4 := Blk.lt k4
    have d5 := Blk.cells k5
    have y5 := Blk.lt k5
    go_wp2_with fail
    have k6 : Blk (w5.alloc (.cells #[.slice A5 q.length c5, .int .i64 M] 33)) w5.heap.size 33 #[.slice A5 q.length c5, .int .i64 M] := Blk.new _ _ _
    have y6 := Blk.lt k6
    have k1 := Blk.alloc k1 (.cells #[.slice A5 q.length c5, .int .i64 M] 33)
    have k2 := Blk.alloc k2 (.cells #[.slice A5 q.length c5, .int .i64 M] 33)
    have k3 := Blk.alloc k3 (.cells #[.slice A5 q.length c5, .int .i64 M] 33)
    have k4 := Blk.alloc k4 (.cells #[.slice A5 q.length c5, .int .i64 M] 33)
    have k5 := Blk.alloc k5 (.cells #[.slice A5 q.length c5, .int .i64 M] 33)
    have hB4 := hB4.alloc (.cells #[.slice A5 q.length c5, .int .i64 M] 33)
    have hB2 := hB2.alloc (.cells #[.slice A5 q.length c5, .int .i64 M] 33)
    have x3 := x3.alloc (.cells #[.slice A5 q.length c5, .int .i64 M] 33)
    have x5 := x5.alloc (.cells #[.slice A5 q.length c5, .int .i64 M] 33)
    have hl6 := hl5.alloc (.cells #[.slice A5 q.length c5, .int .i64 M] 33)
    have l6 := l5.alloc (.cells #[.slice A5 q.length c5, .int .i64 M] 33)
    clear d1 d2 d3 d4 d5 hl2 hl3 hl4 hl5 l2 l3 l4 l5 b2 b3 b4 b5
    have x2 := rd_u8 hB2.rd BM.out
    have x4 := rd_u8 hB4.rd BQ.out
    have N2 := Lib.hid (own_nil hB2.2)
    have N4 := Lib.hid (own_nil hB4.2)
    go_wp2_with fail
    generalize (w5.alloc (.cells #[.slice A5 q.length c5, .int .i64 M] 33)) = W at *
    have HS := Lib.hid fun wx (b : Below W.heap.size W wx) => (show wx.cell? ⟨w.heap.size, 0, none⟩ = some (.slice A l.length c) ∧ wx.cell? ⟨w.heap.size, 1, none⟩ = some (.int .i64 n) ∧ wx.cell? ⟨w1.heap.size, 0, none⟩ = some (.slice A1 l.length c1) ∧ wx.cell? ⟨w1.heap.size, 1, none⟩ = some (.int .i64 n) ∧ wx.cell? ⟨w2.heap.size, 0, none⟩ = some (.slice A2 m.length c2) ∧ wx.cell? ⟨w2.heap.size, 1, none⟩ = some (.int .i64 (N : Int)) ∧ wx.cell? ⟨w3.heap.size, 0, none⟩ = some (.slice A3 m.length c3) ∧ wx.cell? ⟨w3.heap.size, 1, none⟩ = some (.int .i64 (N : Int)) ∧ wx.cell? ⟨w4.heap.size, 0, none⟩ = some (.slice A4 q.length c4) ∧ wx.cell? ⟨w4.heap.size, 1, none⟩ = some (.int .i64 (M : Int)) ∧ wx.cell? ⟨w5.heap.size, 0, none⟩ = some (.slice A5 q.length c5) ∧ wx.cell? ⟨w5.heap.size, 1, none⟩ = some (.int .i64 (M : Int)) from ⟨(Blk.below k1 b (Blk.lt k1)).cell 0, (Blk.below k1 b (Blk.lt k1)).cell 1, (Blk.below k2 b (Blk.lt k2)).cell 0, (Blk.below k2 b (Blk.lt k2)).cell 1, (Blk.below k3 b (Blk.lt k3)).cell 0, (Blk.below k3 b (Blk.lt k3)).cell 1, (Blk.below k4 b (Blk.lt k4)).cell 0, (Blk.below k4 b (Blk.lt k4)).cell 1, (Blk.below k5 b (Blk.lt k5)).cell 0, (Blk.below k5 b (Blk.lt k5)).cell 1, (Blk.below k6 b (Blk.lt k6)).cell 0, (Blk.below k6 b (Blk.lt k6)).cell 1⟩)
    have HX := Lib.hid fun wx (b : Below W.heap.size W wx) => (same_yes A2 A3 c2 c3 m N wx (x2.below b) N2.out (x3.below b) N3.out).mono fun _ w' (h : _ ∧ Below wx.heap.size wx w') => And.intro h.1 (b.trans (h.2.mono b.size))
    have HY := Lib.hid fun wx (b : Below W.heap.size W wx) => (same_yes A4 A5 c4 c5 q M wx (x4.below b) N4.out (x5.below b) N5.out).mono fun _ w' (h : _ ∧ Below wx.heap.size wx w') => And.intro h.1 (b.trans (h.2.mono b.size))
    have HC' := Lib.hid fun wx (b : Below W.heap.size W wx) => (HC.out A1 c1 wx (l6.below b)).mono fun _ w' (h : _ ∧ Below wx.heap.size wx w') => And.intro h.1 (b.trans (h.2.mono b.size))
    have HD' := Lib.hid fun wx (b : Below W.heap.size W wx) => (HD.out A c wx (hl6.below b)).mono fun _ w' (h : _ ∧ Below wx.heap.size wx w') => And.intro h.1 (b.trans (h.2.mono b.size))
    have s0 := HS.out W (Below.refl _ _)
    go_region_held3 (fun wx => wx.cell? ⟨w.heap.size, 0, none⟩ = some (.slice A l.length c) ∧ wx.cell? ⟨w.heap.size, 1, none⟩ = some (.int .i64 n) ∧ wx.cell? ⟨w1.heap.size, 0, none⟩ = some (.slice A1 l.length c1) ∧ wx.cell? ⟨w1.heap.size, 1, none⟩ = some (.int .i64 n) ∧ wx.cell? ⟨w2.heap.size, 0, none⟩ = some (.slice A2 m.length c2) ∧ wx.cell? ⟨w2.heap.size, 1, none⟩ = some (.int .i64 (N : Int)) ∧ wx.cell? ⟨w3.heap.size, 0, none⟩ = some (.slice A3 m.length c3) ∧ wx.cell? ⟨w3.heap.size, 1, none⟩ = some (.int .i64 (N : Int)) ∧ wx.cell? ⟨w4.heap.size, 0, none⟩ = some (.slice A4 q.length c4) ∧ wx.cell? ⟨w4.heap.size, 1, none⟩ = some (.int .i64 (M : Int)) ∧ wx.cell? ⟨w5.heap.size, 0, none⟩ = some (.slice A5 q.length c5) ∧ wx.cell? ⟨w5.heap.size, 1, none⟩ = some (.int .i64 (M : Int))) (first | exact s0 | exact s4 | exact s3 | exact s2 | exact s1) (first
      | (go_at_call 20; have hh := be; clear hh; with_reducible refine Calls.mono (HC'.out _ (by first | with_reducible exact be | with_reducible exact below_drewN' be _ | with_reducible exact Below.drew be)) ?_; rintro e wd ⟨rfl, bd⟩; have s4 := HS.out _ bd)
      | (go_at_call 21; have hh := bc; clear hh; with_reducible refine Calls.mono (HD'.out _ (by first | with_reducible exact bc | with_reducible exact below_drewN' bc _ | with_reducible exact Below.drew bc)) ?_; rintro e wd ⟨rfl, bd⟩; have s4 := HS.out _ bd)
      | (go_at_call 20; have hh := bb; clear hh; with_reducible refine Calls.mono (HC'.out _ (by first | with_reducible exact bb | with_reducible exact below_drewN' bb _ | with_reducible exact Below.drew bb)) ?_; rintro e wc ⟨rfl, bc⟩; have s3 := HS.out _ bc)
      | (go_at_call 21; have hh := bb; clear hh; with_reducible refine Calls.mono (HD'.out _ (by first | with_reducible exact bb | with_reducible exact below_drewN' bb _ | with_reducible exact Below.drew bb)) ?_; rintro e wc ⟨rfl, be⟩; have s3 := HS.out _ be)
      | (go_at_call 19; have hh := ba; clear hh; with_reducible refine Calls.mono (HY.out _ (by first | with_reducible exact ba | with_reducible exact below_drewN' ba _ | with_reducible exact Below.drew ba)) ?_; rintro e wb ⟨rfl, bb⟩; have s2 := HS.out _ bb)
      | (go_at_call 19; have hh := (Below.refl W.heap.size W); clear hh; with_reducible refine Calls.mono (HX.out _ (by first | with_reducible exact (Below.refl W.heap.size W) | with_reducible exact below_drewN' (Below.refl W.heap.size W) _ | with_reducible exact Below.drew (Below.refl W.heap.size W))) ?_; rintro e wa ⟨rfl, ba⟩; have s1 := HS.out _ ba))
    have hB2 := hB2.below bd
    have hB4 := hB4.below bd
    have k3 := Blk.below k3 bd (Blk.lt k3)
    have k5 := Blk.below k5 bd (Blk.lt k5)
    clear s0 s1 s2 s3 s4 HS HX HY HC' HD' HC HD HP HR HG HH HT x2 x3 x4 x5 l6 hl6 k1 k2 k4 k6 bc bb ba bd N2 N4 N3 N5
    go_wp2_with fail
    go_loopg [16] m.length (fun gk vi wr => ∃ i xs, i ≤ m.length ∧ gk = m.length - i ∧ vi = .int .i64 ((i : Nat) : Int) ∧ Builds (w1.alloc (.cells #[.slice A1 l.length c1, .int .i64 n] 33)) wr 5 1 A2 m.length c2 (u8s xs) ∧ (∀ x ∈ xs, x < 256) ∧ Blk wr w2.heap.size 33 #[.slice A2 m.length c2, .int .i64 N] ∧ Blk wr w4.heap.size 33 #[.slice A4 q.length c4, .int .i64 M] ∧ wr.ownsRow (w3.alloc (.cells #[.slice A3 m.length c3, .int .i64 (N : Int)] 33)).heap.size 5 1 (.slice A4 q.length c4) q.length (u8s q))
    case atStart => exact ⟨0, m, by omega, by omega, rfl, hB2, BM.out, k3, k5, hB4.2⟩
    case round =>
      obtain ⟨i, xs, hi, hgk, rfl, hB, hxs, kx, ka, oa⟩ := hrel
      have HXS := Lib.hid hxs
      have cx := Blk.cells kx
      have fx := Blk.frozens kx
      have yx := Blk.lt kx
      clear hxs hB2 hB4 k3 k5
      by_cases hlt : i < m.length
      · have hne := own_blk_ne hB.2 kx (by decide)
        have hne2 := own_blk_ne hB.2 ka (by decide)
        obtain ⟨g, rfl, hg1, hg2⟩ := hB.at_ (by omega)
        have hxl : xs.length = m.length := by have := hB.len; rw [u8s_length] at this; omega
        have hcell := (hB.cell i (by omega)).trans (u8s_get xs i (by omega))
        have hfree := hB.free i
        have hx := nth_lt HXS.out (by omega) i
        have hgY : g < w2.heap.size := G2.out g rfl
        have HXL := Lib.hid hxl; clear hxl
        generalize nth xs i = x at *
        have hm : ((x : Int) + 1) % 256 = (((x + 1) % 256 : Nat) : Int) := by omega
        have hY' : (Value.slice A4 q.length c4).ownBlock ≠ some g := fun h => by have := own_row_ge oa g h; simp at this; omega
        have HN := Lib.hid (And.intro hm hY')
        have HNE := Lib.hid (And.intro hne hne2)
        clear hm hY' hne hne2
        go_wp2_with fail
        go_region
        go_wp2_with fail
        go_roundg (m.length - (i + 1))
        case measure => omega
        case rel =>
          have e1 : w2.heap.size ≠ g := fun e => HNE.out.1 (by rw [e]; rfl)
          have e2 : w4.heap.size ≠ g := fun e => HNE.out.2 (by rw [e]; rfl)
          refine ⟨i + 1, xs.set i ((x + 1) % 256), by omega, by omega, by go_num, ?_, ?_, ?_, ?_, ?_⟩
          · rw [← u8s_set]
            have := hB.set i (by omega) (.int .u8 (((x + 1) % 256 : Nat) : Int))
            exact this.drew
          · intro y hy
            rcases List.mem_or_eq_of_mem_set hy with hy | rfl
            · exact HXS.out y hy
            · omega
          · exact kx.far (p := ⟨g, i, none⟩) e1 _
          · exact ka.far (p := ⟨g, i, none⟩) e2 _
          · exact own_far oa HN.out.2 _
      · have hB4 : Builds (w1.alloc (.cells #[.slice A1 l.length c1, .int .i64 n] 33)) wr 5 1 A4 q.length c4 (u8s q) := ⟨hB.1, own_far_base oa (by simp; omega)⟩
        clear hB oa HXS G2
        go_wp2_with fail
        go_loopg [17] q.length (fun gk vi wr => ∃ i xs, i ≤ q.length ∧ gk = q.length - i ∧ vi = .int .i64 ((i : Nat) : Int) ∧ Builds (w1.alloc (.cells #[.slice A1 l.length c1, .int .i64 n] 33)) wr 5 1 A4 q.length c4 (u8s xs) ∧ (∀ x ∈ xs, x < 256) ∧ Blk wr w4.heap.size 33 #[.slice A4 q.length c4, .int .i64 M])
        case atStart => exact ⟨0, q, by omega, by omega, rfl, hB4, BQ.out, ka⟩
        case round =>
          clear hi hgk hlt hB4 ka kx
          obtain ⟨i, xs, hi, hgk, rfl, hB, hxs, kx⟩ := hrel
          have HXS := Lib.hid hxs
          have cx := Blk.cells kx
          have fx := Blk.frozens kx
          have yx := Blk.lt kx
          clear hxs
          by_cases hlt : i < q.length
          · have hne := own_blk_ne hB.2 kx (by decide)
            obtain ⟨g, rfl, hg1, hg2⟩ := hB.at_ (by omega)
            have hxl : xs.length = q.length := by have := hB.len; rw [u8s_length] at this; omega
            have hcell := (hB.cell i (by omega)).trans (u8s_get xs i (by omega))
            have hfree := hB.free i
            have hx := nth_lt HXS.out (by omega) i
            have HXL := Lib.hid hxl; clear hxl
            generalize nth xs i = x at *
            have hm : ((x : Int) + 1) % 256 = (((x + 1) % 256 : Nat) : Int) := by omega
            have HN := Lib.hid hm
            have HNE := Lib.hid hne
            clear hm hne
            go_wp2_with fail
            go_region
            go_wp2_with fail
            go_roundg (q.length - (i + 1))
            case measure => omega
            case rel =>
              have e1 : w4.heap.size ≠ g := fun e => HNE.out (by rw [e]; rfl)
              refine ⟨i + 1, xs.set i ((x + 1) % 256), by omega, by omega, by go_num, ?_, ?_, ?_⟩
              · rw [← u8s_set]
                have := hB.set i (by omega) (.int .u8 (((x + 1) % 256 : Nat) : Int))
                exact this.drew
              · intro y hy
                rcases List.mem_or_eq_of_mem_set hy with hy | rfl
                · exact HXS.out y hy
                · omega
              · exact kx.far (p := ⟨g, i, none⟩) e1 _
          · have hz := hB.1
            have l9 := (l1.alloc (.cells #[.slice A1 l.length c1, .int .i64 n] 33)).below hz
            have hl9 := (hl1.alloc (.cells #[.slice A1 l.length c1, .int .i64 n] 33)).below hz
            have k9 := Blk.below (Blk.new w1 33 #[.slice A1 l.length c1, .int .i64 n]) hz (Blk.lt (Blk.new w1 33 #[.slice A1 l.length c1, .int .i64 n]))
            have k8 := Blk.below (Blk.alloc kp1 (.cells #[.slice A1 l.length c1, .int .i64 n] 33)) hz (Blk.lt (Blk.alloc kp1 (.cells #[.slice A1 l.length c1, .int .i64 n] 33)))
            have d9 := Blk.cells k9
            have d8 := Blk.cells k8
            have HZ := Lib.hid (b1.trans (((Below.refl w1.heap.size w1).alloc (Nat.le_refl _) (.cells #[.slice A1 l.length c1, .int .i64 n] 33) |>.trans (hz.mono (by simp))).mono b1.size))
            clear hB HXS hz
            go_wp2_with fail
            refine (same_yes A1 A c1 c l n _ l9 N1.out hl9 HA.out).mono ?_
            rintro e w9 ⟨rfl, hb9⟩
            go_wp2_with fail
            go_ret
            exact ⟨rfl, HZ.out.trans (hb9.mono HZ.out.size)⟩
end Go.Proofs.Ytdaoocpcncbdpaa
