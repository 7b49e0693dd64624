/-
  Walks: two lists of tokens compared; BlockWrites.
-/
import Derived.Test.YtfcefhaaphieeaaGreatG50
import Derived.Test.YtfcefhaaphieeaaGreatGOpenK
namespace Go.Proofs.YtfcefhaaphieeaaGreat
open Go.RowKit

theorem elem_tk : Elem Tryz.prog 25 55 3 24 := Elem.mk' (z := .agg #[.int .u8 0, .int .i64 0, .int .i64 0]) (by kernel_rfl) (by kernel_rfl) rfl (by omega)
theorem tkV_one (l : List Tk) : ∀ u ∈ tkV l, u.oneCell' = true := by
  intro u hu
  unfold tkV at hu
  obtain ⟨t, _, h⟩ := List.mem_flatMap.1 hu
  simp only [List.mem_cons, List.not_mem_nil, or_false] at h
  rcases h with rfl | rfl | rfl <;> rfl

set_option maxRecDepth 100000 in
set_option maxHeartbeats 1000000 in
theorem tks_same_any (A B : Option Addr) (n c d : Nat) (l : List Tk) (w : World) (hA : Rd w A (tkV l)) (hB : Rd w B (tkV l)) (hn : n = l.length) (hm : n ≤ 100000) :
    Calls Tryz.prog 8 #[.slice A n c, .slice B n d] w fun e w' => e = .returned (.bool true) ∧ ∃ q, w' = w.drewN q := by
  have HN := Lib.hid hn
  clear hn
  go_enter Tryz.func8, Tryz.ntmps8
  go_wp2_with fail
  go_loopg [5] n (fun gk v wr => ∃ k : Nat, k ≤ n ∧ gk = n - k ∧ v = .int .i64 k ∧ ∃ q, wr = w.drewN q)
  case atStart => exact ⟨0, by omega, by omega, rfl, 0, rfl⟩
  case round =>
    obtain ⟨k, h2, hk, rfl, q, rfl⟩ := hrel
    by_cases hlt : k < n
    · obtain ⟨b, off, rfl, hc1, hc2, hc3⟩ := hA.tk (i := k) (by have := HN.out; omega)
      obtain ⟨b', off', rfl, hd1, hd2, hd3⟩ := hB.tk (i := k) (by have := HN.out; omega)
      generalize l[k]'(by have := HN.out; omega) = r at *
      obtain ⟨a, x, y⟩ := r
      dsimp only at *
      go_wp2_with fail
      go_quiet (fail)
      go_wp2_with fail
      go_roundg (n - (k + 1))
      case measure => omega
      case rel => exact ⟨k + 1, by omega, by omega, by go_num, _, rfl⟩
    · go_wp2_with fail
      go_ret
      exact ⟨rfl, _, rfl⟩

theorem wr_spec {pl : List Nat} {pb : Int} {kind : Nat} {raw : List Nat} {l : List Tk} {last : Bool} (hpx : ∀ x ∈ pl, x < 256) : (∀ x ∈ wrM pl pb kind raw l last, x < 256) ∧ (wrM pl pb kind raw l last).length ≤ 1100000 := by
  unfold wrM
  by_cases h : wrE pl pb kind raw l last = 0
  · rw [if_pos h]
    unfold wrE at h
    by_cases hm : mayB pl pb = true
    · rw [if_pos hm] at h
      obtain ⟨b, rfl, hb, _, _⟩ := mayB_true hm
      by_cases ha : askK kind raw.length l = 0
      · rw [if_pos ha] at h
        rw [Int.toNat_natCast] at h ⊢
        have hP := ((Pen.of_may hpx hm).1.all (wrNums b kind raw l last)).1
        have hl := hP.len
        refine ⟨hP.byte, ?_⟩
        by_cases hf : 8388608 < b + lenN (wrNums b kind raw l last)
        · rw [if_pos hf] at h; omega
        · omega
      · rw [if_neg ha] at h; exact absurd h ha
    · rw [if_neg hm] at h; omega
  · rw [if_neg h]; simp

theorem writes_out (A : Option Addr) (pn pc : Nat) (pb : Int) (kind : Nat) (R : Option Addr) (rn rc : Nat) (T : Option Addr) (n c : Nat) (last : Bool) (w : World) (h : 500 < pn ∨ 500 < rn ∨ 200 < n) :
    Calls Tryz.prog 3 #[.agg #[.slice A pn pc, .int .i64 pb], .int .u8 (kind : Int), .slice R rn rc, .slice T n c, .bool last] w fun e w' => e = .returned (.bool true) ∧ Below w.heap.size w w' := by
  by_cases h1 : 500 < pn
  · have d1 : decide ((pn : Int) > 500) = true := decide_eq_true (by omega)
    go_enter Tryz.func3, Tryz.ntmps3
    go_wp2_with fail
    go_ret
    exact ⟨rfl, (Below.refl _ _).alloc (Nat.le_refl _) _⟩
  · have d1 : decide ((pn : Int) > 500) = false := decide_eq_false (by omega)
    by_cases h2 : 500 < rn
    · have d2 : decide ((rn : Int) > 500) = true := decide_eq_true (by omega)
      go_enter Tryz.func3, Tryz.ntmps3
      go_wp2_with fail
      go_ret
      exact ⟨rfl, (Below.refl _ _).alloc (Nat.le_refl _) _⟩
    · have d2 : decide ((rn : Int) > 500) = false := decide_eq_false (by omega)
      have d3 : decide ((n : Int) > 200) = true := decide_eq_true (by omega)
      go_enter Tryz.func3, Tryz.ntmps3
      go_wp2_with fail
      go_ret
      exact ⟨rfl, (Below.refl _ _).alloc (Nat.le_refl _) _⟩

set_option maxRecDepth 100000 in
set_option maxHeartbeats 4000000 in
theorem writes_walk (A : Option Addr) (pn pc : Nat) (pl : List Nat) (pb : Int) (kind : Nat) (R : Option Addr) (rn rc : Nat) (raw : List Nat) (T : Option Addr) (n c : Nat) (l : List Tk) (last : Bool) (w : World)
    (hA : Rd w A (u8s pl)) (hpn : pn = pl.length) (hpx : ∀ x ∈ pl, x < 256) (hb1 : -9223372036854775808 ≤ pb) (hb2 : pb ≤ 9223372036854775807) (hk0 : kind < 256) (hR : Rd w R (u8s raw)) (hx : ∀ x ∈ raw, x < 256) (hrn : rn = raw.length)
    (hT : Rd w T (tkV l)) (hn : n = l.length) (hk : ∀ t ∈ l, TkN t) (h1 : pn ≤ 500) (h2 : rn ≤ 500) (h3 : n ≤ 200) :
    Calls Tryz.prog 3 #[.agg #[.slice A pn pc, .int .i64 pb], .int .u8 (kind : Int), .slice R rn rc, .slice T n c, .bool last] w fun e w' => e = .returned (.bool true) ∧ Below w.heap.size w w' := by
  have d1 : decide ((pn : Int) > 500) = false := decide_eq_false (by omega)
  have d2 : decide ((rn : Int) > 500) = false := decide_eq_false (by omega)
  have d3 : decide ((n : Int) > 200) = false := decide_eq_false (by omega)
  have HTw := Lib.hid fun wx (h : Rd wx A (u8s pl)) => show Calls Tryz.prog 4 #[.agg #[.slice A pn pc, .int .i64 pb]] wx (fun e w' => ∃ A' c', e = .returned (.agg #[.slice A' pn c', .int .i64 pb]) ∧ Below wx.heap.size wx w' ∧ Rd w' A' (u8s pl) ∧ pn ≤ c') from by
    subst hpn
    refine (twin_any A pc pl pb wx (rd_u8 h hpx) (fun e => by have := h.2 e; simpa [u8s] using this) (by omega)).mono ?_
    rintro e w' ⟨A', c', he, ho, hb'⟩
    exact ⟨A', c', he, hb', own_rd ho, own_cap ho⟩
  have HW := Lib.hid fun (wx : World) (A : Option Addr) (pc : Nat) (R : Option Addr) (rc : Nat) (T : Option Addr) (c : Nat) hA (hpc : pn ≤ pc) hR hT => write_any A pn pc pl pb kind R rn rc raw T n c l last wx hA hpn hpc hpx (by omega) hb1 hb2 hk0 hR hx hrn (by omega) hT hn (by omega) hk
  have HV := Lib.hid fun (wx : World) hA hR hT => rwrite_any A pn pc pl pb kind R rn rc raw T n c l last wx hA hpn hpx (by omega) hb1 hb2 hk0 hR hx hrn (by omega) hT hn (by omega) hk
  obtain ⟨hM1, hM2⟩ := wr_spec (pl := pl) (pb := pb) (kind := kind) (raw := raw) (l := l) (last := last) hpx
  have HS := Lib.hid fun (wx : World) (X Y : Option Addr) (xc yc : Nat) (h : Rd wx X (u8s pl)) (h' : Rd wx Y (u8s pl)) => show Calls Tryz.prog 7 #[.agg #[.slice X pn xc, .int .i64 pb], .agg #[.slice Y pn yc, .int .i64 pb]] wx (fun e w' => e = .returned (.bool true) ∧ Below wx.heap.size wx w') from by
    subst hpn
    exact same_yes X Y xc yc pl pb wx (rd_u8 h hpx) (fun e => by have := h.2 e; simpa [u8s] using this) (rd_u8 h' hpx) (fun e => by have := h'.2 e; simpa [u8s] using this)
  have HC := Lib.hid fun (wx : World) (X : Option Addr) (xc : Nat) (h : Rd wx X (u8s raw)) => show (convert 22 9 (.slice X rn xc)).run Tryz.prog wx = .ok (.string (str raw)) wx from by
    subst hrn
    exact conv_bytes (P := Tryz.prog) wx 22 5 Tryz.underlying22 Tryz.underlying5 9 Tryz.underlying9 X raw xc (rd_u8 h hx) (fun e => by have := h.2 e; simpa [u8s] using this)
  have HK := Lib.hid fun (wx : World) (X Y : Option Addr) (xc yc : Nat) (h : Rd wx X (tkV l)) (h' : Rd wx Y (tkV l)) => tks_same_any X Y n xc yc l wx h h' hn (by omega)
  generalize wrM pl pb kind raw l last = M at *
  generalize wrN pl pb kind raw l last = N at *
  generalize wrE pl pb kind raw l last = E at *
  obtain ⟨m, hm⟩ : ∃ m, M.length = m := ⟨_, rfl⟩
  have HM := Lib.hid (And.intro hm hM1)
  have HX := Lib.hid fun (wx : World) (X Y : Option Addr) (xc yc : Nat) (h : Rd wx X (u8s M)) (h' : Rd wx Y (u8s M)) => show Calls Tryz.prog 7 #[.agg #[.slice X m xc, .int .i64 (N : Int)], .agg #[.slice Y m yc, .int .i64 (N : Int)]] wx (fun e w' => e = .returned (.bool true) ∧ Below wx.heap.size wx w') from by
    subst hm
    exact same_yes X Y xc yc M N wx (rd_u8 h hM1) (fun e => by have := h.2 e; simpa [u8s] using this) (rd_u8 h' hM1) (fun e => by have := h'.2 e; simpa [u8s] using this)
  rw [hm] at hM2
  have hlr : (u8s raw).length = rn * 1 := by rw [u8s_length]; omega
  have hlt : (tkV l).length = n * 3 := by rw [tkV_length]; omega
  have HLR := Lib.hid (And.intro hlr hlt)
  clear hm hM1 hlr hlt hpn hrn hn hk hx hpx
  go_enter Tryz.func3, Tryz.ntmps3
  go_wp2_with fail
  refine (HTw.out _ (hA.alloc _)).mono ?_
  rintro e w1 ⟨A1, c1, rfl, hb1', r1, hc1⟩
  obtain ⟨b1, z0, k0⟩ := box1 hb1'
  have hR1 := hR.below b1
  have hT1 := hT.below b1
  clear hb1' HTw
  go_wp2_with (first
    | (at_builtin; refine grow belem_u8 rfl (.const (.slice none 0 0)) (.tmp 35) rfl rfl (Builds.nil_ w1 _ _) rfl hR1 HLR.out.1 (u8s_one _) rn (by omega) (u8s raw) rfl (by omega) (by omega) ?_; intro A2 c2 w2 hB2 hg2)
    | (at_builtin; refine grow elem_tk rfl (.const (.slice none 0 0)) (.tmp 37) rfl rfl (Builds.nil_ w2 _ _) rfl (hT1.below hB2.1) HLR.out.2 (tkV_one _) n (by omega) (tkV l) rfl (by omega) (by omega) ?_; intro A3 c3 w3 hB3 hg3))
  have b2 : Below w1.heap.size w1 w3 := hB2.1.trans (hB3.1.mono hB2.1.size)
  have r1 := r1.below b2
  have k0 := Blk.below k0 b2 z0
  have z0 : w.heap.size < w3.heap.size := Nat.lt_of_lt_of_le z0 b2.size
  have r2 := hB2.rd.below hB3.1
  have r3 := hB3.rd
  have b3 := b1.trans (b2.mono b1.size)
  clear hB2 hB3 b1 b2 hg2 hg3 hR1 hT1
  refine (HW.out _ A1 c1 A2 c2 A3 c3 (r1.alloc _) hc1 (r2.alloc _) (r3.alloc _)).mono ?_
  rintro e w4 ⟨hb4, A4, c4, rfl, ho4⟩
  rw [HM.out.1] at ho4
  rw [HM.out.1]
  have h4 : Builds (w3.alloc (.cells #[.slice A1 pn c1, .int .i64 pb] 24)) w4 5 1 A4 m c4 (u8s M) := ⟨hb4, ho4⟩
  clear hb4 ho4 HW
  have kp : Blk (w3.alloc (.cells #[.slice A1 pn c1, .int .i64 pb] 24)) w3.heap.size 24 #[.slice A1 pn c1, .int .i64 pb] := Blk.new _ _ _
  have k0 := Blk.alloc k0 (.cells #[.slice A1 pn c1, .int .i64 pb] 24)
  have b3 := b3.alloc (Nat.le_of_lt z0) (.cells #[.slice A1 pn c1, .int .i64 pb] 24)
  have r1 := r1.alloc (.cells #[.slice A1 pn c1, .int .i64 pb] 24)
  have r2 := r2.alloc (.cells #[.slice A1 pn c1, .int .i64 pb] 24)
  have r3 := r3.alloc (.cells #[.slice A1 pn c1, .int .i64 pb] 24)
  have zp : w3.heap.size < (w3.alloc (.cells #[.slice A1 pn c1, .int .i64 pb] 24)).heap.size := by simp
  obtain ⟨gp, hgp⟩ : ∃ g, w3.heap.size = g := ⟨_, rfl⟩
  rw [hgp] at kp zp z0
  rw [hgp]
  clear hgp
  generalize (w3.alloc (.cells #[.slice A1 pn c1, .int .i64 pb] 24)) = W at *
  have z0 : w.heap.size < W.heap.size := Nat.lt_trans z0 zp
  have k04 := Blk.below k0 h4.1 z0
  have d04 := Blk.cells k04
  have y04 := Blk.lt k04
  go_wp2_with fail
  have b4 := b3.trans (h4.1.mono b3.size)
  refine (HV.out _ ((hA.below b4).alloc _) ((hR.below b4).alloc _) ((hT.below b4).alloc _)).mono ?_
  rintro e w5 ⟨hb5', A5, m5, c5, rfl, hm5, r5⟩
  obtain ⟨b5, z4, k4⟩ := box1 hb5'
  have k4 : Blk w5 w4.heap.size 24 #[.slice A4 m c4, .int .i64 (N : Int)] := k4
  rw [HM.out.1] at hm5
  obtain rfl := hm5
  have h5 := h4.below b5
  clear hb5' b4 d04 y04 HV h4
  have d4 := Blk.cells k4
  have y4 := Blk.lt k4
  go_wp2_with fail
  refine (HX.out _ A4 A5 c4 c5 (h5.rd.alloc _) (r5.alloc _)).mono ?_
  rintro e w6 ⟨rfl, hb6'⟩
  obtain ⟨b6, z5, k5⟩ := box1 hb6'
  have k4 := Blk.below k4 b6 z4
  have h6 := h5.below b6
  clear hb6' d4 y4 h5 HX r5 k04
  go_wp2_with fail
  go_loopg [18] m5 (fun gk vi wr => ∃ i xs, i ≤ m5 ∧ gk = m5 - i ∧ vi = .int .i64 ((i : Nat) : Int) ∧ Builds W wr 5 1 A4 m5 c4 (u8s xs) ∧ (∀ x ∈ xs, x < 256) ∧ Blk wr w4.heap.size 24 #[.slice A4 m5 c4, .int .i64 (N : Int)])
  case atStart => exact ⟨0, M, by omega, by omega, rfl, h6, HM.out.2, k4⟩
  case round =>
    clear k4 h6 k5
    obtain ⟨i, xs, hi, hgk, rfl, hB, hxs, kx⟩ := hrel
    have HXS := Lib.hid hxs
    have HG := Lib.hid hgk
    have cx := Blk.cells kx
    have yx := Blk.lt kx
    clear hxs hgk
    by_cases hlt : i < m5
    · have hne := own_blk_ne hB.2 kx (by decide)
      obtain ⟨g, rfl, hg1, hg2⟩ := hB.at_ (by omega)
      have hxl : xs.length = m5 := by have := hB.len; rw [u8s_length] at this; omega
      have hcell := (hB.cell i (by omega)).trans (u8s_get xs i (by omega))
      have hfree := hB.free i
      have hx := nth_lt HXS.out (by omega) i
      have HXL := Lib.hid hxl; clear hxl
      generalize nth xs i = x at *
      have hm : ((x : Int) + 1) % 256 = (((x + 1) % 256 : Nat) : Int) := by omega
      have HN := Lib.hid hm
      have HNE := Lib.hid hne
      clear hm hne
      go_wp2_with fail
      go_region
      go_wp2_with fail
      go_roundg (m5 - (i + 1))
      case measure => have := HG.out; omega
      case rel =>
        have e1 : w4.heap.size ≠ g := fun e => HNE.out (by rw [e]; rfl)
        refine ⟨i + 1, xs.set i ((x + 1) % 256), by omega, by omega, by go_num, ?_, ?_, ?_⟩
        · rw [← pu8s_set]
          have := hB.set i (by omega) (.int .u8 (((x + 1) % 256 : Nat) : Int))
          exact this.drew
        · intro y hy
          rcases List.mem_or_eq_of_mem_set hy with hy | rfl
          · exact HXS.out y hy
          · omega
        · exact kx.far (p := ⟨g, i, none⟩) e1 _
    · have hz := hB.1
      have kp := Blk.below kp hz zp
      have k0 := Blk.below k0 hz z0
      have r1 := r1.below hz
      have r2 := r2.below hz
      have r3 := r3.below hz
      have bz := b3.trans (hz.mono b3.size)
      have d0 := Blk.cells k0
      have y0 := Blk.lt k0
      have dp := Blk.cells kp
      have yp := Blk.lt kp
      clear hB HXS hz b3
      go_wp2_with fail
      refine (HS.out _ A1 A c1 pc r1 (hA.below bz)).mono ?_
      rintro e w9 ⟨rfl, hb9⟩
      have e1 := HC.out w9 A2 c2 (r2.below hb9)
      have b9 := bz.trans (hb9.mono bz.size)
      have e2 := HC.out w9 R rc (hR.below b9)
      go_wp2_with fail
      refine (HK.out w9 A3 T c3 c (r3.below hb9) (hT.below b9)).mono ?_
      rintro e wk ⟨rfl, q, rfl⟩
      go_wp2_with fail
      go_ret
      exact ⟨rfl, below_drewN' b9 _⟩

theorem law_writes (A : Option Addr) (pl : List Nat) (pc : Nat) (pb : Int) (kind : Nat) (R : Option Addr) (raw : List Nat) (rc : Nat) (T : Option Addr) (l : List Tk) (c : Nat) (last : Bool) (w : World)
    (hin : InBs w A pl) (hb1 : -9223372036854775808 ≤ pb) (hb2 : pb ≤ 9223372036854775807) (hk0 : kind < 256) (hr : InBs w R raw) (ht : InTks w T l) :
    Calls Tryz.prog 3 #[.agg #[.slice A pl.length pc, .int .i64 pb], .int .u8 (kind : Int), .slice R raw.length rc, .slice T l.length c, .bool last] w fun e w' => e = .returned (.bool true) ∧ Below w.heap.size w w' := by
  by_cases hs : 500 < pl.length ∨ 500 < raw.length ∨ 200 < l.length
  · exact writes_out A _ pc pb kind R _ rc T _ c last w hs
  exact writes_walk A _ pc pl pb kind R _ rc raw T _ c l last w (hin.1.rd hin.2.1) rfl hin.1.2 hb1 hb2 hk0 (hr.1.rd hr.2.1) hr.1.2 rfl ht.1 rfl ht.2.2 (by omega) (by omega) (by omega)
end Go.Proofs.YtfcefhaaphieeaaGreat
