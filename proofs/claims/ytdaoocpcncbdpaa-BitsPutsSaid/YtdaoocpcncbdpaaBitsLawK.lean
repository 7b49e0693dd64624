/-
  BitsBack, walked.
-/
import Derived.Test.YtdaoocpcncbdpaaBitsLawW
namespace Go.Proofs.Ytdaoocpcncbdpaa
open Go.RowKit

theorem put_no (A : Option Addr) (c : Nat) (l : List Nat) (n : Int) (v : Nat) (k : Int) (w : World) (E : Nat) (hE : putE l n v k = E) (h0 : E ≠ 0) (hl : Bs w A l) (hm : l.length ≤ 1000000000)
    (h1 : -9223372036854775808 ≤ n) (h2 : n ≤ 9223372036854775807) (hv : v < 4294967296) (hk1 : -9223372036854775808 ≤ k) (hk2 : k ≤ 9223372036854775807) :
    Calls Try.prog 15 #[.agg #[.slice A l.length c, .int .i64 n], .int .u32 v, .int .i64 k] w fun e w' => PenRes w w' e [] 0 E := by
  subst hE
  unfold putE at h0 ⊢
  cases hmay : mayB l n with
  | false => exact put_bad A c l n v k w hl hm h1 h2 hmay
  | true =>
    obtain ⟨n, rfl, hn, -⟩ := mayB_true hmay
    cases hf : fitsB v k with
    | false => exact put_unfit A c l n v k w hl hm hn hmay hv hk1 hk2 hf
    | true =>
      obtain ⟨k, rfl⟩ := Int.eq_ofNat_of_zero_le (fitsB_true hf).1
      rw [hmay, hf] at h0
      have hfull : 8388608 < n + k := by
        refine Nat.lt_of_not_le fun h => h0 ?_
        simp only [if_pos]
        rw [if_neg (by omega)]
      simp only [if_pos]
      rw [if_pos (by omega)]
      exact put_full A c l n v k w hl hm hn hmay hv hf hfull

theorem putE_zero {l : List Nat} {n : Int} {v : Nat} {k : Int} (h : putE l n v k = 0) : ∃ m j : Nat, n = m ∧ k = j ∧ m ≤ 8388608 ∧ j ≤ 32 ∧ m + j ≤ 8388608 ∧ mayB l m = true ∧ fitsB v j = true ∧ v < 2 ^ j := by
  unfold putE at h
  cases hmay : mayB l n with
  | false => simp [hmay] at h
  | true =>
    cases hf : fitsB v k with
    | false => simp [hmay, hf] at h
    | true =>
      obtain ⟨m, rfl, hn, -⟩ := mayB_true hmay
      have h3 := fitsB_true hf
      obtain ⟨j, rfl⟩ := Int.eq_ofNat_of_zero_le h3.1
      refine ⟨m, j, rfl, rfl, hn, by omega, ?_, hmay, hf, by simpa using h3.2.2⟩
      rw [hmay, hf] at h
      simp only [if_pos] at h
      by_cases hb : 8388608 < (m : Int) + j
      · rw [if_pos hb] at h; omega
      · omega

theorem take_in (l : List Nat) (a k : Nat) (h : a + k ≤ 8 * l.length) (hk : k ≤ 32) : takeE l a k = 0 ∧ takeV l a k = numOf l a k := by
  have : takeE l a k = 0 := by unfold takeE; rw [if_neg (by omega), if_neg (by omega)]
  exact ⟨this, by unfold takeV; rw [if_pos this]; rfl⟩

set_option maxHeartbeats 1000000 in
theorem back_walk (A : Option Addr) (l : List Nat) (c : Nat) (n : Int) (v : Nat) (k a : Int) (w : World) (hin : InBs w A l) (h1 : -9223372036854775808 ≤ n) (h2 : n ≤ 9223372036854775807)
    (hv : v < 4294967296) (hk1 : -9223372036854775808 ≤ k) (hk2 : k ≤ 9223372036854775807) (ha1 : -9223372036854775808 ≤ a) (ha2 : a ≤ 9223372036854775807) :
    Calls Try.prog 5 #[.agg #[.slice A l.length c, .int .i64 n], .int .u32 v, .int .i64 k, .int .i64 a] w fun e w' => e = .returned (.bool true) ∧ Below w.heap.size w w' := by
  obtain ⟨hl, hA, hm⟩ := hin
  unfold maxLen at hm
  have HA := Lib.hid hA; clear hA
  have HM := Lib.hid hm; clear hm
  by_cases hbig : 10000 < l.length
  · go_enter Try.func5, Try.ntmps5
    go_wp2_with fail
    refine (alive_any _).mono ?_
    rintro e w1 ⟨rfl, hb1⟩
    obtain ⟨b1, z1, k1⟩ := box1 hb1
    have c1 := Blk.cells k1
    clear hb1
    go_wp2_with fail
    go_ret
    exact ⟨rfl, b1⟩
  · by_cases h0 : putE l n v k = 0
    · obtain ⟨n, k, rfl, rfl, hn8, hk32, hfull, hmay, hf, hvk⟩ := putE_zero h0
      obtain ⟨hP, -⟩ := Pen.of_may hl.2 hmay
      obtain ⟨hQ, hbits⟩ := hP.put v k
      have hback := hP.back v k hvk
      have hlen := hP.len
      obtain ⟨m, hm⟩ : ∃ m, putL l n v k = m := ⟨_, rfl⟩
      have HP := Lib.hid fun w hl hA => put_is A c l n v k w m (n + k) hm rfl hl hA hn8 hmay hv hf hfull
      rw [hm] at hQ hbits hback
      have hmlen := hQ.len
      have hml : m.length ≤ 11000 := by omega
      obtain ⟨t1, t2⟩ := take_in m n k (by omega) hk32
      rw [hback] at t2
      have HT := Lib.hid fun A c w hl => take_is A c m n k w v 0 t2 t1 hl (by omega) (by omega) (by omega)
      have hck : chkE m (n + k : Nat) = 0 := by unfold chkE; rw [hQ.may hfull]; rfl
      have HC := Lib.hid fun A c w hl => check_is A c m (n + k : Nat) w 0 hck hl (by omega) (by omega) (by omega)
      have HB := Lib.hid hbits
      have HL := Lib.hid (And.intro hlen hmlen)
      have hmb := hQ.byte
      clear hck t1 t2 hback hbits hlen hmlen hQ hP hm hmay hf hvk h0
      go_enter Try.func5, Try.ntmps5
      go_wp2_with fail
      refine (alive_any _).mono ?_
      rintro e w1 ⟨rfl, hb1⟩
      obtain ⟨b1, z1, k1⟩ := box1 hb1
      have c1 := Blk.cells k1
      have hl1 := hl.below b1
      clear hb1
      go_wp2_with fail
      refine (HP.out _ hl1 HA.out).mono ?_
      rintro e w2 ⟨hb2, A2, d2, rfl, hown2⟩
      have b2 := b1.trans (hb2.mono b1.size)
      have k2 := Blk.below k1 hb2 z1
      have z2 := Nat.lt_of_lt_of_le z1 hb2.size
      have hl2 := hl.below b2
      have x2 : Bs w2 A2 m := Bs.of_own hown2 hmb
      have c2 := Blk.cells k2
      clear c1 hb2 hown2
      go_wp2_with fail
      refine (HT.out A2 d2 _ (x2.alloc _)).mono ?_
      rintro e w3 ⟨rfl, rfl⟩
      go_wp2_with fail
      refine (HC.out A2 d2 _ (x2.alloc _)).mono ?_
      rintro e w3 ⟨rfl, hb3⟩
      obtain ⟨b3, z3, k3⟩ := box1 hb3
      have b4 := b2.trans (b3.mono b2.size)
      have k4 := Blk.below (Blk.alloc k2 _) hb3 (by simp; omega)
      have c4 := Blk.cells k4
      have z4 := Blk.lt k4
      have c3 := Blk.cells k3
      have hl4 := hl2.below b3
      have x4 := x2.below b3
      clear c2 hb3 hl1 hl2 x2
      by_cases hat : 0 ≤ a ∧ a < n
      · obtain ⟨ha0, han⟩ := hat
        obtain ⟨a, rfl⟩ := Int.eq_ofNat_of_zero_le ha0
        obtain ⟨s1, s2⟩ := take_in l a 1 (by have := HL.out; omega) (by omega)
        obtain ⟨u1, u2⟩ := take_in m a 1 (by have := HL.out; omega) (by omega)
        have e1 : numOf m a 1 = numOf l a 1 := numOf_congr fun i hi => by rw [HB.out, if_pos (by omega)]
        rw [e1] at u2
        have q1 := numOf_lt32 l a 1 (by omega)
        generalize numOf l a 1 = b at *
        have HS := Lib.hid fun w hl => take_is A c l a 1 w b 0 s2 s1 hl (by omega) (by omega) (by omega)
        have HU := Lib.hid fun w hl => take_is A2 d2 m a 1 w b 0 u2 u1 hl (by omega) (by omega) (by omega)
        clear s1 s2 u1 u2 e1
        go_wp2_with fail
        refine (HS.out _ hl4).mono ?_
        rintro e w4 ⟨rfl, rfl⟩
        go_wp2_with fail
        refine (HU.out _ x4).mono ?_
        rintro e w4 ⟨rfl, rfl⟩
        go_wp2_with fail
        go_ret
        exact ⟨rfl, b4⟩
      · by_cases hn : a < 0
        · go_wp2_with fail
          go_ret
          exact ⟨rfl, b4⟩
        · have hge : (n : Int) ≤ a := by omega
          go_wp2_with fail
          go_ret
          exact ⟨rfl, b4⟩
    · have HP := Lib.hid fun w hl => put_no A c l n v k w _ rfl h0 hl (by omega) h1 h2 hv hk1 hk2
      have he : ((putE l n v k : Int) != 0) = true := by rw [bne_iff_ne]; omega
      generalize putE l n v k = E at *
      go_enter Try.func5, Try.ntmps5
      go_wp2_with fail
      refine (alive_any _).mono ?_
      rintro e w1 ⟨rfl, hb1⟩
      obtain ⟨b1, z1, k1⟩ := box1 hb1
      have c1 := Blk.cells k1
      have hl1 := hl.below b1
      clear hb1
      go_wp2_with fail
      refine (HP.out _ hl1).mono ?_
      rintro e w2 ⟨hb2, A2, d2, rfl, hown2⟩
      have b2 := b1.trans (hb2.mono b1.size)
      clear c1 hb2 hown2
      go_wp2_with fail
      go_ret
      exact ⟨rfl, b2.alloc b2.size _⟩
end Go.Proofs.Ytdaoocpcncbdpaa
