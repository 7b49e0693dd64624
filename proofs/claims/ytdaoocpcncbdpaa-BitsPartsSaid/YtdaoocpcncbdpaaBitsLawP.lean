/-
  BitsParts, walked.
-/
import Derived.Test.YtdaoocpcncbdpaaBitsLawK
namespace Go.Proofs.Ytdaoocpcncbdpaa
open Go.RowKit

theorem part_bit (v low i : Nat) : v / 2 ^ low / 2 ^ i % 2 = v / 2 ^ (low + i) % 2 := by rw [Nat.div_div_eq_div_mul, ← Nat.pow_add]
theorem low_bit (v low i : Nat) (h : i < low) : v % 2 ^ low / 2 ^ i % 2 = v / 2 ^ i % 2 := by
  have e : low = i + (low - i) := by omega
  have e2 : low - i = (low - i - 1) + 1 := by omega
  rw [e, Nat.pow_add, Nat.mod_mul_right_div_self, e2, Nat.pow_succ, Nat.mul_comm (2 ^ (low - i - 1)) 2, Nat.mod_mul_right_mod]

/-- Two parts are the whole. -/
theorem Pen.parts {l : List Nat} {n : Nat} (h : Pen l n) (v k low : Nat) (hlow : low ≤ k) (hv : v < 2 ^ k) :
    putL (putL l n (v % 2 ^ low) low) (n + low) (v / 2 ^ low) (k - low) = putL l n v k ∧ numOf (putL l n v k) n low = v % 2 ^ low ∧ numOf (putL l n v k) (n + low) (k - low) = v / 2 ^ low ∧ v / 2 ^ low < 2 ^ (k - low) := by
  obtain ⟨h1, b1⟩ := h.put v k
  obtain ⟨h2, b2⟩ := h.put (v % 2 ^ low) low
  obtain ⟨h3, b3⟩ := h2.put (v / 2 ^ low) (k - low)
  have hlt : v / 2 ^ low < 2 ^ (k - low) := by
    rw [Nat.div_lt_iff_lt_mul (Nat.two_pow_pos _), ← Nat.pow_add, Nat.sub_add_cancel hlow]; exact hv
  refine ⟨bytes_ext h3.byte h1.byte ?_ fun i _ => ?_, ?_, ?_, hlt⟩
  · rw [h3.len, h1.len]; omega
  · rw [b3, b2, b1]
    by_cases c1 : i < n
    · rw [if_pos (by omega), if_pos c1, if_pos c1]
    · by_cases c2 : i < n + low
      · rw [if_pos c2, if_neg c1, if_pos c2, if_neg c1, if_pos (by omega), low_bit _ _ _ (by omega)]
      · by_cases c3 : i < n + k
        · rw [if_neg c2, if_pos (by omega), if_neg c1, if_pos c3, part_bit, show low + (i - (n + low)) = i - n by omega]
        · rw [if_neg c2, if_neg (by omega), if_neg c1, if_neg c3]
  · refine numOf_bits _ _ v _ fun i hi => ?_
    rw [b1, if_neg (by omega), if_pos (by omega), show n + i - n = i by omega]
  · rw [numOf_bits _ _ (v / 2 ^ low) _ fun i hi => ?_, Nat.mod_eq_of_lt hlt]
    rw [b1, if_neg (by omega), if_pos (by omega), part_bit, show n + low + i - n = low + i by omega]

theorem and_u64 (a b : Nat) (ha : a < 18446744073709551616) (hb : b < 18446744073709551616) : bits .and .u64 (a : Int) (b : Int) = ((a &&& b : Nat) : Int) :=
  (bits_nat .u64 64 (by decide) (fun n h0 h1 => by rw [IntKind.wrap_u64]; omega) a b (by omega) (by omega)).1

set_option maxHeartbeats 2000000 in
set_option maxRecDepth 100000 in
theorem parts_walk (A : Option Addr) (l : List Nat) (c : Nat) (n : Int) (v : Nat) (k a : Int) (w : World) (hin : InBs w A l) (h1 : -9223372036854775808 ≤ n) (h2 : n ≤ 9223372036854775807)
    (hv : v < 4294967296) (hk1 : -9223372036854775808 ≤ k) (hk2 : k ≤ 9223372036854775807) (ha1 : -9223372036854775808 ≤ a) (ha2 : a ≤ 9223372036854775807) :
    Calls Try.prog 6 #[.agg #[.slice A l.length c, .int .i64 n], .int .u32 v, .int .i64 k, .int .i64 a] w fun e w' => e = .returned (.bool true) ∧ Below w.heap.size w w' := by
  obtain ⟨hl, hA, hm⟩ := hin
  unfold maxLen at hm
  have HA := Lib.hid hA; clear hA
  have HM := Lib.hid hm; clear hm
  by_cases hbig : 10000 < l.length ∨ k < 0 ∨ 32 < k ∨ a < 0 ∨ k < a
  · go_enter Try.func6, Try.ntmps6
    go_wp2_with fail
    refine (alive_any _).mono ?_
    rintro e w1 ⟨rfl, hb1⟩
    obtain ⟨b1, z1, k1⟩ := box1 hb1
    have c1 := Blk.cells k1
    clear hb1
    have q1 : (10000 < l.length) ∨ (¬ 10000 < l.length ∧ k < 0) ∨ (¬ 10000 < l.length ∧ ¬ k < 0 ∧ 32 < k) ∨ (¬ 10000 < l.length ∧ ¬ k < 0 ∧ ¬ 32 < k ∧ a < 0) ∨ (¬ 10000 < l.length ∧ ¬ k < 0 ∧ ¬ 32 < k ∧ ¬ a < 0 ∧ k < a) := by omega
    rcases q1 with q1 | ⟨q1, q2⟩ | ⟨q1, q2, q3⟩ | ⟨q1, q2, q3, q4⟩ | ⟨q1, q2, q3, q4, q5⟩
    all_goals (go_wp2_with fail; go_ret; exact ⟨rfl, b1⟩)
  · by_cases h0 : putE l n v k = 0
    · obtain ⟨n, k, rfl, rfl, hn8, hk32, hfull, hmay, hf, hvk⟩ := putE_zero h0
      obtain ⟨a, rfl⟩ := Int.eq_ofNat_of_zero_le (show 0 ≤ a by omega)
      have hbig : l.length ≤ 10000 ∧ a ≤ k := by omega
      obtain ⟨hl10, hak⟩ := hbig
      obtain ⟨hP, -⟩ := Pen.of_may hl.2 hmay
      obtain ⟨hQ, -⟩ := hP.put v k
      obtain ⟨g1, g2, g3, g4⟩ := hP.parts v k a hak hvk
      have hR := (hP.put (v % 2 ^ a) a).1
      have hlen := hP.len
      obtain ⟨P, hP1, hP2⟩ : ∃ P : Nat, (2 : Int) ^ a = (P : Int) ∧ 2 ^ a = P := ⟨2 ^ a, by simp, rfl⟩
      have hPp : 0 < P := by rw [← hP2]; exact Nat.two_pow_pos _
      have hPl : P ≤ 4294967296 := by rw [← hP2]; exact pow2_le a 32 (by omega)
      have hand : v &&& (P - 1) = v % P := by rw [← hP2]; exact Nat.and_two_pow_sub_one_eq_mod v a
      rw [hP2] at g1 g2 g3 g4 hR
      have hVlt := shr_le v a
      rw [hP2] at hVlt
      have hL2 := Nat.mod_lt v hPp
      obtain ⟨x, hx⟩ : ∃ x, v % P = x := ⟨_, rfl⟩
      obtain ⟨y, hy⟩ : ∃ y, v / P = y := ⟨_, rfl⟩
      rw [hx] at g1 g2 hR hand hL2
      rw [hy] at g1 g3 g4 hVlt
      obtain ⟨m, hm⟩ : ∃ m, putL l n v k = m := ⟨_, rfl⟩
      obtain ⟨r, hr⟩ : ∃ r, putL l n x a = r := ⟨_, rfl⟩
      rw [hm] at g1 g2 g3 hQ
      rw [hr] at g1 hR
      have hmlen := hQ.len
      have hrlen := hR.len
      have hml : m.length ≤ 11000 := by omega
      have hrl : r.length ≤ 11000 := by omega
      have hf1 : fitsB x a = true := by unfold fitsB; rw [decide_eq_true_iff, Int.toNat_natCast, hP2]; exact ⟨by omega, by omega, hL2⟩
      obtain ⟨K, hK⟩ : ∃ K, k - a = K := ⟨_, rfl⟩
      have hKI : (k : Int) - a = (K : Int) := by omega
      rw [hK] at g1 g3 g4
      have hf2 : fitsB y K = true := by unfold fitsB; rw [decide_eq_true_iff, Int.toNat_natCast]; exact ⟨by omega, by omega, g4⟩
      have HP := Lib.hid fun w hl hA => put_is A c l n v k w m (n + k) hm rfl hl hA hn8 hmay hv hf hfull
      have HX := Lib.hid fun w hl hA => put_is A c l n x a w r (n + a) hr rfl hl hA hn8 hmay (by omega) hf1 (by omega)
      have HY := Lib.hid fun A c w hl hA => put_is A c r (n + a) y K w m (n + k) g1 (by omega) hl hA (by omega) (hR.may (by omega)) (by omega) hf2 (by omega)
      obtain ⟨t1, t2⟩ := take_in m n a (by omega) (by omega)
      rw [g2] at t2
      have HT := Lib.hid fun A c w hl => take_is A c m n a w x 0 t2 t1 hl (by omega) (by omega) (by omega)
      obtain ⟨u1, u2⟩ := take_in m (n + a) K (by omega) (by omega)
      rw [g3] at u2
      have HU := Lib.hid fun A c w hl => take_is A c m (n + a : Nat) K w y 0 u2 u1 hl (by omega) (by omega) (by omega)
      have hmb := hQ.byte
      have hrb := hR.byte
      have s1 : bits BinOp.and IntKind.u64 (v : Int) ((P : Int) - 1) = (x : Int) := by
        rw [show (P : Int) - 1 = ((P - 1 : Nat) : Int) by omega, and_u64 _ _ (by omega) (by omega), hand]
      have s2 : (v : Int) / P = (y : Int) := by rw [← hy]; rfl
      have hx32 : x < 4294967296 := by omega
      have hy32 : y < 4294967296 := by omega
      clear t1 t2 u1 u2 g1 g2 g3 g4 hR hQ hP hm hr hx hy hand hP2 hf hf1 hf2 hvk hmay h0 hK hlen hmlen hrlen
      go_enter Try.func6, Try.ntmps6
      go_wp2_with fail
      refine (alive_any _).mono ?_
      rintro e w1 ⟨rfl, hb1⟩
      obtain ⟨b1, z1, k1⟩ := box1 hb1
      have c1 := Blk.cells k1
      have hl1 := hl.below b1
      clear hb1
      go_wp2_with fail
      refine (HP.out _ hl1 HA.out).mono ?_
      rintro e w2 ⟨hb2, A2, d2, rfl, hown2⟩
      have b2 := b1.trans (hb2.mono b1.size)
      have k2 := Blk.below k1 hb2 z1
      have z2 := Nat.lt_of_lt_of_le z1 hb2.size
      have hl2 := hl.below b2
      have x2 : Bs w2 A2 m := Bs.of_own hown2 hmb
      have HN2 := Lib.hid (own_nil hown2)
      have c2 := Blk.cells k2
      clear c1 hb2 hown2
      go_wp2_with fail
      refine (HX.out _ (hl2.alloc _) HA.out).mono ?_
      rintro e w3 ⟨hb3, A3, d3, rfl, hown3⟩
      obtain ⟨b3, z3, k3⟩ := box1 hb3
      have b4 := b2.trans (b3.mono b2.size)
      have k4 := Blk.below (Blk.alloc k2 _) hb3 (by simp; omega)
      have x3 : Bs w3 A3 r := Bs.of_own hown3 hrb
      have hn3 := own_nil hown3
      have HN3 := Lib.hid hn3
      have c3 := Blk.cells k3
      have c4 := Blk.cells k4
      clear c2 hb3 hown3 hn3
      go_wp2_with fail
      refine (HY.out A3 d3 _ (x3.alloc _) HN3.out).mono ?_
      rintro e w5 ⟨hb5, A5, d5, rfl, hown5⟩
      obtain ⟨b5, z5, k5⟩ := box1 hb5
      have b6 := b4.trans (b5.mono b4.size)
      have k6 := Blk.below (Blk.alloc k4 (.cells #[.slice A3 r.length d3, .int .i64 ((n : Int) + a)] 33)) hb5 (by have := Blk.lt k4; simp; omega)
      have k7 := Blk.below (Blk.alloc k3 (.cells #[.slice A3 r.length d3, .int .i64 ((n : Int) + a)] 33)) hb5 (by simp; omega)
      have c6 := Blk.cells k6
      have c7 := Blk.cells k7
      have z6 := Blk.lt k6
      have z7 := Blk.lt k7
      have x5 : Bs w5 A5 m := Bs.of_own hown5 hmb
      have x6 := ((x2.below b3).below b5)
      have y5 := x5.alloc (.cells #[.slice A5 m.length d5, .int .i64 ((n : Int) + k)] 33)
      have y6 := x6.alloc (.cells #[.slice A5 m.length d5, .int .i64 ((n : Int) + k)] 33)
      have hcx := conv_bytes (P := Try.prog) _ 22 5 Try.underlying22 Try.underlying5 9 Try.underlying9 A5 m d5 y5 (own_nil hown5)
      have hcy := conv_bytes (P := Try.prog) _ 22 5 Try.underlying22 Try.underlying5 9 Try.underlying9 A2 m d2 y6 HN2.out
      have Y6 := Lib.hid y6
      clear c3 c4 hb5 hown5 y5 y6 x5 x6
      go_wp2_with fail
      refine (HT.out A2 d2 _ Y6.out).mono ?_
      rintro e w7 ⟨rfl, rfl⟩
      go_wp2_with fail
      refine (HU.out A2 d2 _ Y6.out).mono ?_
      rintro e w7 ⟨rfl, rfl⟩
      go_wp2_with fail
      go_ret
      exact ⟨rfl, b6.alloc b6.size _⟩
    · have HP := Lib.hid fun w hl => put_no A c l n v k w _ rfl h0 hl (by omega) h1 h2 hv hk1 hk2
      have he : ((putE l n v k : Int) != 0) = true := by rw [bne_iff_ne]; omega
      generalize putE l n v k = E at *
      go_enter Try.func6, Try.ntmps6
      go_wp2_with fail
      refine (alive_any _).mono ?_
      rintro e w1 ⟨rfl, hb1⟩
      obtain ⟨b1, z1, k1⟩ := box1 hb1
      have c1 := Blk.cells k1
      have hl1 := hl.below b1
      clear hb1
      go_wp2_with fail
      refine (HP.out _ hl1).mono ?_
      rintro e w2 ⟨hb2, A2, d2, rfl, hown2⟩
      have b2 := b1.trans (hb2.mono b1.size)
      clear c1 hb2 hown2
      go_wp2_with fail
      go_ret
      exact ⟨rfl, b2.alloc b2.size _⟩
end Go.Proofs.Ytdaoocpcncbdpaa
