/-
  BitsWhole, walked.
-/
import Derived.Test.YtdaoocpcncbdpaaBitsLaws
namespace Go.Proofs.Ytdaoocpcncbdpaa
open Go.RowKit

theorem check_is (A : Option Addr) (c : Nat) (l : List Nat) (n : Int) (w : World) (E : Nat) (hE : chkE l n = E) (hl : Bs w A l) (hm : l.length ≤ 1000000000) (h1 : -9223372036854775808 ≤ n) (h2 : n ≤ 9223372036854775807) :
    Calls Try.prog 20 #[.agg #[.slice A l.length c, .int .i64 n]] w fun e w' => e = .returned (.int .i64 (E : Int)) ∧ Below w.heap.size w w' := by
  subst hE; exact check_any A c l n w hl hm h1 h2

set_option maxHeartbeats 1000000 in
theorem whole_walk (A : Option Addr) (l : List Nat) (c : Nat) (n : Int) (w : World) (hin : InBs w A l) (h1 : -9223372036854775808 ≤ n) (h2 : n ≤ 9223372036854775807) :
    Calls Try.prog 7 #[.agg #[.slice A l.length c, .int .i64 n]] w fun e w' => e = .returned (.bool true) ∧ Below w.heap.size w w' := by
  obtain ⟨hl, hA, hm⟩ := hin
  unfold maxLen at hm
  have HA := Lib.hid hA; clear hA
  have HM := Lib.hid hm; clear hm
  by_cases hbig : 10000 < l.length
  · go_enter Try.func7, Try.ntmps7
    go_wp2_with fail
    refine (alive_any _).mono ?_
    rintro e w1 ⟨rfl, hb1⟩
    obtain ⟨b1, z1, k1⟩ := box1 hb1
    have c1 := Blk.cells k1
    clear hb1
    go_wp2_with fail
    go_ret
    exact ⟨rfl, b1⟩
  · cases hmay : mayB l n with
    | false =>
      have hE : chkE l n = 8 := by unfold chkE; rw [hmay]; rfl
      have HC := Lib.hid fun w hl hm => check_is A c l n w 8 hE hl hm h1 h2
      have HP := Lib.hid fun w hl hm => align_bad A c l n w hl hm h1 h2 hmay
      clear hmay hE
      go_enter Try.func7, Try.ntmps7
      go_wp2_with fail
      refine (alive_any _).mono ?_
      rintro e w1 ⟨rfl, hb1⟩
      obtain ⟨b1, z1, k1⟩ := box1 hb1
      have c1 := Blk.cells k1
      have hl1 := hl.below b1
      clear hb1
      go_wp2_with fail
      refine (HP.out _ hl1 (by omega)).mono ?_
      rintro e w2 ⟨hb2, A2, c2, rfl, hown2⟩
      have b2 := b1.trans (hb2.mono b1.size)
      have k2 := Blk.below k1 hb2 z1
      have z2 := Nat.lt_of_lt_of_le z1 hb2.size
      have hl2 := hl.below b2
      have c2 := Blk.cells k2
      clear c1 hb2
      go_wp2_with fail
      refine (HC.out _ (hl2.alloc _) (by omega)).mono ?_
      rintro e w3 ⟨rfl, hb3⟩
      obtain ⟨b3, z3, k3⟩ := box1 hb3
      go_wp2_with fail
      go_ret
      exact ⟨rfl, b2.trans (b3.mono b2.size)⟩
    | true =>
      obtain ⟨n, rfl, -⟩ := mayB_true hmay
      obtain ⟨hP, hn8⟩ := Pen.of_may hl.2 hmay
      have hlen := Lib.hid hP.len
      obtain ⟨L, hL⟩ : ∃ L, 8 * l.length = L := ⟨_, rfl⟩
      have hL0 : L ≤ 80000 := by omega
      have HP := Lib.hid fun w hl hA => align_ok A c l n w hl hA hn8 hmay
      have HQ := Lib.hid fun A c w hl hA => align_ok A c l L w hl hA (by omega) (mayB_full l L (by omega) (by omega) (by omega))
      rw [hL] at HP HQ
      have HL := Lib.hid hL
      clear hL hmay hP
      go_enter Try.func7, Try.ntmps7
      go_wp2_with fail
      refine (alive_any _).mono ?_
      rintro e w1 ⟨rfl, hb1⟩
      obtain ⟨b1, z1, k1⟩ := box1 hb1
      have c1 := Blk.cells k1
      have hl1 := hl.below b1
      clear hb1
      go_wp2_with fail
      refine (HP.out _ hl1 HA.out).mono ?_
      rintro e w2 ⟨hb2, A2, d2, rfl, hown2⟩
      have b2 := b1.trans (hb2.mono b1.size)
      have k2 := Blk.below k1 hb2 z1
      have z2 := Nat.lt_of_lt_of_le z1 hb2.size
      have hl2 := hl.below b2
      have x2 : Bs w2 A2 l := Bs.of_own hown2 hl.2
      have HN := Lib.hid (own_nil hown2)
      have c2 := Blk.cells k2
      clear c1 hb2 hown2
      go_wp2_with fail
      refine (HQ.out A2 d2 _ (x2.alloc _) HN.out).mono ?_
      rintro e w3 ⟨hb3, A3, d3, rfl, hown3⟩
      obtain ⟨b3, z3, k3⟩ := box1 hb3
      have b4 := b2.trans (b3.mono b2.size)
      have k4 := Blk.below (Blk.alloc k2 _) hb3 (by simp; omega)
      have c4 := Blk.cells k4
      have z4 := Blk.lt k4
      have c3 := Blk.cells k3
      have e1 : IntKind.i64.wrap (8 * (l.length : Int)) = (L : Int) := by have := HL.out; rw [IntWalk.i64_in _ (by omega)]; omega
      have e2 : (L : Int) - n < 8 := by have := HL.out; have := hlen.out; omega
      have hp := (hl2.below b3).alloc (.cells #[.slice A3 l.length d3, .int .i64 (L : Int)] 33)
      have hx := (x2.below b3).alloc (.cells #[.slice A3 l.length d3, .int .i64 (L : Int)] 33)
      have hy := (Bs.of_own hown3 hl.2).alloc (.cells #[.slice A3 l.length d3, .int .i64 (L : Int)] 33)
      have hcp := conv_bytes (P := Try.prog) _ 22 5 Try.underlying22 Try.underlying5 9 Try.underlying9 A l c hp HA.out
      have hcx := conv_bytes (P := Try.prog) _ 22 5 Try.underlying22 Try.underlying5 9 Try.underlying9 A2 l d2 hx HN.out
      have hcy := conv_bytes (P := Try.prog) _ 22 5 Try.underlying22 Try.underlying5 9 Try.underlying9 A3 l d3 hy (own_nil hown3)
      clear c2 hb3 hown3 hp hx hy hl1 hl2 x2
      go_wp2_with fail
      go_ret
      exact ⟨rfl, b4.alloc b4.size _⟩
end Go.Proofs.Ytdaoocpcncbdpaa
