/-
  Walks: Align.
-/
import Derived.Test.YtdaoocpcncbdpaaPenC
import Derived.Deep.RegionHeld3
import Derived.Deep.AppendLies
namespace Go.Proofs.Ytdaoocpcncbdpaa
open Go.RowKit

set_option maxHeartbeats 1000000 in
theorem align_bad (A : Option Addr) (c : Nat) (l : List Nat) (n : Int) (w : World) (hl : Bs w A l) (hm : l.length ≤ 1000000000) (h1 : -9223372036854775808 ≤ n) (h2 : n ≤ 9223372036854775807) (h : mayB l n = false) :
    Calls Try.prog 17 #[.agg #[.slice A l.length c, .int .i64 n]] w fun e w' => PenRes w w' e [] 0 8 := by
  have hc := fun w hl => check_any A c l n w hl hm h1 h2
  rw [show chkE l n = 8 by unfold chkE; rw [h]; rfl] at hc
  have HC := Lib.hid hc; clear hc h
  go_enter Try.func17, Try.ntmps17
  go_wp2_with fail
  refine (HC.out _ ((hl.alloc _).alloc _)).mono ?_
  rintro e w1 ⟨rfl, hb1⟩
  obtain ⟨b1, z1, z2, k1, k2⟩ := box2 hb1
  have c2 := Blk.cells k2
  have f2 := Blk.frozens k2
  have c1 := Blk.cells k1
  clear hb1
  go_wp2_with fail
  refine bodyPost_ret (v := .tuple #[.agg #[.slice none 0 0, .int .i64 0], .int .i64 8]) (by simp [results, Try.results17, go_sem, c2]) rfl (PenRes.none_ ?_ rfl)
  exact (b1.setCell (by simp) _).setCell (by simp) _

set_option maxHeartbeats 1000000 in
theorem align_ok (A : Option Addr) (c : Nat) (l : List Nat) (n : Nat) (w : World) (hl : Bs w A l) (hA : A = none → l = []) (h2 : n ≤ 8388608) (h : mayB l n = true) :
    Calls Try.prog 17 #[.agg #[.slice A l.length c, .int .i64 n]] w fun e w' => PenRes w w' e l (8 * l.length) 0 := by
  have hP := (Pen.of_may hl.2 h).1
  have hlen := hP.len
  have hm : l.length ≤ 2000000 := by omega
  have hc := fun w hl => check_any A c l n w hl (by omega) (by omega) (by omega)
  rw [show chkE l n = 0 by unfold chkE; rw [h]; rfl] at hc
  have HC := Lib.hid hc; have HA := Lib.hid hA; have HL := Lib.hid hlen; clear hc h hA hlen
  go_enter Try.func17, Try.ntmps17
  go_wp2_with fail
  refine (HC.out _ ((hl.alloc _).alloc _)).mono ?_
  rintro e w1 ⟨rfl, hb1⟩
  obtain ⟨b1, z1, z2, k1, k2⟩ := box2 hb1
  have hl1 : Bs w1.drew A l := hl.below b1.drew
  clear hb1
  have hmul : IntKind.i64.wrap (8 * (l.length : Int)) = 8 * (l.length : Int) := IntWalk.i64_in _ (by omega)
  have x0 : w1.cell? ⟨w.heap.size, 0, none⟩ = some (.slice A l.length c) := Blk.cell k1 0
  go_wp2_with fail
  go_region_held3 (fun wx => wx.cell? ⟨w.heap.size, 0, none⟩ = some (.slice A l.length c)) (first | exact x0 | exact x2 | (simp [World.cell?_setCell_other]; exact x2)) (first | (go_at_call 28; refine (clone_any A c l _ hl1 HA.out (by omega)).mono ?_; rintro e w2 ⟨A2, c2, rfl, hown2, hb2⟩; have x2 : w2.cell? ⟨w.heap.size, 0, none⟩ = some (.slice A l.length c) := Blk.cell (Blk.below (Blk.drew k1) hb2 z1) 0; have k3 : Blk w2 (w.heap.size + 1) 33 #[.slice none 0 0, .int .i64 0] := Blk.below (Blk.drew k2) hb2 z2; have c3 := Blk.cells k3; have f3 := Blk.frozens k3))
  have b2 : Below w.heap.size w w2 := b1.drew.trans (hb2.mono (by exact b1.size))
  go_wp2_with fail
  refine bodyPost_ret (v := .tuple #[.agg #[.slice A2 l.length c2, .int .i64 (8 * (l.length : Int))], .int .i64 0]) (by simp [results, Try.results17, go_sem, c3]) rfl ?_
  have hne := own_blk_ne hown2 k3 (by decide)
  have hown3 := own_far_base (base' := w.heap.size) hown2 (by exact b1.size)
  exact ⟨(b2.setCell (by simp) _).setCell (by simp) _, A2, c2, by simp, own_far (own_far hown3 hne _) hne _⟩

/-- The reference writes a bit as the program does. -/
theorem set_step (x k : Nat) (hx : x < 256) (hk : k < 8) (h0 : x / 2 ^ k = 0) : IntKind.u8.wrap ((x : Int) + ((2 ^ k : Nat) : Int) % 256) = ((x + 1 * 2 ^ k : Nat) : Int) := by
  obtain ⟨h1, _⟩ := low_bits x hx k hk h0 1 (by omega)
  rw [IntKind.wrap_u8]
  omega

theorem power_at (k : Nat) (m : Int) (w : World) (hk : k ≤ 32) (hm : m = k) :
    Calls Try.prog 33 #[.int .i64 m] w fun e w' => e = .returned (.int .u64 ((2 ^ k : Nat) : Int)) ∧ w = w' := by
  subst hm; exact power_any k w hk

end Go.Proofs.Ytdaoocpcncbdpaa
