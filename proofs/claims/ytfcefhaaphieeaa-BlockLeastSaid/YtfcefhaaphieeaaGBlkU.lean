/-
  Walks: BlockLeast.
-/
import Derived.Test.YtfcefhaaphieeaaG39
import Derived.Test.YtfcefhaaphieeaaG40
import Derived.Test.YtfcefhaaphieeaaGOpenK
namespace Go.Proofs.Ytfcefhaaphieeaa
open Go.RowKit

set_option maxRecDepth 100000 in
set_option maxHeartbeats 4000000 in
/-- Where nothing is asked. -/
theorem least_out (A : Option Addr) (pn pc : Nat) (pb : Int) (kind : Nat) (R : Option Addr) (rn rc : Nat) (T : Option Addr) (n c : Nat) (last : Bool) (w : World) (h : 500 < pn ∨ 500 < rn ∨ 200 < n) :
    Calls Try.prog 7 #[.agg #[.slice A pn pc, .int .i64 pb], .int .u8 (kind : Int), .slice R rn rc, .slice T n c, .bool last] w fun e w' => e = .returned (.bool true) ∧ Below w.heap.size w w' := by
  by_cases h1 : 500 < pn
  · have d1 : decide ((pn : Int) > 500) = true := decide_eq_true (by omega)
    go_enter Try.func7, Try.ntmps7
    go_wp2_with fail
    refine (balive11_any _).mono ?_
    rintro e w1 ⟨rfl, hb1⟩
    obtain ⟨b1, z1, k1⟩ := box1 hb1
    have c1 := Blk.cells k1
    go_wp2_with fail
    go_ret
    exact ⟨rfl, b1⟩
  · have d1 : decide ((pn : Int) > 500) = false := decide_eq_false (by omega)
    by_cases h2 : 500 < rn
    · have d2 : decide ((rn : Int) > 500) = true := decide_eq_true (by omega)
      go_enter Try.func7, Try.ntmps7
      go_wp2_with fail
      refine (balive11_any _).mono ?_
      rintro e w1 ⟨rfl, hb1⟩
      obtain ⟨b1, z1, k1⟩ := box1 hb1
      have c1 := Blk.cells k1
      go_wp2_with fail
      go_ret
      exact ⟨rfl, b1⟩
    · have d2 : decide ((rn : Int) > 500) = false := decide_eq_false (by omega)
      have d3 : decide ((n : Int) > 200) = true := decide_eq_true (by omega)
      go_enter Try.func7, Try.ntmps7
      go_wp2_with fail
      refine (balive11_any _).mono ?_
      rintro e w1 ⟨rfl, hb1⟩
      obtain ⟨b1, z1, k1⟩ := box1 hb1
      have c1 := Blk.cells k1
      go_wp2_with fail
      go_ret
      exact ⟨rfl, b1⟩

set_option maxRecDepth 100000 in
set_option maxHeartbeats 4000000 in
/-- A pen that may not be. -/
theorem least_bad (A : Option Addr) (pn pc : Nat) (pl : List Nat) (pb : Int) (kind : Nat) (R : Option Addr) (rn rc : Nat) (T : Option Addr) (n c : Nat) (last : Bool) (w : World) (hA : Rd w A (u8s pl)) (hpn : pn = pl.length) (hpx : ∀ x ∈ pl, x < 256) (hb1 : -9223372036854775808 ≤ pb) (hb2 : pb ≤ 9223372036854775807)
    (h1 : pn ≤ 500) (h2 : rn ≤ 500) (h3 : n ≤ 200) (h : mayB pl pb = false) :
    Calls Try.prog 7 #[.agg #[.slice A pn pc, .int .i64 pb], .int .u8 (kind : Int), .slice R rn rc, .slice T n c, .bool last] w fun e w' => e = .returned (.bool true) ∧ Below w.heap.size w w' := by
  have d1 : decide ((pn : Int) > 500) = false := decide_eq_false (by omega)
  have d2 : decide ((rn : Int) > 500) = false := decide_eq_false (by omega)
  have d3 : decide ((n : Int) > 200) = false := decide_eq_false (by omega)
  have HC := Lib.hid fun wx (h' : Rd wx A (u8s pl)) => show Calls Try.prog 21 #[.agg #[.slice A pn pc, .int .i64 pb]] wx (fun e w' => e = .returned (.int .i64 (8 : Int)) ∧ Below wx.heap.size wx w') from by
    subst hpn
    exact chk_is A pc pl pb 8 wx (by unfold pchkE; rw [h]; rfl) (rd_u8 h' hpx) (by omega) hb1 hb2
  clear hpn hpx h
  go_enter Try.func7, Try.ntmps7
  go_wp2_with fail
  refine (balive11_any _).mono ?_
  rintro e w1 ⟨rfl, hb1⟩
  obtain ⟨b1, z1, k1⟩ := box1 hb1
  have c1 := Blk.cells k1
  go_wp2_with fail
  refine (HC.out _ (hA.below b1)).mono ?_
  rintro e w2 ⟨rfl, hb2⟩
  go_wp2_with fail
  go_ret
  exact ⟨rfl, b1.trans (hb2.mono b1.size)⟩

set_option maxRecDepth 100000 in
set_option maxHeartbeats 4000000 in
/-- A block that may not be. -/
theorem least_ask (A : Option Addr) (pn pc : Nat) (pl : List Nat) (b : Nat) (kind : Nat) (R : Option Addr) (rn rc : Nat) (raw : List Nat) (T : Option Addr) (n c : Nat) (l : List Tk) (last : Bool) (w : World) (hA : Rd w A (u8s pl)) (hpn : pn = pl.length) (hpc : pn ≤ pc) (hpx : ∀ x ∈ pl, x < 256)
    (hk0 : kind < 256) (hR : Rd w R (u8s raw)) (hrn : rn = raw.length) (hrx : ∀ x ∈ raw, x < 256) (hT : Rd w T (tkV l)) (hn : n = l.length) (hk : ∀ t ∈ l, TkN t) (h1 : pn ≤ 500) (h2 : rn ≤ 500) (h3 : n ≤ 200) (hP : Pen pl b) (h0 : askK kind raw.length l ≠ 0) :
    Calls Try.prog 7 #[.agg #[.slice A pn pc, .int .i64 (b : Int)], .int .u8 (kind : Int), .slice R rn rc, .slice T n c, .bool last] w fun e w' => e = .returned (.bool true) ∧ Below w.heap.size w w' := by
  have d1 : decide ((pn : Int) > 500) = false := decide_eq_false (by omega)
  have d2 : decide ((rn : Int) > 500) = false := decide_eq_false (by omega)
  have d3 : decide ((n : Int) > 200) = false := decide_eq_false (by omega)
  have hb4 := few_pen hP (by omega)
  have HC := Lib.hid fun wx h' => chk_good A pn pc pl b wx h' hpn hpx hP (by omega)
  have hE := wrE_ask (kind := kind) (raw := raw) (l := l) last hP (by omega) hrx (by omega) (by omega) hk
  have HW := Lib.hid fun wx (hA : Rd wx A (u8s pl)) (hR : Rd wx R (u8s raw)) (hT : Rd wx T (tkV l)) => write_any A pn pc pl b kind R rn rc raw T n c l last wx hA hpn hpc hpx (by omega) (by omega) (by omega) hk0 hR hrx hrn (by omega) hT hn (by omega) hk
  have hM : wrM pl b kind raw l last = [] := by unfold wrM; rw [hE, if_neg h0]
  have hN : wrN pl b kind raw l last = 0 := by unfold wrN; rw [hE, if_neg h0]
  rw [hE, hM, hN] at HW
  have HL := Lib.hid fun wx (hR : Rd wx R (u8s raw)) (hT : Rd wx T (tkV l)) => show Calls Try.prog 9 #[.int .i64 ((b : Int) % 8), .int .u8 (kind : Int), .slice R rn rc, .slice T n c] wx (fun e w' => e = .returned (.tuple #[.int .i64 0, .int .i64 (askK kind raw.length l : Nat)]) ∧ Below wx.heap.size wx w') from by
    have := blong_any ((b % 8 : Nat) : Int) kind R rn rc raw T n c l wx (by omega) (by omega) hk0 hR hrn hrx (by omega) hT hn (by omega) hk
    rw [longV_no (b % 8) (by omega) h0] at this
    exact this
  have HB := Lib.hid fun wx (hR : Rd wx R (u8s raw)) (hT : Rd wx T (tkV l)) => show Calls Try.prog 11 #[.int .i64 ((b : Int) % 8), .slice R rn rc, .slice T n c] wx (fun e w' => ∃ x y : Nat, e = .returned (.tuple #[.int .u8 (x : Int), .int .i64 (y : Int)]) ∧ Below wx.heap.size wx w') from by
    have := bbest_any ((b % 8 : Nat) : Int) R rn rc raw T n c l wx (by omega) (by omega) hR hrn hrx (by omega) hT hn (by omega) hk
    exact this.mono fun _ _ ⟨a, b⟩ => ⟨_, _, a, b⟩
  generalize askK kind raw.length l = E at *
  have hEi : ¬ ((E : Int) = 0) := by omega
  clear hE hM hN hpn hpx hrn hrx hn hk hP h0
  go_enter Try.func7, Try.ntmps7
  go_wp2_with fail
  refine (balive11_any _).mono ?_
  rintro e w1 ⟨rfl, hb1⟩
  obtain ⟨b1, z1, k1⟩ := box1 hb1
  have c1 := Blk.cells k1
  clear hb1
  go_wp2_with fail
  refine (HC.out _ (hA.below b1)).mono ?_
  rintro e w2 ⟨rfl, hb2⟩
  have k1 := Blk.below k1 hb2 z1
  have b2 := b1.trans (hb2.mono b1.size)
  have z1 := Blk.lt k1
  have c1 := Blk.cells k1
  clear hb2 b1
  go_wp2_with fail
  refine (HW.out _ (hA.below b2) (hR.below b2) (hT.below b2)).mono ?_
  rintro e w3 ⟨hb3, A3, c3, rfl, ho3⟩
  have k1 := Blk.below k1 hb3 z1
  have b3 := b2.trans (hb3.mono b2.size)
  have z1 := Blk.lt k1
  have c1 := Blk.cells k1
  clear hb3 b2 ho3
  go_wp2_with fail
  refine (HL.out _ ((hR.below b3).alloc _) ((hT.below b3).alloc _)).mono ?_
  rintro e w4 ⟨rfl, hb4'⟩
  obtain ⟨b4, z4, k4⟩ := box1 hb4'
  have k1 := Blk.below k1 b4 z1
  have b5 := b3.trans (b4.mono b3.size)
  have z1 := Blk.lt k1
  have c1 := Blk.cells k1
  clear hb4' b4 b3
  go_wp2_with fail
  refine (HB.out _ (hR.below b5) (hT.below b5)).mono ?_
  rintro e w6 ⟨x, y, rfl, hb6⟩
  have k4 := Blk.below k4 hb6 z4
  have c4 := Blk.cells k4
  have z4 := Blk.lt k4
  have b6 := b5.trans (hb6.mono b5.size)
  go_wp2_with fail
  go_ret
  exact ⟨rfl, b6⟩
end Go.Proofs.Ytfcefhaaphieeaa
