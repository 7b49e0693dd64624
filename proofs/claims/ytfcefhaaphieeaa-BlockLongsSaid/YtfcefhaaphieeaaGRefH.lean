/-
  Walks: BlockLongs.
-/
import Derived.Deep.RegionHeld
import Derived.Test.YtfcefhaaphieeaaG42
import Derived.Test.YtfcefhaaphieeaaGOpenK
namespace Go.Proofs.Ytfcefhaaphieeaa
open Go.RowKit

theorem longs_out (a : Int) (kind : Nat) (R : Option Addr) (rn rc : Nat) (T : Option Addr) (n c : Nat) (w : World) (h : 500 < rn ∨ 200 < n) :
    Calls Try.prog 3 #[.int .i64 a, .int .u8 (kind : Int), .slice R rn rc, .slice T n c] w fun e w' => e = .returned (.bool true) ∧ Below w.heap.size w w' := by
  by_cases h2 : 500 < rn
  · have d2 : decide ((rn : Int) > 500) = true := decide_eq_true (by omega)
    go_enter Try.func3, Try.ntmps3
    go_wp2_with fail
    go_ret
    exact ⟨rfl, Below.refl _ _⟩
  · have d2 : decide ((rn : Int) > 500) = false := decide_eq_false (by omega)
    have d3 : decide ((n : Int) > 200) = true := decide_eq_true (by omega)
    go_enter Try.func3, Try.ntmps3
    go_wp2_with fail
    go_ret
    exact ⟨rfl, Below.refl _ _⟩

theorem conv_u8s (w : World) (A : Option Addr) (l : List Nat) (n c : Nat) (h : Rd w A (u8s l)) (hx : ∀ x ∈ l, x < 256) (hn : l.length = n) : (convert 22 9 (.slice A n c)).run Try.prog w = .ok (.string (str l)) w := by
  subst hn
  exact conv_bytes (P := Try.prog) w 22 5 Try.underlying22 Try.underlying5 9 Try.underlying9 A l c (rd_u8 h hx) (fun hA => List.map_eq_nil_iff.1 (h.2 hA))

theorem order_eql (w : World) : (binOp .eql 36 (.agg orderV) (.agg orderV)).run Try.prog w = .ok (.bool true) w := by kernel_rfl
set_option maxRecDepth 100000 in
set_option maxHeartbeats 8000000 in
theorem longs_walk (a : Int) (kind : Nat) (R : Option Addr) (rn rc : Nat) (raw : List Nat) (T : Option Addr) (n c : Nat) (l : List Tk) (w : World) (h1 : -9223372036854775808 ≤ a) (h2 : a ≤ 9223372036854775807) (hk0 : kind < 256) (hR : Rd w R (u8s raw)) (hrn : rn = raw.length) (hx : ∀ x ∈ raw, x < 256) (hrl : rn ≤ 500)
    (hT : Rd w T (tkV l)) (hn : n = l.length) (hm : n ≤ 200) (hk : ∀ t ∈ l, TkN t) :
    Calls Try.prog 3 #[.int .i64 a, .int .u8 (kind : Int), .slice R rn rc, .slice T n c] w fun e w' => e = .returned (.bool true) ∧ Below w.heap.size w w' := by
  have d1 : decide ((rn : Int) > 500) = false := decide_eq_false (by omega)
  have d2 : decide ((n : Int) > 200) = false := decide_eq_false (by omega)
  have HF := Lib.hid fun wx => fixed_any wx
  have HL1 := Lib.hid fun wx hR hT => blong_any a kind R rn rc raw T n c l wx h1 h2 hk0 hR hrn hx (by omega) hT hn (by omega) hk
  have HL2 := Lib.hid fun wx hR hT => rblong_any a kind R rn rc raw T n c l wx h1 h2 hk0 hR hrn hx (by omega) hT hn (by omega) hk
  have HB1 := Lib.hid fun wx hR hT => bbest_any a R rn rc raw T n c l wx h1 h2 hR hrn hx (by omega) hT hn (by omega) hk
  have HB2 := Lib.hid fun wx hR hT => rbbest_any a R rn rc raw T n c l wx h1 h2 hR hrn hx (by omega) hT hn (by omega) hk
  generalize (longV a kind raw l).1 = lv at *
  generalize (longV a kind raw l).2 = le at *
  generalize (bestV a raw l).1 = bv at *
  generalize (bestV a raw l).2 = be at *
  have l1 : longsF.length = 288 := by decide +kernel
  have l2 : farsF.length = 32 := by decide
  have x1 : ∀ x ∈ longsF, x < 256 := by decide +kernel
  have x2 : ∀ x ∈ farsF, x < 256 := by decide
  have HX := Lib.hid (And.intro (And.intro l1 l2) (And.intro x1 x2))
  clear hn hk hx hrn l1 l2 x1 x2
  go_enter Try.func3, Try.ntmps3
  go_wp2_with fail
  refine (HF.out _).mono ?_
  rintro e w1 ⟨A1, c1, B1, e1, rfl, hA, hB⟩
  have rA := hA.rd
  have rB := hB.rd
  have b1 := hA.1
  clear hA hB
  go_wp2_with fail
  refine (HL1.out _ (hR.below b1) (hT.below b1)).mono ?_
  rintro e w2 ⟨rfl, b⟩
  have rA := rA.below b
  have rB := rB.below b
  have b2 := b1.trans (b.mono b1.size)
  clear b b1
  go_wp2_with fail
  refine (HL2.out _ (hR.below b2) (hT.below b2)).mono ?_
  rintro e w3 ⟨rfl, b⟩
  have rA := rA.below b
  have rB := rB.below b
  have b3 := b2.trans (b.mono b2.size)
  clear b b2
  go_wp2_with fail
  refine (HB1.out _ (hR.below b3) (hT.below b3)).mono ?_
  rintro e w4 ⟨rfl, b⟩
  have rA := rA.below b
  have rB := rB.below b
  have b4 := b3.trans (b.mono b3.size)
  clear b b3
  go_wp2_with fail
  refine (HB2.out _ (hR.below b4) (hT.below b4)).mono ?_
  rintro e w5 ⟨rfl, b⟩
  have rA := rA.below b
  have rB := rB.below b
  have b5 := b4.trans (b.mono b4.size)
  clear b b4 hR hT
  have HS := Lib.hid (fun wx (hb : Below w5.heap.size w5 wx) => show (convert 22 9 (.slice A1 288 c1)).run Try.prog wx = .ok (.string (str longsF)) wx ∧ (convert 22 9 (.slice B1 32 e1)).run Try.prog wx = .ok (.string (str farsF)) wx from
    ⟨conv_u8s wx A1 longsF 288 c1 (rA.below hb) HX.out.2.1 HX.out.1.1, conv_u8s wx B1 farsF 32 e1 (rB.below hb) HX.out.2.2 HX.out.1.2⟩)
  have HG1 := Lib.hid (fun wx (hb : Below w5.heap.size w5 wx) => (rlongsF_any wx).mono (R' := fun e w' => ∃ A c, e = .returned (.slice A 288 c) ∧ Below w5.heap.size w5 w' ∧ Hid (∀ wy, Below w'.heap.size w' wy → (convert 22 9 (.slice A 288 c)).run Try.prog wy = .ok (.string (str longsF)) wy)) fun e w' ⟨A, c, he, hB⟩ => ⟨A, c, he, hb.trans (hB.1.mono hb.size), Lib.hid fun wy hy => conv_u8s wy A longsF 288 c (hB.rd.below hy) HX.out.2.1 HX.out.1.1⟩)
  have HG2 := Lib.hid (fun wx (hb : Below w5.heap.size w5 wx) => (rfarsF_any wx).mono (R' := fun e w' => ∃ A c, e = .returned (.slice A 32 c) ∧ Below w5.heap.size w5 w' ∧ Hid (∀ wy, Below w'.heap.size w' wy → (convert 22 9 (.slice A 32 c)).run Try.prog wy = .ok (.string (str farsF)) wy)) fun e w' ⟨A, c, he, hB⟩ => ⟨A, c, he, hb.trans (hB.1.mono hb.size), Lib.hid fun wy hy => conv_u8s wy A farsF 32 c (hB.rd.below hy) HX.out.2.2 HX.out.1.2⟩)
  have HO1 := Lib.hid (fun wx (hb : Below w5.heap.size w5 wx) => (order_any wx).mono (R' := fun e w' => e = .returned (.agg orderV) ∧ Below w5.heap.size w5 w') fun e w' ⟨he, h⟩ => ⟨he, hb.trans (h.mono hb.size)⟩)
  have HO2 := Lib.hid (fun wx (hb : Below w5.heap.size w5 wx) => (rorder_any wx).mono (R' := fun e w' => e = .returned (.agg orderV) ∧ Below w5.heap.size w5 w') fun e w' ⟨he, h⟩ => ⟨he, hb.trans (h.mono hb.size)⟩)
  have ba : Below w5.heap.size w5 w5 := Below.refl _ _
  go_wp2_with fail
  have oe := order_eql
  have s0 := HS.out w5 (Below.refl _ _)
  have s9 := HS.out w5.drew (Below.refl _ _).drew
  go_region_held (fun wx => (convert 22 9 (.slice A1 288 c1)).run Try.prog wx = .ok (.string (str longsF)) wx ∧ (convert 22 9 (.slice B1 32 e1)).run Try.prog wx = .ok (.string (str farsF)) wx) (first | exact s0 | exact s9 | exact s1 | exact HS.out _ (by first | exact ba.drew | exact below_drewN' ba _)) (first
    | (go_at_call 13; (with_reducible refine Calls.mono (HG1.out _ (by first | exact ba | exact ba.drew | exact below_drewN' ba _)) ?_); rintro e wa ⟨A3, c3, rfl, ba, HV⟩; have s1 := HS.out _ ba; have v1 := HV.out _ (Below.refl _ _))
    | (go_at_call 14; (with_reducible refine Calls.mono (HG2.out _ (by first | exact ba | exact ba.drew | exact below_drewN' ba _)) ?_); rintro e wa ⟨A4, c4, rfl, ba, HV⟩; have s1 := HS.out _ ba; have v2 := HV.out _ (Below.refl _ _))
    | (go_at_call 15; (with_reducible refine Calls.mono (HO1.out _ (by first | exact ba | exact ba.drew | exact below_drewN' ba _)) ?_); rintro e wa ⟨rfl, ba⟩; have s1 := HS.out _ ba)
    | (go_at_call 16; (with_reducible refine Calls.mono (HO2.out _ (by first | exact ba | exact ba.drew | exact below_drewN' ba _)) ?_); rintro e wa ⟨rfl, ba⟩; have s1 := HS.out _ ba))
  all_goals
    go_wp2_with fail
    go_ret
    exact ⟨rfl, b5.trans (ba.mono b5.size)⟩

theorem law_longs11 (a : Int) (kind : Nat) (R : Option Addr) (raw : List Nat) (rc : Nat) (T : Option Addr) (l : List Tk) (c : Nat) (w : World)
    (h1 : -9223372036854775808 ≤ a) (h2 : a ≤ 9223372036854775807) (hk0 : kind < 256) (hr : InBs w R raw) (ht : InTks w T l) :
    Calls Try.prog 3 #[.int .i64 a, .int .u8 (kind : Int), .slice R raw.length rc, .slice T l.length c] w fun e w' => e = .returned (.bool true) ∧ Below w.heap.size w w' := by
  by_cases hs : 500 < raw.length ∨ 200 < l.length
  · exact longs_out a kind R _ rc T _ c w hs
  exact longs_walk a kind R _ rc raw T _ c l w h1 h2 hk0 (hr.1.rd hr.2.1) rfl hr.1.2 (by omega) ht.1 rfl (by omega) ht.2.2
end Go.Proofs.Ytfcefhaaphieeaa
