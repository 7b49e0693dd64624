/-
  Walks: BlockLeast, the whole.
-/
import Derived.Test.YtfcefhaaphieeaaGBlkU
namespace Go.Proofs.Ytfcefhaaphieeaa
open Go.RowKit

theorem take_one {pl M : List Nat} {b : Nat} (hlen : pl.length = (b + 7) / 8) (hM : pl.length ≤ M.length) (h : ∀ i, i < b → bitOf M i = bitOf pl i) (i : Nat) (hi : i < b) : takeE pl i 1 = 0 ∧ takeE M i 1 = 0 ∧ takeV M i 1 = takeV pl i 1 := by
  have e1 : takeE pl i 1 = 0 := by unfold takeE; rw [if_neg (by omega), if_neg (by omega)]
  have e2 : takeE M i 1 = 0 := by unfold takeE; rw [if_neg (by omega), if_neg (by omega)]
  refine ⟨e1, e2, ?_⟩
  unfold takeV
  rw [if_pos e1, if_pos e2]
  exact numOf_congr fun j hj => by
    rw [Int.toNat_natCast]
    have : j = 0 := by
      have : (1 : Int).toNat = 1 := rfl
      omega
    subst this
    exact h i hi

set_option maxRecDepth 100000 in
set_option maxHeartbeats 8000000 in
/-- The walk, its callees' answers given. -/
theorem least_walk (A : Option Addr) (pn pc : Nat) (pl : List Nat) (b : Nat) (kind : Nat) (R : Option Addr) (rn rc : Nat) (raw : List Nat) (T : Option Addr) (n c : Nat) (l : List Tk) (last : Bool) (w : World) (hA : Rd w A (u8s pl)) (hR : Rd w R (u8s raw)) (hT : Rd w T (tkV l)) (h1 : pn ≤ 500) (h2 : rn ≤ 500) (h3 : n ≤ 200) (hk2 : kind ≤ 2)
    (M : List Nat) (nM NM N0 N2 bk V3 : Nat) (V : Nat → Nat) (hNM : b + N0 = NM) (hb4 : b ≤ 4000) (hN0 : N0 ≤ 64000) (hN2 : N2 ≤ N0) (hbk2 : bk ≤ 2) (hbk : N2 = N0 → bk ≤ kind) (hV3 : (if last = true then 1 else 0) + 2 * kind = V3)
    (HC0 : ∀ wx, Rd wx A (u8s pl) → Calls Try.prog 21 #[.agg #[.slice A pn pc, .int .i64 (b : Int)]] wx fun e w' => e = .returned (.int .i64 0) ∧ Below wx.heap.size wx w')
    (HW0 : ∀ wx, Rd wx A (u8s pl) → Rd wx R (u8s raw) → Rd wx T (tkV l) → Calls Try.prog 19 #[.agg #[.slice A pn pc, .int .i64 (b : Int)], .int .u8 (kind : Int), .slice R rn rc, .slice T n c, .bool last] wx fun e w' => ∃ X cx, e = .returned (.tuple #[.agg #[.slice X nM cx, .int .i64 (NM : Int)], .int .i64 0]) ∧ Builds wx w' 5 1 X nM cx (u8s M))
    (HL10 : ∀ wx, Rd wx R (u8s raw) → Rd wx T (tkV l) → Calls Try.prog 9 #[.int .i64 ((b : Int) % 8), .int .u8 (kind : Int), .slice R rn rc, .slice T n c] wx fun e w' => e = .returned (.tuple #[.int .i64 (N0 : Int), .int .i64 0]) ∧ Below wx.heap.size wx w')
    (HL20 : ∀ wx, Rd wx R (u8s raw) → Rd wx T (tkV l) → Calls Try.prog 9 #[.int .i64 ((b : Int) % 8), .int .u8 (bk : Int), .slice R rn rc, .slice T n c] wx fun e w' => e = .returned (.tuple #[.int .i64 (N2 : Int), .int .i64 0]) ∧ Below wx.heap.size wx w')
    (HB0 : ∀ wx, Rd wx R (u8s raw) → Rd wx T (tkV l) → Calls Try.prog 11 #[.int .i64 ((b : Int) % 8), .slice R rn rc, .slice T n c] wx fun e w' => e = .returned (.tuple #[.int .u8 (bk : Int), .int .i64 0]) ∧ Below wx.heap.size wx w')
    (HCM0 : ∀ X cx wx, Rd wx X (u8s M) → Calls Try.prog 21 #[.agg #[.slice X nM cx, .int .i64 (NM : Int)]] wx fun e w' => e = .returned (.int .i64 0) ∧ Below wx.heap.size wx w')
    (HT10 : ∀ i, i < b → ∀ wx, Rd wx A (u8s pl) → Calls Try.prog 22 #[.slice A pn pc, .int .i64 (i : Int), .int .i64 1] wx fun e w' => e = .returned (.tuple #[.int .u32 (V i : Int), .int .i64 0]) ∧ wx = w')
    (HT20 : ∀ i, i < b → ∀ X cx wx, Rd wx X (u8s M) → Calls Try.prog 22 #[.slice X nM cx, .int .i64 (i : Int), .int .i64 1] wx fun e w' => e = .returned (.tuple #[.int .u32 (V i : Int), .int .i64 0]) ∧ wx = w')
    (HT30 : ∀ X cx wx, Rd wx X (u8s M) → Calls Try.prog 22 #[.slice X nM cx, .int .i64 (b : Int), .int .i64 3] wx fun e w' => e = .returned (.tuple #[.int .u32 (V3 : Int), .int .i64 0]) ∧ wx = w') :
    Calls Try.prog 7 #[.agg #[.slice A pn pc, .int .i64 (b : Int)], .int .u8 (kind : Int), .slice R rn rc, .slice T n c, .bool last] w fun e w' => e = .returned (.bool true) ∧ Below w.heap.size w w' := by
  have d1 : decide ((pn : Int) > 500) = false := decide_eq_false (by omega)
  have d2 : decide ((rn : Int) > 500) = false := decide_eq_false (by omega)
  have d3 : decide ((n : Int) > 200) = false := decide_eq_false (by omega)
  have d4 : ((NM : Int) != (b : Int) + (N0 : Int)) = false := by rw [← hNM]; simp
  have d5 : decide (N0 < N2) = false := decide_eq_false (by omega)
  have HC := Lib.hid HC0
  have HW := Lib.hid HW0
  have HL1 := Lib.hid HL10
  have HL2 := Lib.hid HL20
  have HB := Lib.hid HB0
  have HCM := Lib.hid HCM0
  have HT1 := Lib.hid HT10
  have HT2 := Lib.hid HT20
  have HT3 := Lib.hid HT30
  have HV3 := Lib.hid hV3
  have HBK := Lib.hid hbk
  have hNM2 : NM ≤ 68000 := by omega
  clear hV3 hNM hbk HC0 HW0 HL10 HL20 HB0 HCM0 HT10 HT20 HT30
  go_enter Try.func7, Try.ntmps7
  go_wp2_with fail
  refine (balive11_any _).mono ?_
  rintro e w1 ⟨rfl, hb1⟩
  obtain ⟨b1, z1, k1⟩ := box1 hb1
  have c1 := Blk.cells k1
  clear hb1
  go_wp2_with fail
  refine (HC.out _ (hA.below b1)).mono ?_
  rintro e w2 ⟨rfl, hb2⟩
  have k1 := Blk.below k1 hb2 z1
  have b2 := b1.trans (hb2.mono b1.size)
  have z1 := Blk.lt k1
  have c1 := Blk.cells k1
  clear hb2 b1
  go_wp2_with fail
  refine (HW.out _ (hA.below b2) (hR.below b2) (hT.below b2)).mono ?_
  rintro e w3 ⟨X, cx, rfl, ho3⟩
  have k1 := Blk.below k1 ho3.1 z1
  have b3 := b2.trans (ho3.1.mono b2.size)
  have z1 := Blk.lt k1
  have c1 := Blk.cells k1
  have rx := ho3.rd
  clear b2 ho3
  go_wp2_with fail
  refine (HL1.out _ ((hR.below b3).alloc _) ((hT.below b3).alloc _)).mono ?_
  rintro e w4 ⟨rfl, hb4'⟩
  obtain ⟨b4, z4, k4⟩ := box1 hb4'
  have k1 := Blk.below k1 b4 z1
  have b5 := b3.trans (b4.mono b3.size)
  have z1 := Blk.lt k1
  have c1 := Blk.cells k1
  have rx := rx.below b4
  clear hb4' b4 b3
  go_wp2_with fail
  refine (HB.out _ (hR.below b5) (hT.below b5)).mono ?_
  rintro e w6 ⟨rfl, hb6⟩
  have k4 := Blk.below k4 hb6 z4
  have k1 := Blk.below k1 hb6 z1
  have z1 := Blk.lt k1
  have c1 := Blk.cells k1
  have z4 := Blk.lt k4
  have b6 := b5.trans (hb6.mono b5.size)
  have rx := rx.below hb6
  clear hb6 b5
  go_wp2_with fail
  refine (HL2.out _ (hR.below b6) (hT.below b6)).mono ?_
  rintro e w7 ⟨rfl, hb7⟩
  have k4 := Blk.below k4 hb7 z4
  have k1 := Blk.below k1 hb7 z1
  have z1 := Blk.lt k1
  have c1 := Blk.cells k1
  have z4 := Blk.lt k4
  have c4 := Blk.cells k4
  have b7 := b6.trans (hb7.mono b6.size)
  have rx := rx.below hb7
  clear hb7 b6
  go_wp2_with fail
  refine (HCM.out X cx _ rx).mono ?_
  rintro e w8 ⟨rfl, hb8⟩
  have k4 := Blk.below k4 hb8 z4
  have k1 := Blk.below k1 hb8 z1
  have z1 := Blk.lt k1
  have c1 := Blk.cells k1
  have z4 := Blk.lt k4
  have c4 := Blk.cells k4
  have b8 := b7.trans (hb8.mono b7.size)
  have rx := rx.below hb8
  have ra := hA.below b8
  clear hb8 b7
  have hways : ((bk : Nat) ≤ kind ∧ ((N2 : Int) == (N0 : Int)) = true) ∨ ((N2 : Int) == (N0 : Int)) = false := by
    by_cases hm : N2 = N0
    · exact .inl ⟨HBK.out hm, by rw [hm]; simp⟩
    · exact .inr (by rw [beq_eq_false_iff_ne]; omega)
  rcases hways with ⟨hbk, d7⟩ | d7
  case' inl => have d6 : decide (kind < bk) = false := decide_eq_false (by omega)
  all_goals
    go_wp2_with fail
    clear d1 d2 d3 d4 d5 d7
    try clear d6
    go_loopg [20] b (fun gk v20 wr => ∃ i : Nat, i ≤ b ∧ gk = b - i ∧ v20 = .int .i64 (i : Int) ∧ wr = w8)
    case atStart => exact ⟨0, by omega, rfl, rfl, rfl⟩
    case round =>
      obtain ⟨i, hi, hgk, rfl, rfl⟩ := hrel
      have HG := Lib.hid hgk
      clear hgk
      by_cases hlt : i < b
      · have HTa := HT1.out i hlt
        have HTb := HT2.out i hlt
        generalize V i = Vi at *
        have HTa := Lib.hid HTa
        have HTb := Lib.hid HTb
        go_wp2_with fail
        refine (HTa.out _ ra).mono ?_
        rintro e w9 ⟨rfl, rfl⟩
        go_wp2_with fail
        refine (HTb.out X cx _ rx).mono ?_
        rintro e w10 ⟨rfl, rfl⟩
        go_wp2_with fail
        go_roundg (b - (i + 1))
        case measure => have := HG.out; omega
        case rel => exact ⟨i + 1, by omega, rfl, by go_num, rfl⟩
      · obtain rfl : i = b := by omega
        go_wp2_with fail
        refine (HT3.out X cx _ rx).mono ?_
        rintro e w9 ⟨rfl, rfl⟩
        cases last with
        | true =>
          have dv : ((V3 : Int) == (2 * (kind : Int)) + 1) = true := by have := HV3.out; simp at this; simp; omega
          go_wp2_with fail
          go_ret
          exact ⟨rfl, b8⟩
        | false =>
          have dv : ((V3 : Int) == (2 * (kind : Int))) = true := by have := HV3.out; simp at this; simp; omega
          go_wp2_with fail
          go_ret
          exact ⟨rfl, b8⟩
end Go.Proofs.Ytfcefhaaphieeaa
