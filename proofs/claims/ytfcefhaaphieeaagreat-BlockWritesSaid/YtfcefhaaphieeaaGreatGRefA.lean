/-
  Walks: the document's own numbers: Bits, cut, May, Asked, Order.
-/
import Derived.Test.YtfcefhaaphieeaaGreatG18
import Derived.Test.YtfcefhaaphieeaaGreatGBlkE
namespace Go.Proofs.YtfcefhaaphieeaaGreat
open Go.RowKit

theorem elem_rn : Elem Tryz.prog 50 72 2 16 := Elem.mk' (z := .agg #[.int .u32 0, .int .i64 0]) (by kernel_rfl) (by kernel_rfl) rfl (by omega)

set_option maxHeartbeats 1000000 in
/-- How many bits numbers have. -/
theorem rbitsN_any (A : Option Addr) (n c : Nat) (L : List (Nat × Nat)) (w : World) (hA : Rd w A (nbV L)) (hn : n = L.length) (hs : L.length ≤ 1000000) (hb : lenN L ≤ 100000000) :
    Calls Tryz.prog 18 #[.slice A n c] w fun e w' => e = .returned (.int .i64 ((lenN L : Nat) : Int)) ∧ w = w' := by
  have HL := Lib.hid hn
  have hn2 : n ≤ 1000000 := by omega
  clear hn
  go_enter Tryz.func18, Tryz.ntmps18
  go_wp2_with fail
  go_loopg [3, 4] n (fun gk v3 v4 wr => ∃ k : Nat, k ≤ n ∧ gk = n - k ∧ v4 = .int .i64 (k : Int) ∧ v3 = .int .i64 ((lenN (L.take k) : Nat) : Int) ∧ wr = w)
  case atStart => exact ⟨0, by omega, rfl, rfl, rfl, rfl⟩
  case round =>
    obtain ⟨k, hk, hgk, rfl, rfl, rfl⟩ := hrel
    have HG := Lib.hid hgk
    clear hgk
    by_cases hlt : k < n
    · have hkL : k < L.length := by have := HL.out; omega
      obtain ⟨b, off, rfl, hc1, hc2⟩ := hA.nb hkL
      have hlt1 := cell_lt hc1
      have hle := lenN_take_le L k
      have hle2 := lenN_take_le L (k + 1)
      have hs := lenN_take_succ L k hkL
      obtain ⟨u, hu⟩ : ∃ u, lenN (L.take k) = u := ⟨_, rfl⟩
      obtain ⟨u2, hu2⟩ : ∃ u, lenN (L.take (k + 1)) = u := ⟨_, rfl⟩
      rw [hu] at hle hs
      rw [hu2] at hle2 hs
      rw [hu]
      generalize L[k] = x at *
      obtain ⟨x1, x2⟩ := x
      dsimp only at *
      have HS := Lib.hid hs
      have HU := Lib.hid hu2
      clear hs hu hu2
      have hx2 : x2 ≤ 100000000 := by have := HS.out; omega
      go_wp2_with fail
      go_roundg (n - (k + 1))
      case measure => have := HG.out; omega
      case rel => exact ⟨k + 1, by omega, rfl, by go_num, by have h1 := HS.out; have h2 := HU.out; rw [h2]; subst h1; go_num, rfl⟩
    · obtain rfl : k = n := by omega
      have e : L.take k = L := by have := HL.out; rw [List.take_of_length_le (by omega)]
      have HE := Lib.hid e
      go_wp2_with fail
      go_ret
      exact ⟨ret_int (by rw [HE.out]), rfl⟩

set_option maxHeartbeats 1000000 in
/-- Lengths up to the last one that is not 0. -/
theorem rcut_any (A : Option Addr) (n c : Nat) (l : List Nat) (least : Nat) (w : World) (hA : Rd w A (u8s l)) (hx : ∀ x ∈ l, x < 256) (hn : n = l.length) (hc : n ≤ c) (hs : l.length ≤ 1000000) (hle : least ≤ l.length) :
    Calls Tryz.prog 56 #[.slice A n c, .int .i64 (least : Int)] w fun e w' => e = .returned (.slice A (toldN l least) c) ∧ w = w' := by
  have HL := Lib.hid hn
  have HX := Lib.hid hx
  have hn2 : n ≤ 1000000 := by omega
  have hln : least ≤ n := by omega
  have H0 := Lib.hid (downN_at l least)
  have HT := Lib.hid (show toldN l least = downN l least n by rw [hn]; rfl)
  have hTn : downN l least n ≤ n := downN_le l least n
  clear hn hx hle
  go_enter Tryz.func56, Tryz.ntmps56
  go_wp2_with fail
  go_loopg [5, 6] (n - least) (fun gk v5 v6 wr => ∃ k m : Nat, least ≤ k ∧ k ≤ n ∧ gk = n - k ∧ v6 = .int .i64 (k : Int) ∧ v5 = .int .i64 (m : Int) ∧ Hid (m = downN l least k) ∧ wr = w)
  case atStart => exact ⟨least, least, by omega, by omega, rfl, rfl, rfl, Lib.hid H0.out.symm, rfl⟩
  case round =>
    obtain ⟨k, m, hk0, hk, hgk, rfl, rfl, HM, rfl⟩ := hrel
    have HG := Lib.hid hgk
    clear hgk
    by_cases hlt : k < n
    · have hkl : k < l.length := by have := HL.out; omega
      obtain ⟨b, off, rfl, hc1⟩ := hA.at_ (by rw [u8s_length]; omega)
      have c1 := hc1 k _ (u8s_get l k hkl)
      have hlt1 := cell_lt c1
      have hx256 : nth l k < 256 := nth_lt HX.out (by omega) k
      obtain ⟨x, hxx⟩ : ∃ x, nth l k = x := ⟨_, rfl⟩
      rw [hxx] at c1 hx256
      have HXX := Lib.hid hxx
      clear hxx hc1
      by_cases h0 : x = 0
      · subst h0
        go_wp2_with fail
        go_roundg (n - (k + 1))
        case measure => have := HG.out; omega
        case rel => exact ⟨k + 1, m, by omega, by omega, rfl, by go_num, rfl, Lib.hid (by rw [downN, if_pos ⟨by omega, HXX.out⟩]; exact HM.out), rfl⟩
      · have h0' : ¬ ((x : Int) = 0) := by omega
        go_wp2_with fail
        go_roundg (n - (k + 1))
        case measure => have := HG.out; omega
        case rel => exact ⟨k + 1, k + 1, by omega, by omega, rfl, by go_num, by go_num, Lib.hid (by rw [downN, if_neg (fun h => h0 (by rw [← HXX.out]; exact h.2))]), rfl⟩
    · obtain rfl : k = n := by omega
      have hm : m ≤ k := by have := HM.out; omega
      have hmc : (m : Int) ≤ (c : Int) := by omega
      have hmc2 : m ≤ c := by omega
      go_wp2_with fail
      go_ret
      exact ⟨by rw [HT.out, ← HM.out]; rfl, rfl⟩

set_option maxRecDepth 100000 in
set_option maxHeartbeats 4000000 in
theorem rmay8_any (a : Nat) (b c : Int) (w : World) (ha : a < 256) (h2 : -9223372036854775808 ≤ b) (h3 : b ≤ 9223372036854775807) (h4 : -9223372036854775808 ≤ c) (h5 : c ≤ 9223372036854775807) :
    Calls Tryz.prog 31 #[.agg #[.int .u8 (a : Int), .int .i64 b, .int .i64 c]] w fun e w' => e = .returned (.bool (tkB ⟨a, b, c⟩)) ∧ Below w.heap.size w w' := by
  rcases tk_ways a b c with ⟨h, hk⟩ | ⟨h, h', hk⟩ | ⟨h, h', hk⟩ | ⟨h, h', hk⟩ | ⟨h, h', h'', hk⟩ | ⟨h', h, hk⟩ | ⟨h', h, h'', h6, hk⟩ | ⟨h', h, h'', h6, hk⟩ | ⟨h', h, h'', h6, h7, hk⟩
  all_goals
    rw [hk]
    clear hk
    try subst h
    try subst h'
  all_goals
    try rcases Nat.eq_zero_or_pos a with rfl | hpos
  all_goals try exact absurd rfl h'
  all_goals
    try rw [show (((0 : Nat) : Nat) : Int) = 0 from rfl]
    try have hb0 : ((a : Int) == 0) = false := by rw [beq_eq_false_iff_ne]; omega
    try have hb1 : (b == 0) = false := by rw [beq_eq_false_iff_ne]; assumption
    try have hb2 : (c == 0) = false := by rw [beq_eq_false_iff_ne]; omega
    go_enter Tryz.func31, Tryz.ntmps31
    go_wp2_with fail
    all_goals go_ret
    all_goals refine ⟨ret_bool ?_, (Below.refl _ _).alloc (Nat.le_refl _) _⟩
    all_goals first | rfl | (simp; omega)

set_option maxRecDepth 100000 in
set_option maxHeartbeats 2000000 in
theorem rasked_any (kind : Nat) (R : Option Addr) (rn rc : Nat) (T : Option Addr) (n c : Nat) (l : List Tk) (w : World) (hk0 : kind < 256) (hr : rn ≤ 65535) (hT : Rd w T (tkV l)) (hn : n = l.length) (hm : l.length ≤ 65535) (hk : ∀ t ∈ l, TkN t) :
    Calls Tryz.prog 16 #[.int .u8 (kind : Int), .slice R rn rc, .slice T n c] w fun e w' => e = .returned (.int .i64 ((askK kind rn l : Nat) : Int)) ∧ Below w.heap.size w w' := by
  have HK := Lib.hid hk
  have HN := Lib.hid hn
  have HM := Lib.hid fun a b c w h1 h2 h3 h4 h5 => rmay8_any a b c w h1 h2 h3 h4 h5
  have hn2 : n ≤ 65535 := by omega
  clear hk hn
  by_cases h2 : 2 < kind
  · have e : askK kind rn l = 2 := by unfold askK; rw [if_pos h2]
    rw [e]
    have d : decide ((kind : Int) > 2) = true := decide_eq_true (by omega)
    go_enter Tryz.func16, Tryz.ntmps16
    go_wp2_with fail
    go_ret
    exact ⟨rfl, Below.refl _ _⟩
  · have e : askK kind rn l = if l.all tkB = true then 0 else 8 := by unfold askK; rw [if_neg h2, if_neg (by omega)]
    have e1 : ¬ ((rn : Int) > 65535) := by omega
    have e2 : ¬ ((n : Int) > 65535) := by omega
    rw [e]
    clear e
    have HA0 := Lib.hid (rfl : l.all tkB = l.all tkB)
    obtain ⟨B, hB⟩ : ∃ B, l.all tkB = B := ⟨_, rfl⟩
    rw [hB]
    have HB := Lib.hid hB
    clear hB HA0
    go_enter Tryz.func16, Tryz.ntmps16
    go_wp2_with fail
    go_loopg [7] n (fun gk v7 wr => ∃ k : Nat, k ≤ n ∧ gk = n - k ∧ v7 = .int .i64 (k : Int) ∧ Hid ((l.take k).all tkB = true) ∧ Below w.heap.size w wr)
    case atStart => exact ⟨0, by omega, rfl, rfl, Lib.hid rfl, Below.refl _ _⟩
    case round =>
      obtain ⟨k, hk, hgk, rfl, HA, hb⟩ := hrel
      have HG := Lib.hid hgk
      clear hgk
      by_cases hlt : k < n
      · have hkl : k < l.length := by have := HN.out; omega
        obtain ⟨b, off, rfl, c0, c1, c2⟩ := (hT.below hb).tk hkl
        have hlt1 := cell_lt c0
        obtain ⟨t1, t2, t3, t4, t5⟩ := HK.out _ (List.getElem_mem hkl)
        have hs := all_take l k hkl
        rw [HA.out, Bool.true_and] at hs
        have HS := Lib.hid hs
        have HNo := Lib.hid fun h => all_no hkl h
        clear hs
        generalize l[k] = t at *
        obtain ⟨ta, tb, tc⟩ := t
        dsimp only at *
        have HMt := Lib.hid fun wx => HM.out ta tb tc wx t1 t2 t3 t4 t5
        obtain ⟨z, hz⟩ : ∃ z, tkB ⟨ta, tb, tc⟩ = z := ⟨_, rfl⟩
        rw [hz] at HMt HS HNo
        clear hz
        cases z with
        | true =>
          go_wp2_with fail
          refine (HMt.out _).mono ?_
          rintro e w1 ⟨rfl, hb1⟩
          go_wp2_with fail
          go_roundg (n - (k + 1))
          case measure => have := HG.out; omega
          case rel => exact ⟨k + 1, by omega, rfl, by go_num, Lib.hid HS.out, hb.trans (hb1.mono hb.size)⟩
        | false =>
          have hBf : B = false := by rw [← HB.out]; exact HNo.out rfl
          subst hBf
          go_wp2_with fail
          refine (HMt.out _).mono ?_
          rintro e w1 ⟨rfl, hb1⟩
          go_wp2_with fail
          go_ret
          exact ⟨rfl, hb.trans (hb1.mono hb.size)⟩
      · obtain rfl : k = n := by omega
        have e : l.take k = l := by rw [HN.out]; simp
        have hBt : B = true := by rw [← HB.out]; have := HA.out; rw [e] at this; exact this
        clear e
        subst hBt
        go_wp2_with fail
        go_ret
        exact ⟨rfl, hb⟩

set_option maxRecDepth 100000 in
set_option maxHeartbeats 1000000 in
theorem rorder_any (w : World) : Calls Tryz.prog 59 #[] w fun e w' => e = .returned (.agg orderV) ∧ Below w.heap.size w w' := by
  go_enter Tryz.func59, Tryz.ntmps59
  go_wp2_with (first
    | (refine wpList_build_to rfl _ _ rfl orderV (by kernel_rfl) ?_)
    | (refine wpList_store_new rfl _ _ _ rfl _ orderV rfl rfl (by simp) _ _ (by kernel_rfl) rfl (by kernel_rfl) ?_))
  exact bodyPost_ret (results_one_row Tryz.results59 _ _ w.heap.size 94 orderV _ rfl (Blk.new' _ _ _ _ rfl) Tryz.underlying94 rfl (by kernel_rfl)) rfl ⟨rfl, (Below.refl _ _).alloc (Nat.le_refl _) _⟩
end Go.Proofs.YtfcefhaaphieeaaGreat
