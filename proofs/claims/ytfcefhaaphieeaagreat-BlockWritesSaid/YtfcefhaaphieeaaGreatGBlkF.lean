/-
  Walks: a stored block's text; what is wrong with a block.
-/
import Derived.Test.YtfcefhaaphieeaaGreatG16
import Derived.Test.YtfcefhaaphieeaaGreatGBlkB
namespace Go.Proofs.YtfcefhaaphieeaaGreat
open Go.RowKit

theorem rawN_snoc (at_ : Nat) (raw : List Nat) (j : Nat) (h : j < raw.length) : ((0, padN at_) :: (raw.length, 16) :: (65535 - raw.length, 16) :: (raw.take j).map byteN) ++ [byteN (nth raw j)] = (0, padN at_) :: (raw.length, 16) :: (65535 - raw.length, 16) :: (raw.take (j + 1)).map byteN := by
  rw [take_snoc raw j h]; simp

set_option maxRecDepth 100000 in
set_option maxHeartbeats 2000000 in
theorem stored_any (W : World) (g : Nat) (L : List (Nat × Nat)) (at_ : Nat) (R : Option Addr) (n c : Nat) (raw : List Nat) (w : World) (h : TxAt W w g L) (hat : at_ ≤ 7) (hR : Rd W R (u8s raw)) (hx : ∀ x ∈ raw, x < 256) (hn : n = raw.length) (hm : raw.length ≤ 65535) (hL : L.length ≤ 10) :
    Calls Tryz.prog 25 #[.pointer (some ⟨g, 0, none⟩), .int .i64 (at_ : Int), .slice R n c] w fun e w' => e = .returned (.tuple #[]) ∧ TxAt W w' g (L ++ ((0, padN at_) :: rawN raw)) ∧ Kt w w' := by
  have HA := Lib.hid (fun (M : List (Nat × Nat)) (B : Option Addr) (m d : Nat) (N : List (Nat × Nat)) (wx : World) (hh : TxAt W wx g N) (hB : Rd wx B (nbV M)) (hmm : m = M.length) (hl : N.length + M.length ≤ 1000000) => add_any W g N M B m d wx hh hB hmm hl)
  have HN := Lib.hid hn
  have HX := Lib.hid hx
  have hn2 : n ≤ 65535 := by omega
  have hpad : ((8 : Int) - ((at_ : Int) + 3) % 8) % 8 = ((padN at_ : Nat) : Int) := by unfold padN; omega
  have hsub : (65535 : Int) - (n : Int) = ((65535 - n : Nat) : Int) := by omega
  have hmod : ((65535 - n : Nat) : Int) % 4294967296 = ((65535 - n : Nat) : Int) := by omega
  have hmod2 : (n : Int) % 4294967296 = (n : Int) := by omega
  clear hn hx
  go_enter Tryz.func25, Tryz.ntmps25
  go_wp2_with fail
  refine (HA.out [(0, padN at_), (n, 16), (65535 - n, 16)] _ 3 3 L _ (h.alloc _) (Rd.new' _ _ _ _ _ (by simp) rfl) rfl (by simp only [List.length_cons, List.length_nil]; omega)).mono ?_
  rintro e w1 ⟨rfl, h1, k1⟩
  have k1 : Kt w w1 := (Kt.below ((Below.refl _ _).alloc (Nat.le_refl _) _)).trans k1
  clear h hpad hsub hmod hmod2
  go_wp2_with fail
  go_loopg [28] n (fun gk v28 wr => ∃ j : Nat, j ≤ n ∧ gk = n - j ∧ v28 = .int .i64 (j : Int) ∧ TxAt W wr g (L ++ ((0, padN at_) :: (n, 16) :: (65535 - n, 16) :: (raw.take j).map byteN)) ∧ Kt w wr)
  case atStart => exact ⟨0, by omega, rfl, rfl, h1, k1⟩
  case round =>
    clear h1 k1
    obtain ⟨j, hj, hgk, rfl, h, k⟩ := hrel
    have HG := Lib.hid hgk
    clear hgk
    by_cases hlt : j < n
    · have hjr : j < raw.length := by have := HN.out; omega
      have hr := hR.below h.bel
      obtain ⟨b, off, rfl, hc⟩ := hr.at_ (by rw [u8s_length]; omega)
      have hc := hc j _ (u8s_get raw j hjr)
      have hlt1 := cell_lt hc
      have hx256 : nth raw j < 256 := nth_lt HX.out (by omega) j
      obtain ⟨x, hxx⟩ : ∃ x, nth raw j = x := ⟨_, rfl⟩
      rw [hxx] at hc hx256
      have HXX := Lib.hid hxx
      have hmod : (x : Int) % 4294967296 = (x : Int) := by omega
      have hlen : (L ++ ((0, padN at_) :: (n, 16) :: (65535 - n, 16) :: (raw.take j).map byteN)).length ≤ 100000 := by
        simp only [List.length_append, List.length_cons, List.length_map, List.length_take]; omega
      have HL := Lib.hid hlen
      clear hxx hr hlen
      go_wp2_with fail
      refine (HA.out [(x, 8)] _ 1 1 _ _ (h.alloc _) (Rd.new' _ _ _ _ _ (by simp) rfl) rfl (by have := HL.out; simp only [List.length_cons, List.length_nil]; omega)).mono ?_
      rintro e w2 ⟨rfl, h2, k2⟩
      have k2 : Kt w w2 := (k.trans (Kt.below ((Below.refl _ _).alloc (Nat.le_refl _) _))).trans k2
      go_wp2_with fail
      go_roundg (n - (j + 1))
      case measure => have := HG.out; omega
      case rel =>
        refine ⟨j + 1, by omega, rfl, by go_num, ?_, k2⟩
        have e := rawN_snoc at_ raw j hjr
        rw [HXX.out, ← HN.out] at e
        rw [← e, ← List.append_assoc]; exact h2
    · obtain rfl : j = n := by omega
      go_wp2_with fail
      go_end0
      refine ⟨rfl, ?_, k⟩
      have e : raw.take j = raw := by rw [HN.out]; simp
      rw [e] at h
      unfold rawN
      rw [← HN.out]; exact h

/-! ### What is wrong -/
/-- A token's cells. -/
def tkV (l : List Tk) : List Value := l.flatMap fun t => [.int .u8 ((t.lit : Nat) : Int), .int .i64 t.dist, .int .i64 t.long]
theorem tkV_length (l : List Tk) : (tkV l).length = l.length * 3 := by
  unfold tkV
  induction l with
  | nil => rfl
  | cons t l ih => rw [List.flatMap_cons, List.length_append, ih, List.length_cons]; simp; omega
theorem tkV_at (l : List Tk) (i : Nat) (h : i < l.length) : (tkV l)[i * 3]? = some (.int .u8 ((l[i].lit : Nat) : Int)) ∧ (tkV l)[i * 3 + 1]? = some (.int .i64 l[i].dist) ∧ (tkV l)[i * 3 + 2]? = some (.int .i64 l[i].long) := by
  induction l generalizing i with
  | nil => simp at h
  | cons t l ih =>
    have e : tkV (t :: l) = .int .u8 ((t.lit : Nat) : Int) :: .int .i64 t.dist :: .int .i64 t.long :: tkV l := rfl
    cases i with
    | zero => simp [e]
    | succ i =>
      have := ih i (by simpa using h)
      rw [e, show (i + 1) * 3 = i * 3 + 1 + 1 + 1 by omega]
      simpa using this
theorem Rd.tk {w : World} {A : Option Addr} {l : List Tk} (h : Rd w A (tkV l)) {i : Nat} (hi : i < l.length) :
    ∃ b off, A = some ⟨b, off, none⟩ ∧ w.cell? ⟨b, off + i * 3, none⟩ = some (.int .u8 ((l[i].lit : Nat) : Int)) ∧ w.cell? ⟨b, off + i * 3 + 1, none⟩ = some (.int .i64 l[i].dist) ∧ w.cell? ⟨b, off + i * 3 + 2, none⟩ = some (.int .i64 l[i].long) := by
  obtain ⟨b, off, hA, hc⟩ := h.at_ (by rw [tkV_length]; omega)
  obtain ⟨h1, h2, h3⟩ := tkV_at l i hi
  refine ⟨b, off, hA, hc _ _ h1, ?_, ?_⟩
  · rw [Nat.add_assoc]; exact hc _ _ h2
  · rw [Nat.add_assoc]; exact hc _ _ h3
/-- Numbers that fit a token's fields. -/
def TkN (t : Tk) : Prop := t.lit < 256 ∧ -9223372036854775808 ≤ t.dist ∧ t.dist ≤ 9223372036854775807 ∧ -9223372036854775808 ≤ t.long ∧ t.long ≤ 9223372036854775807
def tkVal (t : Tk) : Value := .agg #[.int .u8 ((t.lit : Nat) : Int), .int .i64 t.dist, .int .i64 t.long]

theorem tk_ways (a : Nat) (b c : Int) :
    (c < 0 ∧ tkB ⟨a, b, c⟩ = false) ∨ (c = 0 ∧ b = 0 ∧ tkB ⟨a, b, c⟩ = true) ∨ (c = 0 ∧ b ≠ 0 ∧ tkB ⟨a, b, c⟩ = false) ∨ (0 < c ∧ a ≠ 0 ∧ tkB ⟨a, b, c⟩ = false) ∨ (0 < c ∧ a = 0 ∧ c < 3 ∧ tkB ⟨a, b, c⟩ = false) ∨
    (a = 0 ∧ 258 < c ∧ tkB ⟨a, b, c⟩ = false) ∨ (a = 0 ∧ 3 ≤ c ∧ c ≤ 258 ∧ b < 1 ∧ tkB ⟨a, b, c⟩ = false) ∨ (a = 0 ∧ 3 ≤ c ∧ c ≤ 258 ∧ 32768 < b ∧ tkB ⟨a, b, c⟩ = false) ∨ (a = 0 ∧ 3 ≤ c ∧ c ≤ 258 ∧ 1 ≤ b ∧ b ≤ 32768 ∧ tkB ⟨a, b, c⟩ = true) := by
  unfold tkB
  simp only [decide_eq_true_eq, decide_eq_false_iff_not]
  by_cases hc : c = 0
  · simp only [if_pos hc]; omega
  · simp only [if_neg hc]; omega

set_option maxHeartbeats 1000000 in
theorem copies_any (a : Nat) (b c : Int) (t : Bool) (w : World) (h : decide (0 < c) = t) : Calls Tryz.prog 62 #[.agg #[.int .u8 (a : Int), .int .i64 b, .int .i64 c]] w fun e w' => e = .returned (.bool t) ∧ Below w.heap.size w w' := by
  have H := Lib.hid h
  clear h
  go_enter Tryz.func62, Tryz.ntmps62
  go_wp2_with fail
  go_ret
  exact ⟨ret_bool H.out, (Below.refl _ _).alloc (Nat.le_refl _) _⟩

set_option maxRecDepth 100000 in
set_option maxHeartbeats 4000000 in
theorem tmay_any (a : Nat) (b c : Int) (w : World) (ha : a < 256) (h2 : -9223372036854775808 ≤ b) (h3 : b ≤ 9223372036854775807) (h4 : -9223372036854775808 ≤ c) (h5 : c ≤ 9223372036854775807) :
    Calls Tryz.prog 38 #[.agg #[.int .u8 (a : Int), .int .i64 b, .int .i64 c]] w fun e w' => e = .returned (.bool (tkB ⟨a, b, c⟩)) ∧ Below w.heap.size w w' := by
  have HC := Lib.hid fun t w h => copies_any a b c t w h
  rcases tk_ways a b c with ⟨h, hk⟩ | ⟨h, h', hk⟩ | ⟨h, h', hk⟩ | ⟨h, h', hk⟩ | ⟨h, h', h'', hk⟩ | ⟨h', h, hk⟩ | ⟨h', h, h'', h6, hk⟩ | ⟨h', h, h'', h6, hk⟩ | ⟨h', h, h'', h6, h7, hk⟩
  all_goals
    rw [hk]
    clear hk
    try subst h
    try subst h'
    go_enter Tryz.func38, Tryz.ntmps38
    go_wp2_with fail
    first
      | refine (HC.out true _ (decide_eq_true (by omega))).mono ?_
      | refine (HC.out false _ (decide_eq_false (by omega))).mono ?_
    rintro e w1 ⟨rfl, hb⟩
    obtain ⟨b0, b1, b2⟩ := box1 hb
    have c0 : w1.cell? ⟨w.heap.size, 0, none⟩ = _ := (Blk.cell (cs := _) b2 0)
    have c1 : w1.cell? ⟨w.heap.size, 1, none⟩ = _ := (Blk.cell (cs := _) b2 1)
    have c2 : w1.cell? ⟨w.heap.size, 2, none⟩ = _ := (Blk.cell (cs := _) b2 2)
    go_wp2_with fail
    go_ret
    refine ⟨ret_bool ?_, b0⟩
    first | rfl | (simp; omega)

set_option maxRecDepth 100000 in
set_option maxHeartbeats 2000000 in
/-- May a token be? -/
theorem tcheck_any (t : Tk) (w : World) (h : TkN t) (e0 : Nat) (he : (if tkB t then 0 else 8) = e0) : Calls Tryz.prog 22 #[tkVal t] w fun e w' => e = .returned (.int .i64 (e0 : Int)) ∧ Below w.heap.size w w' := by
  obtain ⟨a, b, c⟩ := t
  obtain ⟨h1, h2, h3, h4, h5⟩ := h
  unfold tkVal
  dsimp only at *
  have HM := Lib.hid fun w => tmay_any a b c w h1 h2 h3 h4 h5
  cases hk : tkB ⟨a, b, c⟩ with
  | true =>
    rw [hk] at he HM
    simp only [if_true] at he
    subst he
    go_enter Tryz.func22, Tryz.ntmps22
    go_wp2_with fail
    refine (HM.out _).mono ?_
    rintro e w1 ⟨rfl, hb⟩
    go_wp2_with fail
    go_ret
    exact ⟨rfl, ((Below.refl _ _).alloc (Nat.le_refl _) _).trans (hb.mono (by simp))⟩
  | false =>
    rw [hk] at he HM
    simp only [Bool.false_eq_true, if_false] at he
    subst he
    go_enter Tryz.func22, Tryz.ntmps22
    go_wp2_with fail
    refine (HM.out _).mono ?_
    rintro e w1 ⟨rfl, hb⟩
    go_wp2_with fail
    go_ret
    exact ⟨rfl, ((Below.refl _ _).alloc (Nat.le_refl _) _).trans (hb.mono (by simp))⟩

set_option maxHeartbeats 2000000 in
theorem asked1_any (t : Tk) (w : World) (h : TkN t) (b0 : Bool) (he : (!tkB t) = b0) : Calls Tryz.prog 21 #[tkVal t] w fun e w' => e = .returned (.bool b0) ∧ Below w.heap.size w w' := by
  have HM := Lib.hid fun w e0 h0 => tcheck_any t w h e0 h0
  obtain ⟨a, b, c⟩ := t
  unfold tkVal at *
  dsimp only at *
  cases hk : tkB ⟨a, b, c⟩ with
  | true =>
    rw [hk] at he HM
    simp only [Bool.not_true] at he
    subst he
    go_enter Tryz.func21, Tryz.ntmps21
    go_wp2_with fail
    refine (HM.out _ 0 rfl).mono ?_
    rintro e w1 ⟨rfl, hb⟩
    go_wp2_with fail
    go_ret
    exact ⟨rfl, ((Below.refl _ _).alloc (Nat.le_refl _) _).trans (hb.mono (by simp))⟩
  | false =>
    rw [hk] at he HM
    simp only [Bool.not_false] at he
    subst he
    go_enter Tryz.func21, Tryz.ntmps21
    go_wp2_with fail
    refine (HM.out _ 8 rfl).mono ?_
    rintro e w1 ⟨rfl, hb⟩
    go_wp2_with fail
    go_ret
    exact ⟨rfl, ((Below.refl _ _).alloc (Nat.le_refl _) _).trans (hb.mono (by simp))⟩
end Go.Proofs.YtfcefhaaphieeaaGreat
