/-
  Walks: a reader's dynamic.
-/
import Derived.Deep.RegionHeld3
import Derived.Test.YtahboomghjdjhaaGreatG32
import Derived.Test.YtahboomghjdjhaaGreatGBlkE
namespace Go.Proofs.YtahboomghjdjhaaGreat
open Go.RowKit

/-- A block's cells. -/
def bkH (kind : Int) (last : Bool) (left : Int) (f1 : Nat → Int) (v1 : Value) (f2 : Nat → Int) (v2 : Value) (i : Nat) : Value :=
  if i < 3 then (if i = 0 then .int .u8 kind else if i = 1 then .bool last else .int .i64 left) else if i < 20 then treeH f1 v1 (i - 3) else treeH f2 v2 (i - 20)
/-- A tree of the call's own. -/
structure TrOk (w : World) (base : Nat) (C : Option Addr) (m d : Nat) (xs : List Int) : Prop where
  own : w.ownsRow base 3 1 (.slice C m d) m (ints xs)
  len : m = xs.length
  max : m ≤ 1001
theorem TrOk.nil_ (w : World) (base : Nat) : TrOk w base none 0 0 [] := ⟨World.ownsRow_nil _ _ _ _, rfl, by omega⟩
theorem gX_max (l : List Nat) (m : Int) (h : l.length ≤ 1001) : (gX l m).length ≤ 1001 := Nat.le_trans (gX_len l m) h
/-- Blocks below a bound stand, but one. -/
structure Keep (base g : Nat) (w w' : World) : Prop where
  os : w'.os = w.os
  tape : w'.tape = w.tape
  output : w'.output = w.output
  size : w.heap.size ≤ w'.heap.size
  block : ∀ i, i < base → i ≠ g → w'.heap[i]? = w.heap[i]?
section
variable {base g : Nat} {a w w' : World}
theorem Keep.refl (base g : Nat) (w : World) : Keep base g w w := ⟨rfl, rfl, rfl, Nat.le_refl _, fun _ _ _ => rfl⟩
theorem Keep.only (h : Keep base g a w) (k : w.grownBy w' (some g)) (hb : base ≤ w.heap.size) : Keep base g a w' :=
  ⟨k.os.trans h.os, k.tape.trans h.tape, k.output.trans h.output, Nat.le_trans h.size k.size, fun i hi hne => (k.block i (Nat.lt_of_lt_of_le hi hb) (fun e => by injection e with e; exact hne e)).trans (h.block i hi hne)⟩
theorem Keep.below (h : Keep base g a w) (k : Below w.heap.size w w') (hb : base ≤ w.heap.size) : Keep base g a w' :=
  ⟨k.os.trans h.os, k.tape.trans h.tape, k.output.trans h.output, Nat.le_trans h.size k.size, fun i hi hne => (k.block i (Nat.lt_of_lt_of_le hi hb)).trans (h.block i hi hne)⟩
theorem Keep.own (h : Keep base g a w) {g' : Nat} (k : w.grownBy w' (some g')) (hb : base ≤ w.heap.size) (hg : base ≤ g') : Keep base g a w' :=
  ⟨k.os.trans h.os, k.tape.trans h.tape, k.output.trans h.output, Nat.le_trans h.size k.size, fun i hi hne => (k.block i (Nat.lt_of_lt_of_le hi hb) (fun e => by injection e with e; omega)).trans (h.block i hi hne)⟩
theorem Keep.out (h : Keep a.heap.size g a w) : a.grownBy w (some g) := ⟨h.os, h.tape, h.output, h.size, fun i hi hne => h.block i hi (fun e => hne (by rw [e]))⟩
end

/-- The shorts' loop. -/
def shR (n : Nat) (b : List Nat) : Rs → Except Nat (List Nat × Nat)
  | .error e => .error e
  | .ok m => shP n 0 (List.replicate 19 0) b m
def ShAt (n : Nat) (b : List Nat) (R : Except Nat (List Nat × Nat)) (j : Nat) (row : List Nat) : Rs → Prop
  | .error e => R = .error e
  | .ok m => R = shP (n - j) j row b m
theorem sh_start (n : Nat) (b : List Nat) (s : Rs) : ShAt n b (shR n b s) 0 (List.replicate 19 0) s := by
  cases s with
  | error e => rfl
  | ok m => rfl
theorem sh_step {n : Nat} {b : List Nat} {R : Except Nat (List Nat × Nat)} {j : Nat} {row : List Nat} {s : Rs} (h : ShAt n b R j row s) (hj : j < n) : ShAt n b R (j + 1) (row.set (nth orderL j) (rsV s (tkP 3) b)) (rsGo s (tkP 3) b) := by
  cases s with
  | error e => exact h
  | ok m =>
    have h : R = shP (n - j) j row b m := h
    obtain ⟨k, hk⟩ : ∃ k, n - j = k + 1 := ⟨n - j - 1, by omega⟩
    rw [hk, shP] at h
    by_cases hf : m + 3 ≤ 8 * b.length
    · rw [paBind_ok (tkP_ok hf)] at h
      rw [rsGo_ok (tkP_ok hf), rsV_ok (tkP_ok hf)]
      show R = shP (n - (j + 1)) (j + 1) _ b (m + 3)
      rw [show n - (j + 1) = k by omega]
      exact h
    · rw [paBind_no (tkP_no (by omega))] at h
      rw [rsGo_err (tkP_no (by omega))]
      exact h
theorem sh_end {n : Nat} {b : List Nat} {s s5 : Rs} {row : List Nat} (h : ShAt n b (shR n b s) n row s5) : s5 = rsGo s (shP n 0 (List.replicate 19 0)) b ∧ ∀ m y k, s = .ok m → shP n 0 (List.replicate 19 0) b m = .ok (y, k) → row = y := by
  cases s5 with
  | error e =>
    have h : shR n b s = .error e := h
    cases s with
    | error e' => unfold shR at h; injection h with h; subst h; exact ⟨rfl, fun m y k e => by cases e⟩
    | ok m =>
      have h : shP n 0 (List.replicate 19 0) b m = .error e := h
      exact ⟨(rsGo_err h).symm, fun m' y k e h' => by cases e; rw [h] at h'; cases h'⟩
  | ok q =>
    have h : shR n b s = shP (n - n) n row b q := h
    rw [Nat.sub_self] at h
    cases s with
    | error e' => cases h
    | ok m =>
      have h : shP n 0 (List.replicate 19 0) b m = .ok (row, q) := h
      exact ⟨(rsGo_ok h).symm, fun m' y k e h' => by cases e; rw [h] at h'; cases h'; rfl⟩
theorem order_at : ∀ k, k < 19 → nth orderL k < 19 := by decide +kernel
theorem orderV_at {w : World} {g : Nat} {t : TypeId} (h : Blk w g t orderV) {k : Nat} (hk : k < 19) : w.cell? ⟨g, k, none⟩ = some (.int .i64 ((nth orderL k : Nat) : Int)) := by
  rw [h.cell]
  have hl : orderL.length = 19 := rfl
  unfold orderV nth
  rw [List.getElem?_toArray, List.getElem?_map, List.getElem?_eq_getElem (by omega)]
  rfl

theorem lgP_lt {N : Nat} {row : List Nat} (hrow : row.length = 19) : ∀ (f : Nat) (out b : List Nat) (a : Nat) (y : List Nat) (n : Nat), (∀ z ∈ out, z < 256) → lgP N row f out b a = .ok (y, n) → ∀ z ∈ y, z < 256
  | 0, out, b, a, y, n, h1, h => by cases h; exact h1
  | f + 1, out, b, a, y, n, h1, h => by
    rw [lgP] at h
    split at h
    · cases h; exact h1
    · obtain ⟨s, m, h3, h4⟩ := paBind_inv h
      obtain ⟨x, m2, h5, h6⟩ := paBind_inv h4
      split at h6
      · cases h6
      · have hs := syP_in h3
        obtain ⟨_, hx, _⟩ := tkP_inv h5
        have hx2 : x < 2 ^ symBits (s : Int) := by rw [hx]; exact numOf_lt _ _ _
        refine lgP_lt hrow f _ b m2 y n (putR_lt ?_ h1) h6
        unfold runOk
        refine decide_eq_true ⟨by simp only; omega, by simp only; omega, by simp only; omega, ?_⟩
        simp only
        exact_mod_cast hx2
theorem ccheck_is (A : Option Addr) (c nl : Nat) (l : List Nat) (m : Int) (E : Nat) (w : World) (hE : canE l m = E) (hnl : nl = l.length) (hm : l.length ≤ 1001) (h1 : -9223372036854775808 ≤ m) (h2 : m ≤ 9223372036854775807) (hl : Bs w A l) :
    Calls Tryz.prog 72 #[.slice A nl c, .int .i64 m] w fun e w' => e = .returned (.int .i64 (E : Int)) ∧ w = w' := by
  subst hE; subst hnl; exact check_any A c l m w hl hm h1 h2
theorem tree_lit (f : Nat → Int) (v : Value) : cellsOf 17 (treeH f v) = #[.int .i64 (f 0), .int .i64 (f 1), .int .i64 (f 2), .int .i64 (f 3), .int .i64 (f 4), .int .i64 (f 5), .int .i64 (f 6), .int .i64 (f 7), .int .i64 (f 8), .int .i64 (f 9), .int .i64 (f 10), .int .i64 (f 11), .int .i64 (f 12), .int .i64 (f 13), .int .i64 (f 14), .int .i64 (f 15), v] := rfl
theorem mk19 : (madeCells (Value.int .u8 0).cells (19 * 1)).toList = u8s (List.replicate 19 0) := by rw [Nat.mul_one, made_zeros _ rfl, zeros_list, u8s_zeros]
theorem own_set_at {w : World} {base e size n c g : Nat} {xs : List Value} (h : w.ownsRow base e size (.slice (some ⟨g, 0, none⟩) n c) n xs) (i : Nat) (_hi : i < n * size) (u : Value) : (w.setCell ⟨g, i, none⟩ u).ownsRow base e size (.slice (some ⟨g, 0, none⟩) n c) n (xs.set i u) := (h.stored i u).1
/-- What dynamic leaves behind. -/
def DynEnd (W w w' : World) (base g kb : Nat) (B : Option Addr) (n c : Nat) (b : List Nat) (a : Nat) (last : Bool) (r : Ending) : Prop :=
  r = .returned (.tuple #[]) ∧ ∃ f1 C1 m1 d1 x1 f2 C2 m2 d2 x2, Arr w' kb 28 37 (bkH 2 last 0 f1 (.slice C1 m1 d1) f2 (.slice C2 m2 d2)) ∧ TrOk w' base C1 m1 d1 x1 ∧ TrOk w' base C2 m2 d2 x2 ∧
    RdrAt W w' g B n c b (rsGo (.ok a) (dyP last) b) ∧ Keep base g w w' ∧
    ∀ k m, dyP last b a = .ok (k, m) → f1 = cntS (allP k.lo 16) ∧ x1 = symS (allP k.lo 16) ∧ f2 = cntS (allP k.fa 16) ∧ x2 = symS (allP k.fa 16)

theorem bk_sets (last : Bool) (F1 F2 : Nat → Int) (u1 u2 : Value) {w17 : World} {kb : Nat} (k17 : Arr w17 kb 28 37 (bkH 2 last 0 (fun _ => 0) (.slice none 0 0) (fun _ => 0) (.slice none 0 0))) :
    Arr ((w17.setCells kb 3 ((List.range 17).map (treeH F1 u1))).setCells kb 20 ((List.range 17).map (treeH F2 u2))) kb 28 37 (bkH 2 last 0 F1 u1 F2 u2) := by
  refine ((k17.sets 3 17 (treeH F1 u1) (by omega)).sets 20 17 (treeH F2 u2) (by omega)).congr fun i hi => ?_
  unfold bkH
  by_cases h1 : 20 ≤ i ∧ i < 20 + 17
  · rw [if_pos h1, if_neg (by omega), if_neg (by omega)]
  · rw [if_neg h1]
    by_cases h2 : 3 ≤ i ∧ i < 3 + 17
    · rw [if_pos h2, if_neg (by omega), if_pos (by omega)]
    · have h3 : i < 3 := by omega
      simp only [if_neg h2, if_pos h3]

set_option maxRecDepth 100000 in
set_option maxHeartbeats 8000000 in
theorem rddyn_any (W w : World) (base g kb : Nat) (B : Option Addr) (n c : Nat) (b : List Nat) (a : Nat) (last : Bool) (h : RdrAt W w g B n c b (.ok a)) (hk : Arr w kb 28 37 (bkH 2 last 0 (fun _ => 0) (.slice none 0 0) (fun _ => 0) (.slice none 0 0))) (hbase : base ≤ kb) (hW : W.heap.size ≤ base) (hg : g < base) :
    Calls Tryz.prog 78 #[.pointer (some ⟨g, 0, none⟩), .pointer (some ⟨kb, 0, none⟩)] w fun r w' => DynEnd W w w' base g kb B n c b a last r := by
  have HT := Lib.hid fun wx k s' (hk : k ≤ 32) hr => rtakeN_any W wx g B n c b s' k hk hr
  have HF := Lib.hid fun wx u s' hr => rfail_any W wx g B n c b s' u 132 (fun _ => by omega) hr
  have hkb := Blk.lt hk
  have hgk : g ≠ kb := by omega
  obtain ⟨v1, hv1⟩ : ∃ v, rsV (.ok a) (tkP 5) b = v := ⟨_, rfl⟩
  obtain ⟨s1, hs1⟩ : ∃ s, rsGo (.ok a) (tkP 5) b = s := ⟨_, rfl⟩
  obtain ⟨v2, hv2⟩ : ∃ v, rsV s1 (tkP 5) b = v := ⟨_, rfl⟩
  obtain ⟨s2, hs2⟩ : ∃ s, rsGo s1 (tkP 5) b = s := ⟨_, rfl⟩
  obtain ⟨v3, hv3⟩ : ∃ v, rsV s2 (tkP 4) b = v := ⟨_, rfl⟩
  obtain ⟨s3, hs3⟩ : ∃ s, rsGo s2 (tkP 4) b = s := ⟨_, rfl⟩
  have l1 : v1 < 32 := by rw [← hv1]; exact rsV_lt _ 5 b
  have l2 : v2 < 32 := by rw [← hv2]; exact rsV_lt _ 5 b
  have l3 : v3 < 16 := by rw [← hv3]; exact rsV_lt _ 4 b
  have h3 : s3 = rsGo (.ok a) (tkP 14) b := by rw [← hs3, ← hs2, ← hs1, tk_tk, tk_tk]
  have hval : ∀ m, rsGo (.ok a) (tkP 14) b = .ok m → v1 + 257 = numOf b a 14 % 32 + 257 ∧ v2 + 1 = numOf b a 14 / 32 % 32 + 1 ∧ v3 + 4 = numOf b a 14 / 1024 + 4 := by
    intro m hm
    rw [← h3] at hm
    obtain ⟨p3, e3, q3, r3, t3⟩ := rsGo_tk (hs3.trans hm)
    obtain ⟨p2, e2, q2, r2, t2⟩ := rsGo_tk (hs2.trans e3)
    obtain ⟨p1, e1, q1, r1, t1⟩ := rsGo_tk (hs1.trans e2)
    cases e1
    subst r1
    subst r2
    rw [hv1] at t1
    rw [hv2] at t2
    rw [hv3] at t3
    have n1 := num_add b a 5 9
    have n2 := num_add b (a + 5) 5 4
    have z1 := numOf_lt b a 5
    have z2 := numOf_lt b (a + 5) 5
    have z3 := numOf_lt b (a + 5 + 5) 4
    rw [show 5 + 9 = 14 from rfl] at n1
    rw [show 5 + 4 = 9 from rfl] at n2
    rw [n1, n2, t1, t2, t3]
    generalize numOf b a 5 = A1 at *
    generalize numOf b (a + 5) 5 = A2 at *
    generalize numOf b (a + 5 + 5) 4 = A3 at *
    simp only [Nat.reducePow] at *
    omega
  have T1 := Lib.hid (show Calls Tryz.prog 74 #[.pointer (some ⟨g, 0, none⟩), .int .i64 5] w (fun r w' => RdRes W w w' g B n c b r v1 s1) from by have := HT.out w 5 (.ok a) (by omega) h; rw [hv1, hs1] at this; exact this)
  have T2 := Lib.hid fun wx hr => show Calls Tryz.prog 74 #[.pointer (some ⟨g, 0, none⟩), .int .i64 5] wx (fun r w' => RdRes W wx w' g B n c b r v2 s2) from by have := HT.out wx 5 s1 (by omega) hr; rw [hv2, hs2] at this; exact this
  have T3 := Lib.hid fun wx hr => show Calls Tryz.prog 74 #[.pointer (some ⟨g, 0, none⟩), .int .i64 4] wx (fun r w' => RdRes W wx w' g B n c b r v3 s3) from by have := HT.out wx 4 s2 (by omega) hr; rw [hv3, hs3] at this; exact this
  have HVAL := Lib.hid (And.intro h3 hval)
  clear h3 hval hs3 hs2 hs1 hv1 hv2 hv3
  go_enter Tryz.func78, Tryz.ntmps78
  go_upto_region 1 with (first
    | (go_at_call 74; refine (T3.out _ hr2).mono ?_; rintro e w3 ⟨rfl, hr3, hg3⟩)
    | (go_at_call 74; refine (T2.out _ hr1).mono ?_; rintro e w2 ⟨rfl, hr2, hg2⟩)
    | (go_at_call 74; refine (T1.out).mono ?_; rintro e w1 ⟨rfl, hr1, hg1⟩))
  have hbw : base ≤ w.heap.size := by omega
  have keep3 := (((Keep.refl base g w).only hg1 hbw).only hg2 (Nat.le_trans hbw hg1.size)).only hg3 (Nat.le_trans hbw (Nat.le_trans hg1.size hg2.size))
  have k3 : Arr w3 kb 28 37 (bkH 2 last 0 (fun _ => 0) (.slice none 0 0) (fun _ => 0) (.slice none 0 0)) := Blk.grown (Blk.grown (Blk.grown hk hg1 (by intro e; injection e with e; omega)) hg2 (by intro e; injection e with e; omega)) hg3 (by intro e; injection e with e; omega)
  have hb3 : base ≤ w3.heap.size := Nat.le_trans hbw keep3.size
  clear hg1 hg2 hg3 hr1 hr2 T1 T2 T3 hk h hkb
  have q1 : (v1 : Int) + 257 = ((v1 + 257 : Nat) : Int) := by omega
  have q2 : (v2 : Int) + 1 = ((v2 + 1 : Nat) : Int) := by omega
  have q3 : (v3 : Int) + 4 = ((v3 + 4 : Nat) : Int) := by omega
  rw [q1, q2, q3]
  have l1' : v1 + 257 ≤ 288 := by omega
  have l2' : v2 + 1 ≤ 32 := by omega
  have l3' : v3 + 4 ≤ 19 := by omega
  have m1 : 257 ≤ v1 + 257 := by omega
  have m2 : 1 ≤ v2 + 1 := by omega
  clear q1 q2 q3 l1 l2 l3
  generalize v1 + 257 = longs at *
  generalize v2 + 1 = fars at *
  generalize v3 + 4 = ns at *
  obtain ⟨s4, hs4⟩ : ∃ s, rsFail s3 (decide (longs ≤ 286 ∧ fars ≤ 30)) 132 = s := ⟨_, rfl⟩
  have HS4 := Lib.hid hs4
  go_cut [] from 22 to 29 (fun wx => RdrAt W wx g B n c b s4 ∧ Arr wx kb 28 37 (bkH 2 last 0 (fun _ => 0) (.slice none 0 0) (fun _ => 0) (.slice none 0 0)) ∧ Keep base g w wx)
  case first =>
    clear hs4
    by_cases c1 : longs ≤ 286
    · have HF2 := Lib.hid (HF.out w3 (decide ((fars : Int) ≤ 30)) s3 hr3)
      have e4 : rsFail s3 (decide ((fars : Int) ≤ 30)) 132 = s4 := by
        rw [← HS4.out]
        congr 1
        rw [Bool.eq_iff_iff, decide_eq_true_iff, decide_eq_true_iff]; omega
      rw [e4] at HF2
      go_wp2_with (go_at_call 75; refine HF2.out.mono ?_; rintro e w4 ⟨rfl, hr4, hg4⟩)
      go_meet
      case rel => exact ⟨hr4, Blk.grown k3 hg4 (by intro e; injection e with e; omega), keep3.only hg4 hb3⟩
    · have HF2 := Lib.hid (HF.out w3 false s3 hr3)
      have e4 : rsFail s3 false 132 = s4 := by rw [← HS4.out, decide_eq_false (fun h : longs ≤ 286 ∧ fars ≤ 30 => c1 h.1)]
      rw [e4] at HF2
      go_wp2_with (go_at_call 75; refine HF2.out.mono ?_; rintro e w4 ⟨rfl, hr4, hg4⟩)
      go_meet
      case rel => exact ⟨hr4, Blk.grown k3 hg4 (by intro e; injection e with e; omega), keep3.only hg4 hb3⟩
  case rest =>
    clear k3 keep3 hr3 hb3
    obtain ⟨hr4, k4, keep4⟩ := hcut
    have hb4 : base ≤ wc.heap.size := Nat.le_trans hbw keep4.size
    go_upto_region 4 with (first
      | (at_make; refine makes relem_u8 (z := .int .u8 0) (by kernel_rfl) rfl _ _ rfl 19 rfl rfl rfl (by omega) (by omega) (u8s (List.replicate 19 0)) mk19 ?_; intro w5 hB5)
      | (go_at_call 100; refine (order_any _).mono ?_; rintro e w6 ⟨rfl, hb6⟩)
      | (refine wpList_store_new rfl _ _ _ rfl _ orderV rfl rfl (by simp) _ _ (by kernel_rfl) rfl (by kernel_rfl) ?_))
    have r7 := own_far_base ((own_below hB5.2 hb6).alloc (.cells orderV 149)) hb4
    have kO : Blk (w6.alloc (.cells orderV 149)) w6.heap.size 149 orderV := Blk.new _ _ _
    have b67 : Below wc.heap.size wc (w6.alloc (.cells orderV 149)) := (hB5.1.trans (hb6.mono hB5.1.size)).alloc (Nat.le_trans hB5.1.size hb6.size) _
    have hr7 := hr4.below b67
    have k7 := Arr.below k4 b67 (Blk.lt k4)
    have keep7 := keep4.below b67 hb4
    have hgO : base ≤ w6.heap.size := Nat.le_trans hb4 (Nat.le_trans hB5.1.size hb6.size)
    have hrO : wc.heap.size ≠ w6.heap.size := by
      have h1 : wc.heap.size < w5.heap.size := (hB5.2.lt wc.heap.size rfl).2
      have h2 := hb6.size
      omega
    have hkO : kb ≠ w6.heap.size := by have := Blk.lt k4; have := hB5.1.size; have := hb6.size; omega
    clear hB5 hb6 hr4 k4 keep4
    generalize w6.alloc (.cells orderV 149) = W7 at *
    obtain ⟨gR, hgR⟩ : ∃ g, wc.heap.size = g := ⟨_, rfl⟩
    rw [hgR] at r7 hrO
    rw [hgR]
    generalize w6.heap.size = gO at *
    have hgRb : base ≤ gR := by omega
    have hkR : kb ≠ gR := by have := own_blk_ne r7 k7 (by decide); intro e; exact this (by rw [e]; rfl)
    clear hgR b67
    have hnO : ((ns : Nat) : Int) ≤ 19 := by omega
    have hn0 : (0 : Int) ≤ ((ns : Nat) : Int) := by omega
    go_upto_region 5 with (fail)
    have hst := sh_start ns b s4
    obtain ⟨R, hR⟩ : ∃ R, shR ns b s4 = R := ⟨_, rfl⟩
    rw [hR] at hst
    have HR := Lib.hid hR
    clear hR
    go_loopg [10, 35] ns (fun gk v10 v35 wr => ∃ (j : Nat) (row : List Nat) (sj : Rs), j ≤ ns ∧ gk = ns - j ∧ v35 = .int .i64 (j : Int) ∧ row.length = 19 ∧ (∀ x ∈ row, x < 8) ∧ Hid (ShAt ns b R j row sj) ∧ RdrAt W wr g B n c b sj ∧ Keep base g w wr ∧ wr.ownsRow base 5 1 (.slice (some ⟨gR, 0, none⟩) 19 19) 19 (u8s row) ∧ Blk wr gO 149 orderV ∧ Arr wr kb 28 37 (bkH 2 last 0 (fun _ => 0) (.slice none 0 0) (fun _ => 0) (.slice none 0 0)))
    case atStart => exact ⟨0, List.replicate 19 0, s4, by omega, rfl, rfl, by simp, by simp, Lib.hid hst, hr7, keep7, r7, kO, k7⟩
    case round =>
      clear hst hr7 keep7 r7 kO k7
      obtain ⟨j, row, sj, hj, hgk, rfl, hrl, hrx, hat, hr, hkeep, hown, kO, k⟩ := hrel
      have HG := Lib.hid hgk
      have HRW := Lib.hid (And.intro hrl hrx)
      clear hgk hrl hrx
      have hbr : base ≤ wr.heap.size := Nat.le_trans hbw hkeep.size
      by_cases hlt : j < ns
      · have cO := orderV_at kO (k := j) (by omega)
        have hS19 := order_at j (by omega)
        have hstep := sh_step hat.out hlt
        have hv8 : rsV sj (tkP 3) b < 8 := rsV_lt sj 3 b
        have HT3 := Lib.hid (show Calls Tryz.prog 74 #[.pointer (some ⟨g, 0, none⟩), .int .i64 3] wr (fun r w' => RdRes W wr w' g B n c b r (rsV sj (tkP 3) b) (rsGo sj (tkP 3) b)) from HT.out wr 3 sj (by omega) hr)
        generalize rsV sj (tkP 3) b = v at *
        generalize rsGo sj (tkP 3) b = sj1 at *
        generalize nth orderL j = S at *
        have HST := Lib.hid hstep
        have hv256 : (v : Int) % 256 = (v : Int) := by omega
        have z1 : (0 : Int) ≤ (S : Int) := by omega
        have z2 : (S : Int) < 19 := by omega
        have z3 : (0 : Int) ≤ (j : Int) := by omega
        have z4 : (j : Int) < (ns : Int) := by omega
        clear hstep hat
        go_upto_region 8 with (go_at_call 74; refine HT3.out.mono ?_; rintro e w8 ⟨rfl, hr8, hg8⟩; have o8 := hr.own hown (by decide) hg8; have f8 := o8.frozenAt S; have c8 := (o8.cellAt S (by omega)).trans (u8s_get row S (by rw [HRW.out.1]; omega)))
        go_wp2_with fail
        go_roundg (ns - (j + 1))
        case measure => have := HG.out; omega
        case rel =>
          have hgRne : g ≠ gR := by omega
          have o9 := own_set_at o8 S (by omega) (.int .u8 (v : Int))
          have only9 : w8.grownBy (w8.setCell ⟨gR, S, none⟩ (.int .u8 (v : Int))) (some gR) := only_set (only_self _ _) S _
          refine ⟨j + 1, row.set S v, sj1, by omega, rfl, by go_num, by rw [List.length_set]; exact HRW.out.1, ?_, HST, hr8.other only9 hgRne (Nat.le_trans hW hgRb), (hkeep.only hg8 hbr).own only9 (Nat.le_trans hbr hg8.size) hgRb, ?_, ?_, ?_⟩
          · intro y hy
            rcases List.mem_or_eq_of_mem_set hy with hy | rfl
            · exact HRW.out.2 y hy
            · exact hv8
          · rw [← pu8s_set]; exact o9
          · exact Blk.far (Blk.grown kO hg8 (by intro e; injection e with e; omega)) (p := ⟨gR, S, none⟩) (Ne.symm hrO) _
          · exact Blk.far (Blk.grown k hg8 (by intro e; injection e with e; omega)) (p := ⟨gR, S, none⟩) hkR _
      · obtain rfl : j = ns := by omega
        have hat := hat.out
        rw [← HR.out] at hat
        obtain ⟨e5, r5⟩ := sh_end hat
        have hrow := HRW.out.1
        have hbs : Bs wr (some ⟨gR, 0, none⟩) row := rd_u8 (own_rd hown) (fun x hx => by have := HRW.out.2 x hx; omega)
        obtain ⟨s6, hs6⟩ : ∃ s, rsFail sj (decide (canE row 7 = 0)) 132 = s := ⟨_, rfl⟩
        obtain ⟨m6, hm6⟩ : ∃ m, (gX row 7).length = m := ⟨_, rfl⟩
        obtain ⟨s7, hs7⟩ : ∃ s, rsFail s6 (decide (1 < m6)) 132 = s := ⟨_, rfl⟩
        obtain ⟨s8, hs8⟩ : ∃ s, rsGo s7 (lgP (longs + fars) row (longs + fars) []) b = s := ⟨_, rfl⟩
        have hmx : m6 ≤ 1001 := by rw [← hm6]; exact gX_max row 7 (by omega)
        have hchk : ∀ m, s7 = .ok m → chkT (gF row 7) (gX row 7) = some (padL row) := fun m hm => by
          have h1 := rsFail_ok (hs7.trans hm)
          have h2 := rsFail_ok (hs6.trans h1.1)
          have hc : canE row 7 = 0 := of_decide_eq_true h2.2
          rw [(gF_ok hc).1, (gF_ok hc).2]
          exact chk_grown hc
        have HGr := Lib.hid (show Calls Tryz.prog 77 #[.pointer (some ⟨g, 0, none⟩), .slice (some ⟨gR, 0, none⟩) 19 19, .int .i64 7] wr (fun r w' => GrwRes W wr w' g B n c b s6 (gF row 7) (gX row 7) r) from by
          have := rdgrow_any W wr g B n c b sj (some ⟨gR, 0, none⟩) 19 19 row 7 hbs hrow.symm (by omega) (by omega) (by omega) hr
          rw [hs6] at this
          exact this)
        have hdec : decide (((m6 : Nat) : Int) > 1) = decide (1 < m6) := by rw [Bool.eq_iff_iff, decide_eq_true_iff, decide_eq_true_iff]; omega
        have HF7 := Lib.hid fun wx (hr : RdrAt W wx g B n c b s6) => show Calls Tryz.prog 75 #[.pointer (some ⟨g, 0, none⟩), .bool (decide (((m6 : Nat) : Int) > 1)), .int .i64 132] wx (fun r w' => r = .returned (.tuple #[]) ∧ RdrAt W w' g B n c b s7 ∧ wx.grownBy w' (some g)) from by
          have := HF.out wx (decide (1 < m6)) s6 hr
          rw [hs7] at this
          rw [hdec]
          exact this
        have HL8 := Lib.hid fun wx (A : Option Addr) (m d : Nat) (hx : ∀ wy, wx.grownBy wy (some g) → Rd wy A (ints (gX row 7))) (hm : m = (gX row 7).length) (hd : m ≤ d) (hr : RdrAt W wx g B n c b s7) => rdlens_any W wx g B n c b s7 (gF row 7) A m d (gX row 7) row (longs + fars) hx hm hd (by omega) hrow hchk (by omega) (by omega) hr
        have HDA := Lib.hid (show ∀ x, (∀ m y k, s7 = .ok m → lgP (longs + fars) row (longs + fars) [] b m = .ok (y, k) → x = y) → DynAt b a s4 sj s7 s8 longs fars j row x from fun x hx => ⟨by rw [← HS4.out, HVAL.out.1], HVAL.out.2, e5, r5, by rw [hs6, hm6, hs7], hs8.symm, hx⟩)
        have HS8 := Lib.hid hs8
        have HM6 := Lib.hid hm6
        have hN320 : longs + fars ≤ 320 := by omega
        clear e5 r5 hrow hbs hs6 hm6 hs7 hs8 hchk hdec hat HT
        generalize gF row 7 = F at *
        generalize gX row 7 = X at *
        go_upto_region 10 with (first
          | (go_at_call 77; refine HGr.out.mono ?_; rintro e w9 ⟨C, m9, d9, rfl, hm9, hr9, hg9, o9⟩; obtain rfl : m9 = m6 := hm9.trans HM6.out; clear hm9)
          | (refine store_new rfl 26 (.tmp 11) (.tmp 48) rfl _ _ rfl rfl rfl 26 _ (by rw [cellsOf_size]; exact tree_size) (by rw [cellsOf_size]; rfl) (cellsOf_one (fun k _ => treeH_one _ _ _ _ k)) ?_))
        change Code.wp _ _ _ _ (w9.alloc (.cells (cellsOf 17 (treeH F (.slice C m9 d9))) 26))
        have h10 := hr9.alloc (.cells (cellsOf 17 (treeH F (.slice C m9 d9))) 26)
        have kt : Arr (w9.alloc (.cells (cellsOf 17 (treeH F (.slice C m9 d9))) 26)) w9.heap.size 26 17 (treeH F (.slice C m9 d9)) := Blk.new _ _ _
        have o10 := own_far_base (o9.alloc (.cells (cellsOf 17 (treeH F (.slice C m9 d9))) 26)) hbr
        have hd9 := own_cap o9
        have b10 : Below w9.heap.size w9 (w9.alloc (.cells (cellsOf 17 (treeH F (.slice C m9 d9))) 26)) := (Below.refl _ _).alloc (Nat.le_refl _) _
        have hb9 : base ≤ w9.heap.size := Nat.le_trans hbr hg9.size
        have keep10 := (hkeep.only hg9 hbr).below b10 hb9
        have k10 : Arr w9 kb 28 37 _ := Blk.grown k hg9 (by intro e; injection e with e; omega)
        have k10 := Arr.alloc k10 (.cells (cellsOf 17 (treeH F (.slice C m9 d9))) 26)
        have hb10 : base ≤ (w9.alloc (.cells (cellsOf 17 (treeH F (.slice C m9 d9))) 26)).heap.size := by simp; omega
        clear hr9 hg9 o9 b10 hr hkeep hown kO k hbr HGr
        generalize w9.alloc (.cells (cellsOf 17 (treeH F (.slice C m9 d9))) 26) = W10 at *
        have ct : W10.cell? ⟨w9.heap.size, 16, none⟩ = some (.slice C m9 d9) := by rw [Arr.cell kt 16 (by omega), treeH_16]
        have hgt : g ≠ w9.heap.size := by omega
        go_upto_region 12 with (first
          | (refine load_arr rfl 26 (.tmp 11) rfl rfl kt tree_under rfl tree_size ?_)
          | (go_at_call 75; refine (HF7.out _ h10).mono ?_; rintro e w11 ⟨rfl, h11, hg11⟩; have kt := Blk.grown kt hg11 (show some w9.heap.size ≠ some g from fun e => by injection e with e; exact hgt e.symm); have kt : Arr w11 w9.heap.size 26 17 (treeH F (.slice C m9 d9)) := kt; have o11 := h10.own o10 (by decide) hg11)
          | (go_at_call 101; refine (HL8.out _ C m9 d9 (fun wy hy => own_rd (h11.own o11 (by decide) hy)) HM6.out.symm hd9 h11).mono ?_; rintro e w12 ⟨C12, d12, x, rfl, h12, hg12, o12, hx12⟩))
        have hdy := (HDA.out x hx12).dy last
        have hxlt : ∀ m, s8 = .ok m → ∀ y ∈ x, y < 256 := fun m hm => by
          have h1 := HS8.out
          rw [hm] at h1
          obtain ⟨q, y, h2, h3⟩ := rsGo_inv h1
          rw [hx12 q y m h2 h3]
          exact lgP_lt HRW.out.1 _ _ _ _ _ _ (by simp) h3
        rw [HS8.out] at h12
        have keep12 := (keep10.only hg11 hb10).only hg12 (Nat.le_trans hb10 hg11.size)
        have hb11 : base ≤ w11.heap.size := Nat.le_trans hb10 hg11.size
        have hb12 : base ≤ w12.heap.size := Nat.le_trans hb11 hg12.size
        have k12 : Arr w12 kb 28 37 (bkH 2 last 0 (fun _ => 0) (.slice none 0 0) (fun _ => 0) (.slice none 0 0)) := Blk.grown (Blk.grown k10 hg11 (by intro e; injection e with e; omega)) hg12 (by intro e; injection e with e; omega)
        have o12 := own_far_base o12 hb11
        clear HL8 HF7 HDA h10 h11 o10 o11 keep10 k10 kt hg11 hg12 ct hx12 HM6 HR HRW HS4 HS8 HVAL
        obtain ⟨av, hbk, _⟩ := h12.blk
        have c2 : w12.cell? ⟨g, 2, none⟩ = some (.int .i64 (rsE s8 : Int)) := hbk.cell 2
        cases s8 with
        | error e =>
          have hE := Lib.hid (show rsGo (.ok a) (dyP last) b = .error e from hdy)
          have he' := h12.ne e rfl
          have hne : ¬ (((rsE (.error e : Rs) : Nat) : Int) = 0) := by simp only [rsE]; omega
          clear hdy
          go_wp2_with fail
          refine bodyPost_ret (results_none Tryz.results78 _ _ _) rfl ?_
          refine ⟨rfl, _, _, _, _, [], _, _, _, _, [], k12, TrOk.nil_ _ _, TrOk.nil_ _ _, by rw [hE.out]; exact h12, keep12, fun k m hk => ?_⟩
          have := hE.out
          rw [rsGo_ok hk] at this
          cases this
        | ok m =>
          obtain ⟨hdz, hxl, hl286, hf30, hl257, hf1⟩ := hdy
          replace c2 : w12.cell? ⟨g, 2, none⟩ = some (.int .i64 0) := c2
          have hx256 := hxlt m rfl
          clear hxlt
          obtain ⟨xl, hxl0⟩ : ∃ xl, x.length = xl := ⟨_, rfl⟩
          rw [hxl0] at o12 hxl
          rw [hxl0]
          have HXL := Lib.hid hxl0
          obtain ⟨gx, hgx, _⟩ := own_at o12 (by omega)
          subst hgx
          have c256 := (o12.cellAt 256 (by omega)).trans (u8s_get x 256 (by rw [hxl0]; omega))
          have hcx := own_cap o12
          have hv := nth_lt hx256 (by omega) 256
          have HBT := Lib.hid fun (wx : World) (ho : wx.ownsRow base 5 1 (.slice (some ⟨gx, 0, none⟩) xl d12) xl (u8s x)) => show Bs wx (some ⟨gx, 0, none⟩) (x.take longs) ∧ Bs wx (some ⟨gx, longs, none⟩) (x.drop longs) from
            ⟨rd_u8 (by have := (own_rd ho).take longs; unfold u8s at this ⊢; rw [List.map_take]; exact this) (fun y hy => hx256 y (List.mem_of_mem_take hy)),
              rd_u8 (by have := (own_rd ho).drop longs; unfold u8s at this ⊢; rw [List.map_drop]; simpa [add_plain] using this) (fun y hy => hx256 y (List.mem_of_mem_drop hy))⟩
          have htl : (x.take longs).length = longs := by rw [List.length_take, hxl0]; omega
          have hdl : (x.drop longs).length = fars := by rw [List.length_drop, hxl0]; omega
          obtain ⟨v, hvv⟩ : ∃ v, nth x 256 = v := ⟨_, rfl⟩
          rw [hvv] at c256 hv
          obtain ⟨s9, hs9⟩ : ∃ s, rsFail (.ok m) (decide (0 < v)) 132 = s := ⟨_, rfl⟩
          obtain ⟨s10, hs10⟩ : ∃ s, rsFail s9 (decide (canE (x.take longs) 15 = 0)) 132 = s := ⟨_, rfl⟩
          obtain ⟨s11, hs11⟩ : ∃ s, rsFail s10 (decide (canE (x.take longs) 15 = 0)) 132 = s := ⟨_, rfl⟩
          obtain ⟨s12, hs12⟩ : ∃ s, rsFail s11 (decide (canE (x.drop longs) 15 = 0)) 132 = s := ⟨_, rfl⟩
          have hdzS : dzS m longs x = s12 := by
            unfold dzS
            rw [← hs12, ← hs11, ← hs10, ← hs9, hvv]
            cases h1 : decide (0 < v) <;> cases h2 : decide (canE (x.take longs) 15 = 0) <;> rfl
          have hfin := dz_is last longs x b m
          rw [hdzS, hvv] at hfin
          have HFIN := Lib.hid (And.intro hdz hfin)
          have HF9 := Lib.hid fun wx (hr : RdrAt W wx g B n c b (.ok m)) => show Calls Tryz.prog 75 #[.pointer (some ⟨g, 0, none⟩), .bool (decide (0 < v)), .int .i64 132] wx (fun r w' => r = .returned (.tuple #[]) ∧ RdrAt W w' g B n c b s9 ∧ wx.grownBy w' (some g)) from by
            have := rfail_any W wx g B n c b (.ok m) (decide (0 < v)) 132 (fun _ => by omega) hr
            rw [hs9] at this
            exact this
          obtain ⟨E, hE⟩ : ∃ E, canE (x.take longs) 15 = E := ⟨_, rfl⟩
          have HCk := Lib.hid fun wx (hb : Bs wx (some ⟨gx, 0, none⟩) (x.take longs)) => ccheck_is (some ⟨gx, 0, none⟩) d12 longs (x.take longs) 15 E wx hE htl.symm (by omega) (by omega) (by omega) hb
          have HF10 := Lib.hid fun wx (hr : RdrAt W wx g B n c b s9) => show Calls Tryz.prog 75 #[.pointer (some ⟨g, 0, none⟩), .bool ((E : Int) == 0), .int .i64 132] wx (fun r w' => r = .returned (.tuple #[]) ∧ RdrAt W w' g B n c b s10 ∧ wx.grownBy w' (some g)) from by
            have := rfail_any W wx g B n c b s9 ((E : Int) == 0) 132 (fun _ => by omega) hr
            have hd : ((E : Int) == 0) = decide (canE (x.take longs) 15 = 0) := by rw [hE, Bool.eq_iff_iff, beq_iff_eq, decide_eq_true_iff]; omega
            rw [hd, hs10] at this
            rw [hd]
            exact this
          have HG1 := Lib.hid fun wx (hb : Bs wx (some ⟨gx, 0, none⟩) (x.take longs)) (hr : RdrAt W wx g B n c b s10) => show Calls Tryz.prog 77 #[.pointer (some ⟨g, 0, none⟩), .slice (some ⟨gx, 0, none⟩) longs d12, .int .i64 15] wx (fun r w' => GrwRes W wx w' g B n c b s11 (gF (x.take longs) 15) (gX (x.take longs) 15) r) from by
            have := rdgrow_any W wx g B n c b s10 (some ⟨gx, 0, none⟩) longs d12 (x.take longs) 15 hb htl.symm (by omega) (by omega) (by omega) hr
            rw [hs11] at this
            exact this
          have HG2 := Lib.hid fun wx dd (hb : Bs wx (some ⟨gx, longs, none⟩) (x.drop longs)) (hr : RdrAt W wx g B n c b s11) => show Calls Tryz.prog 77 #[.pointer (some ⟨g, 0, none⟩), .slice (some ⟨gx, longs, none⟩) fars dd, .int .i64 15] wx (fun r w' => GrwRes W wx w' g B n c b s12 (gF (x.drop longs) 15) (gX (x.drop longs) 15) r) from by
            have := rdgrow_any W wx g B n c b s11 (some ⟨gx, longs, none⟩) fars dd (x.drop longs) 15 hb hdl.symm (by omega) (by omega) (by omega) hr
            rw [hs12] at this
            exact this
          have hgF1 : canE (x.take longs) 15 = 0 → gF (x.take longs) 15 = cntS (allP (padL (x.take longs)) 16) ∧ gX (x.take longs) 15 = symS (allP (padL (x.take longs)) 16) := fun h => by rw [allP_pad (canE_ok h).2.2.1]; exact gF_ok h
          have hgF2 : canE (x.drop longs) 15 = 0 → gF (x.drop longs) 15 = cntS (allP (padL (x.drop longs)) 16) ∧ gX (x.drop longs) 15 = symS (allP (padL (x.drop longs)) 16) := fun h => by rw [allP_pad (canE_ok h).2.2.1]; exact gF_ok h
          have hm1 := gX_max (x.take longs) 15 (by omega)
          have hm2 := gX_max (x.drop longs) 15 (by omega)
          have HGF := Lib.hid (And.intro hgF1 hgF2)
          clear hdzS hfin hdz hs9 hs10 hs11 hs12 hE htl hdl hgF1 hgF2 hvv hx256
          generalize gF (x.take longs) 15 = F1 at *
          generalize gX (x.take longs) 15 = X1 at *
          generalize gF (x.drop longs) 15 = F2 at *
          generalize gX (x.drop longs) 15 = X2 at *
          have y1 : ((256 : Int)) < (xl : Int) := by omega
          have y2 : ((longs : Nat) : Int) ≤ (d12 : Int) := by omega
          have y3 : ((longs : Nat) : Int) ≤ (xl : Int) := by omega
          have y4 : (0 : Int) ≤ ((longs : Nat) : Int) := by omega
          have y5 : ((longs : Nat) : Int) < (d12 : Int) := by omega
          have y6 : ¬ (d12 - longs = 0) := by omega
          have y7 : ¬ (d12 = longs) := by omega
          have y8 : ((longs : Nat) : Int) ≤ (longs : Int) + (fars : Int) := by omega
          have hgt12 := h12.lt
          go_upto_region 15 with (first
            | (go_at_call 75; refine (HF10.out _ h13).mono ?_; rintro e w15 ⟨rfl, h15, hg15⟩)
            | (go_at_call 75; refine (HF9.out _ h12).mono ?_; rintro e w13 ⟨rfl, h13, hg13⟩; have o13 := h12.own o12 (by decide) hg13)
            | (go_at_call 72; refine (HCk.out _ (HBT.out _ o13).1).mono ?_; rintro e w14 ⟨rfl, rfl⟩))
          have o15 := h13.own o13 (by decide) hg15
          have k15 : Arr w15 kb 28 37 (bkH 2 last 0 (fun _ => 0) (.slice none 0 0) (fun _ => 0) (.slice none 0 0)) := Blk.grown (Blk.grown k12 hg13 (by intro e; injection e with e; omega)) hg15 (by intro e; injection e with e; omega)
          have keep15 := (keep12.only hg13 hb12).only hg15 (Nat.le_trans hb12 hg13.size)
          have hb15 : base ≤ w15.heap.size := Nat.le_trans hb12 (Nat.le_trans hg13.size hg15.size)
          clear h12 h13 hg13 hg15 o12 o13 k12 keep12 c256 c2 hbk HF9 HF10 HCk
          go_region_held3 (fun _ => True) (trivial) (first
            | (go_at_call 77; refine (HG2.out _ _ (HBT.out _ (h15.drew.own (own_drew o15) (by decide) hg16)).2 h16).mono ?_; rintro e w17 ⟨C2, n2, e2, rfl, hn2, h17, hg17, o17⟩; have HN2 := Lib.hid hn2; clear hn2; rw [tree_lit]; have k17 : Arr w17 kb 28 37 (bkH 2 last 0 (fun _ => 0) (.slice none 0 0) (fun _ => 0) (.slice none 0 0)) := Blk.grown k16 hg17 (by intro e; injection e with e; omega); have kc := fun i (hi : i < 37) => Arr.cell k17 i hi; have kf := fun i => Arr.free k17 i)
            | (go_at_call 77; refine (HG1.out _ (HBT.out _ (own_drew o15)).1 h15.drew).mono ?_; rintro e w16 ⟨C1, n1, e1, rfl, hn1, h16, hg16, o16⟩; have HN1 := Lib.hid hn1; clear hn1; rw [tree_lit]; have k16 : Arr w16 kb 28 37 (bkH 2 last 0 (fun _ => 0) (.slice none 0 0) (fun _ => 0) (.slice none 0 0)) := Blk.grown (Arr.drew k15) hg16 (by intro e; injection e with e; omega)))
          have ar := bk_sets last F1 F2 (.slice C1 n1 e1) (.slice C2 n2 e2) k17
          have only : w17.grownBy ((w17.setCells kb 3 ((List.range 17).map (treeH F1 (.slice C1 n1 e1)))).setCells kb 20 ((List.range 17).map (treeH F2 (.slice C2 n2 e2)))) (some kb) := only_sets _ _ (only_sets _ _ (only_self _ _))
          have hb16 : base ≤ w16.heap.size := Nat.le_trans hb15 hg16.size
          have keep16 : Keep base g w w16 := keep15.only (⟨hg16.os, hg16.tape, hg16.output, hg16.size, hg16.block⟩ : w15.grownBy w16 (some g)) hb15
          have keep18 := (keep16.only hg17 hb16).own only (Nat.le_trans hb16 hg17.size) hbase
          have h18 := h17.other only hgk (Nat.le_trans hW hbase)
          have t1 : TrOk ((w17.setCells kb 3 ((List.range 17).map (treeH F1 (.slice C1 n1 e1)))).setCells kb 20 ((List.range 17).map (treeH F2 (.slice C2 n2 e2)))) base C1 n1 e1 X1 := ⟨own_only (own_far_base (h16.own o16 (by decide) hg17) hb15) k17 (by decide) only, HN1.out, by rw [HN1.out]; exact hm1⟩
          have t2 : TrOk ((w17.setCells kb 3 ((List.range 17).map (treeH F1 (.slice C1 n1 e1)))).setCells kb 20 ((List.range 17).map (treeH F2 (.slice C2 n2 e2)))) base C2 n2 e2 X2 := ⟨own_only (own_far_base o17 hb16) k17 (by decide) only, HN2.out, by rw [HN2.out]; exact hm2⟩
          obtain ⟨hdz, hfin⟩ := HFIN.out
          have hgo : rsGo (.ok a) (dyP last) b = s12 := by
            rcases hfin with ⟨q1, q2⟩ | ⟨q1, q2, _⟩
            · rw [q1]; exact rsGo_err (hdz.trans q2)
            · rw [q1]; exact rsGo_ok (hdz.trans q2)
          rw [← hgo] at h18
          have hend : DynEnd W w ((w17.setCells kb 3 ((List.range 17).map (treeH F1 (.slice C1 n1 e1)))).setCells kb 20 ((List.range 17).map (treeH F2 (.slice C2 n2 e2)))) base g kb B n c b a last (.returned (.tuple #[])) := by
            refine ⟨rfl, _, _, _, _, _, _, _, _, _, _, ar, t1, t2, h18, keep18, fun k m' hk => ?_⟩
            rw [hdz] at hk
            rcases hfin with ⟨q1, q2⟩ | ⟨q1, q2, q3, q4, _⟩
            · rw [q2] at hk; cases hk
            · rw [q2] at hk
              cases hk
              obtain ⟨g1, g2⟩ := HGF.out
              exact ⟨(g1 q3).1, (g1 q3).2, (g2 q4).1, (g2 q4).2⟩
          have HEND := Lib.hid hend
          clear ar only keep16 keep18 h18 t1 t2 hdz hfin hgo hend kc kf k17 k16 h17 h16 hg16 hg17 o16 o17
          go_wp2_with fail
          go_end0
          exact HEND.out
end Go.Proofs.YtahboomghjdjhaaGreat

/-
  Walks: a reader's head.
-/
namespace Go.Proofs.YtahboomghjdjhaaGreat
open Go.RowKit

def trF (k : Bk) (l : List Nat) : Nat → Int := if k.kind = 0 then fun _ => 0 else cntS (allP l 16)
def trX (k : Bk) (l : List Nat) : List Int := if k.kind = 0 then [] else symS (allP l 16)
theorem TrOk.only {w w' : World} {base : Nat} {C : Option Addr} {m d kb : Nat} {xs : List Int} {cs : Array Value} (h : TrOk w base C m d xs) (k : Blk w kb 28 cs) (gz : w.grownBy w' (some kb)) : TrOk w' base C m d xs := ⟨own_only h.own k (by decide) gz, h.len, h.max⟩
/-- A block's parts in memory are those of a block. -/
structure BkIs (k : Bk) (kind : Nat) (last : Bool) (left : Nat) (f1 : Nat → Int) (x1 : List Int) (f2 : Nat → Int) (x2 : List Int) : Prop where
  kind : kind = k.kind
  last : last = k.last
  left : left = k.left
  f1 : f1 = trF k k.lo
  x1 : x1 = trX k k.lo
  f2 : f2 = trF k k.fa
  x2 : x2 = trX k k.fa
/-- What head answers. -/
def HeadEnd (W w w' : World) (g : Nat) (B : Option Addr) (n c : Nat) (b : List Nat) (a : Nat) (r : Ending) : Prop :=
  ∃ kind last left f1 C1 m1 d1 x1 f2 C2 m2 d2 x2, r = .returned (.agg (cellsOf 37 (bkH ((kind : Nat) : Int) last ((left : Nat) : Int) f1 (.slice C1 m1 d1) f2 (.slice C2 m2 d2)))) ∧ kind ≤ 3 ∧ left ≤ 65535 ∧ TrOk w' w.heap.size C1 m1 d1 x1 ∧ TrOk w' w.heap.size C2 m2 d2 x2 ∧
    RdrAt W w' g B n c b (rsGo (.ok a) hdP b) ∧ w.grownBy w' (some g) ∧ ∀ k m, hdP b a = .ok (k, m) → BkIs k kind last left f1 x1 f2 x2
section
variable {w : World} {kb : Nat} {kind left : Int} {last : Bool} {f1 f2 : Nat → Int} {v1 v2 : Value}
abbrev BkAt (w : World) (kb : Nat) (kind : Int) (last : Bool) (left : Int) (f1 : Nat → Int) (v1 : Value) (f2 : Nat → Int) (v2 : Value) : Prop := Arr w kb 28 37 (bkH kind last left f1 v1 f2 v2)
theorem BkAt.setLast (h : BkAt w kb kind last left f1 v1 f2 v2) (x : Bool) : BkAt (w.setCell ⟨kb, 1, none⟩ (.bool x)) kb kind x left f1 v1 f2 v2 := (Arr.set h 1 _).congr fun i hi => by
  unfold bkH
  by_cases h1 : i = 1
  · subst h1; rfl
  · rw [if_neg h1]
    by_cases h3 : i < 3
    · rw [if_pos h3, if_pos h3, if_neg h1]
      by_cases h0 : i = 0
      · rw [if_pos h0, if_pos h0]
      · rw [if_neg h0, if_neg h0, if_neg h1]
    · rw [if_neg h3, if_neg h3]
theorem BkAt.setKind (h : BkAt w kb kind last left f1 v1 f2 v2) (x : Int) : BkAt (w.setCell ⟨kb, 0, none⟩ (.int .u8 x)) kb x last left f1 v1 f2 v2 := (Arr.set h 0 _).congr fun i hi => by
  unfold bkH
  by_cases h1 : i = 0
  · subst h1; rfl
  · rw [if_neg h1]
    by_cases h3 : i < 3
    · rw [if_pos h3, if_pos h3, if_neg h1, if_neg h1]
    · rw [if_neg h3, if_neg h3]
theorem BkAt.setLeft (h : BkAt w kb kind last left f1 v1 f2 v2) (x : Int) : BkAt (w.setCell ⟨kb, 2, none⟩ (.int .i64 x)) kb kind last x f1 v1 f2 v2 := (Arr.set h 2 _).congr fun i hi => by
  unfold bkH
  by_cases h1 : i = 2
  · subst h1; rfl
  · rw [if_neg h1]
    by_cases h3 : i < 3
    · rw [if_pos h3, if_pos h3]
      by_cases h0 : i = 0
      · rw [if_pos h0, if_pos h0]
      · have : i = 1 := by omega
        subst this; rfl
    · rw [if_neg h3, if_neg h3]
theorem BkAt.trees (_ : BkAt w kb kind last left f1 v1 f2 v2) (F1 F2 : Nat → Int) (u1 u2 : Value) {w' : World} (e : Arr w' kb 28 37 (fun i => if 20 ≤ i ∧ i < 20 + 17 then treeH F2 u2 (i - 20) else if 3 ≤ i ∧ i < 3 + 17 then treeH F1 u1 (i - 3) else bkH kind last left f1 v1 f2 v2 i)) : BkAt w' kb kind last left F1 u1 F2 u2 := e.congr fun i hi => by
  unfold bkH
  by_cases h1 : 20 ≤ i ∧ i < 20 + 17
  · rw [if_pos h1, if_neg (by omega), if_neg (by omega)]
  · rw [if_neg h1]
    by_cases h2 : 3 ≤ i ∧ i < 3 + 17
    · rw [if_pos h2, if_neg (by omega), if_pos (by omega)]
    · have h3 : i < 3 := by omega
      simp only [if_neg h2, if_pos h3]
theorem bkH_one (kind : Int) (last : Bool) (left : Int) (f1 : Nat → Int) (A1 : Option Addr) (n1 c1 : Nat) (f2 : Nat → Int) (A2 : Option Addr) (n2 c2 : Nat) (i : Nat) : (bkH kind last left f1 (.slice A1 n1 c1) f2 (.slice A2 n2 c2) i).oneCell' = true := by
  unfold bkH
  split
  · split
    · rfl
    · split <;> rfl
  · split <;> exact treeH_one _ _ _ _ _
end
theorem bk_size : (Tryz.prog.info? 28).map (·.size) = some 37 := by kernel_rfl
theorem hd_three {b : List Nat} {a v1 v2 : Nat} {s2 : Rs} (h1 : rsV (.ok a) (tkP 1) b = v1) (h2 : rsV (rsGo (.ok a) (tkP 1) b) (tkP 2) b = v2) (h3 : rsGo (rsGo (.ok a) (tkP 1) b) (tkP 2) b = s2) :
    s2 = rsGo (.ok a) (tkP 3) b ∧ v1 < 2 ∧ v2 < 4 ∧ ∀ m, s2 = .ok m → m = a + 3 ∧ a + 3 ≤ 8 * b.length ∧ numOf b a 3 = v1 + 2 * v2 := by
  have e1 := rsV_lt (.ok a) 1 b
  have e2 := rsV_lt (rsGo (.ok a) (tkP 1) b) 2 b
  rw [h1] at e1
  rw [h2] at e2
  have e3 := tk_tk b (.ok a) 1 2
  rw [h3] at e3
  refine ⟨e3, e1, e2, fun m hm => ?_⟩
  obtain ⟨p, e2, q2, r2, t2⟩ := rsGo_tk (h3.trans hm)
  obtain ⟨p1, e1, q1, r1, t1⟩ := rsGo_tk e2
  cases e1
  subst r1
  have n1 := num_add b a 1 2
  rw [show 1 + 2 = 3 from rfl] at n1
  rw [n1, ← h1, ← h2, t1, t2]
  refine ⟨by omega, by omega, ?_⟩
  omega

/-- Where a head goes on. -/
theorem hd_cases {b : List Nat} {a v1 v2 : Nat} {s2 s3 : Rs} (h1 : s2 = rsGo (.ok a) (tkP 3) b) (l1 : v1 < 2) (l2 : v2 < 4) (h2 : ∀ m, s2 = .ok m → m = a + 3 ∧ a + 3 ≤ 8 * b.length ∧ numOf b a 3 = v1 + 2 * v2) (h3 : rsFail s2 (decide (v2 ≤ 2)) 130 = s3) :
    (∃ e, s3 = .error e ∧ rsGo (.ok a) hdP b = .error e) ∨ (s3 = .ok (a + 3) ∧ v2 ≤ 2 ∧ hdP b a = (if v2 = 2 then dyP (decide (v1 = 1)) else if v2 = 1 then paOk ⟨1, decide (v1 = 1), 0, padL longsF, padL farsF⟩ else suP (decide (v1 = 1))) b (a + 3)) := by
  cases s2 with
  | error e =>
    left
    subst h3
    refine ⟨e, rfl, ?_⟩
    unfold hdP
    rw [rsGo_bind]
    unfold rsGo at h1
    cases ht : tkP 3 b a with
    | error e' => simp only [ht] at h1 ⊢; injection h1 with h1; rw [h1]
    | ok r => obtain ⟨x, k⟩ := r; simp only [ht] at h1; cases h1
  | ok m =>
    obtain ⟨rfl, hfit, hn⟩ := h2 m rfl
    have hb : hdP b a = hvP (v1 + 2 * v2) b (a + 3) := by
      have := tkP_ok (n := 3) (b := b) (a := a) hfit
      rw [hn] at this
      exact paBind_ok this
    have hlast : ((v1 + 2 * v2) % 2 == 1) = decide (v1 = 1) := by rw [Bool.eq_iff_iff, beq_iff_eq, decide_eq_true_iff]; omega
    have hdiv : (v1 + 2 * v2) / 2 = v2 := by omega
    unfold hvP at hb
    rw [hlast, hdiv] at hb
    by_cases h : v2 ≤ 2
    · right
      rw [decide_eq_true h] at h3
      subst h3
      rw [if_neg (by omega)] at hb
      exact ⟨rfl, h, hb⟩
    · left
      rw [decide_eq_false h] at h3
      subst h3
      rw [if_pos (by omega)] at hb
      exact ⟨130, rfl, rsGo_err hb⟩

theorem rsGo_eq {α : Type} {p q : Pa α} {b : List Nat} {a A : Nat} (h : p b a = q b A) : rsGo (.ok a) p b = rsGo (.ok A) q b := by unfold rsGo; simp only [h]
/-- A stored block's head, by states. -/
theorem su_cases {b : List Nat} {A l r : Nat} {s5 s6 s7 : Rs} (last : Bool) (h1 : rsV (.ok ((A + 7) / 8 * 8)) (tkP 16) b = l) (h2 : rsGo (.ok ((A + 7) / 8 * 8)) (tkP 16) b = s5) (h3 : rsV s5 (tkP 16) b = r) (h4 : rsGo s5 (tkP 16) b = s6) (h5 : rsFail s6 (decide (l + r = 65535)) 131 = s7) :
    rsGo (.ok A) (suP last) b = s7 ∧ ∀ k m, suP last b A = .ok (k, m) → k = ⟨0, last, l, [], []⟩ := by
  have hal : ∀ (f : Unit → Pa Bk), paBind alP f b A = f () b ((A + 7) / 8 * 8) := fun f => rfl
  have hsu : suP last b A = paBind (tkP 32) (szP last) b ((A + 7) / 8 * 8) := rfl
  generalize (A + 7) / 8 * 8 = A' at *
  have e32 := tk_tk b (.ok A') 16 16
  rw [h2, h4] at e32
  cases s6 with
  | error e =>
    subst h5
    have ht : ∃ e', tkP 32 b A' = .error e' ∧ e' = e := by
      unfold rsGo at e32
      cases ht : tkP 32 b A' with
      | error e' => refine ⟨e', rfl, ?_⟩; simp only [show 16 + 16 = 32 from rfl, ht] at e32; injection e32 with e32; exact e32.symm
      | ok x => obtain ⟨x, y⟩ := x; simp only [show 16 + 16 = 32 from rfl, ht] at e32; cases e32
    obtain ⟨e', ht, rfl⟩ := ht
    rw [paBind_no ht] at hsu
    exact ⟨rsGo_err hsu, fun k m hk => by rw [hsu] at hk; cases hk⟩
  | ok q =>
    obtain ⟨p1, e1, q1, r1, t1⟩ := rsGo_tk h4
    obtain ⟨p2, e2, q2, r2, t2⟩ := rsGo_tk (h2.trans e1)
    cases e2
    subst r2
    have n1 := num_add b A' 16 16
    rw [show 16 + 16 = 32 from rfl, ← t1, h3, ← t2, h1] at n1
    have hl : l < 65536 := by rw [← h1]; exact rsV_lt _ 16 b
    have hr : r < 65536 := by rw [← h3]; exact rsV_lt _ 16 b
    have hfit : A' + 32 ≤ 8 * b.length := by omega
    rw [paBind_ok (tkP_ok hfit), n1] at hsu
    unfold szP at hsu
    simp only [Nat.reducePow] at hsu
    have m1 : (l + r * 65536) % 65536 = l := by omega
    have m2 : (l + r * 65536) / 65536 = r := by omega
    rw [m1, m2] at hsu
    have hq : q = A' + 32 := by omega
    subst hq
    by_cases hs : l + r = 65535
    · rw [if_pos hs] at hsu
      rw [decide_eq_true hs] at h5
      subst h5
      exact ⟨rsGo_ok hsu, fun k m hk => by rw [hsu] at hk; cases hk; rfl⟩
    · rw [if_neg hs] at hsu
      rw [decide_eq_false hs] at h5
      subst h5
      exact ⟨rsGo_err hsu, fun k m hk => by rw [hsu] at hk; cases hk⟩

set_option maxRecDepth 100000 in
set_option maxHeartbeats 8000000 in
theorem rdhead_any (W w : World) (g : Nat) (B : Option Addr) (n c : Nat) (b : List Nat) (a : Nat) (h : RdrAt W w g B n c b (.ok a)) :
    Calls Tryz.prog 59 #[.pointer (some ⟨g, 0, none⟩)] w fun r w' => HeadEnd W w w' g B n c b a r := by
  have hglt := h.lt
  have hWw := h.bel.size
  have hbw : Below w.heap.size w (w.alloc (.cells (cellsOf 37 (bkH 0 false 0 (fun _ => 0) (.slice none 0 0) (fun _ => 0) (.slice none 0 0))) 28)) := (Below.refl _ _).alloc (Nat.le_refl _) _
  have k0 : BkAt (w.alloc (.cells (cellsOf 37 (bkH 0 false 0 (fun _ => 0) (.slice none 0 0) (fun _ => 0) (.slice none 0 0))) 28)) w.heap.size 0 false 0 (fun _ => 0) (.slice none 0 0) (fun _ => 0) (.slice none 0 0) := Blk.new _ _ _
  have h0 := h.below hbw
  have keep0 : Keep w.heap.size g w (w.alloc (.cells (cellsOf 37 (bkH 0 false 0 (fun _ => 0) (.slice none 0 0) (fun _ => 0) (.slice none 0 0))) 28)) := (Keep.refl _ g w).below hbw (Nat.le_refl _)
  obtain ⟨v1, hv1⟩ : ∃ v, rsV (.ok a) (tkP 1) b = v := ⟨_, rfl⟩
  obtain ⟨s1, hs1⟩ : ∃ s, rsGo (.ok a) (tkP 1) b = s := ⟨_, rfl⟩
  obtain ⟨v2, hv2⟩ : ∃ v, rsV s1 (tkP 2) b = v := ⟨_, rfl⟩
  obtain ⟨s2, hs2⟩ : ∃ s, rsGo s1 (tkP 2) b = s := ⟨_, rfl⟩
  obtain ⟨p1, p2, p3, p4⟩ := hd_three (s2 := s2) (v2 := v2) hv1 (by rw [hs1]; exact hv2) (by rw [hs1]; exact hs2)
  have T1 := Lib.hid fun wx hr => show Calls Tryz.prog 74 #[.pointer (some ⟨g, 0, none⟩), .int .i64 1] wx (fun r w' => RdRes W wx w' g B n c b r v1 s1) from by have := rtakeN_any W wx g B n c b (.ok a) 1 (by omega) hr; rw [hv1, hs1] at this; exact this
  have T2 := Lib.hid fun wx hr => show Calls Tryz.prog 74 #[.pointer (some ⟨g, 0, none⟩), .int .i64 2] wx (fun r w' => RdRes W wx w' g B n c b r v2 s2) from by have := rtakeN_any W wx g B n c b s1 2 (by omega) hr; rw [hv2, hs2] at this; exact this
  obtain ⟨s3, hs3⟩ : ∃ s, rsFail s2 (decide (v2 ≤ 2)) 130 = s := ⟨_, rfl⟩
  have HF := Lib.hid fun wx hr => show Calls Tryz.prog 75 #[.pointer (some ⟨g, 0, none⟩), .bool (decide ((v2 : Int) ≤ 2)), .int .i64 130] wx (fun r w' => r = .returned (.tuple #[]) ∧ RdrAt W w' g B n c b s3 ∧ wx.grownBy w' (some g)) from by have := rfail_any W wx g B n c b s2 (decide (v2 ≤ 2)) 130 (fun _ => by omega) hr; rw [hs3] at this; rw [show decide ((v2 : Int) ≤ 2) = decide (v2 ≤ 2) by rw [Bool.eq_iff_iff, decide_eq_true_iff, decide_eq_true_iff]; omega]; exact this
  have hvv : ((v1 : Int) == 1) = decide (v1 = 1) := by rw [Bool.eq_iff_iff, beq_iff_eq, decide_eq_true_iff]; omega
  have q2 : (v2 : Int) % 256 = (v2 : Int) := by omega
  have HVV := Lib.hid hvv
  have HP := Lib.hid (And.intro p1 (And.intro p4 hs3))
  clear hs1 hs2 hs3 hv1 hv2 p1 p4 hvv
  go_enter Tryz.func59, Tryz.ntmps59
  go_upto_region 1 with (fail)
  change Code.wp _ _ _ _ (w.alloc (.cells (cellsOf 37 (bkH 0 false 0 (fun _ => 0) (.slice none 0 0) (fun _ => 0) (.slice none 0 0))) 28))
  have hsz : w.heap.size ≤ (w.alloc (.cells (cellsOf 37 (bkH 0 false 0 (fun _ => 0) (.slice none 0 0) (fun _ => 0) (.slice none 0 0))) 28)).heap.size := by simp
  generalize w.alloc (.cells (cellsOf 37 (bkH 0 false 0 (fun _ => 0) (.slice none 0 0) (fun _ => 0) (.slice none 0 0))) 28) = W0 at *
  have fr0 := Arr.free k0
  obtain ⟨kb, hkb⟩ : ∃ kb, w.heap.size = kb := ⟨_, rfl⟩
  rw [hkb] at k0 keep0 hsz fr0
  rw [hkb]
  have hgk : g ≠ kb := by omega
  have hWk : W.heap.size ≤ kb := by omega
  have HKB := Lib.hid hkb
  clear h hbw
  go_upto_region 2 with (go_at_call 74; refine (T1.out _ h0).mono ?_; rintro e w1 ⟨rfl, h1, g1⟩; have k1 : BkAt w1 kb 0 false 0 (fun _ => 0) (.slice none 0 0) (fun _ => 0) (.slice none 0 0) := Blk.grown k0 g1 (by intro e; injection e with e; omega); have fr1 := Arr.free k1; have ck1 := Arr.cell k1 1 (by omega))
  have k1 := BkAt.setLast k1 ((v1 : Int) == 1)
  have h1 := h1.other (only_set (only_self w1 kb) 1 (.bool ((v1 : Int) == 1))) hgk hWk
  have keep1 := (keep0.only g1 hsz).own (only_set (only_self w1 kb) 1 (.bool ((v1 : Int) == 1))) (Nat.le_trans hsz g1.size) (Nat.le_refl _)
  clear keep0 k0 h0 ck1 fr1 fr0 g1
  generalize w1.setCell ⟨kb, 1, none⟩ (.bool ((v1 : Int) == 1)) = W1 at *
  go_upto_region 3 with (go_at_call 74; refine (T2.out _ h1).mono ?_; rintro e w2 ⟨rfl, h2, g2⟩; have k2 : BkAt w2 kb 0 ((v1 : Int) == 1) 0 (fun _ => 0) (.slice none 0 0) (fun _ => 0) (.slice none 0 0) := Blk.grown k1 g2 (by intro e; injection e with e; omega); have fr2 := Arr.free k2; have ck2 := Arr.cell k2 0 (by omega))
  have hz1 : kb ≤ W1.heap.size := by have := HKB.out; have := keep1.size; omega
  have k2 := BkAt.setKind k2 (v2 : Int)
  have h2 := h2.other (only_set (only_self w2 kb) 0 (.int .u8 (v2 : Int))) hgk hWk
  have keep2 := (keep1.only g2 hz1).own (only_set (only_self w2 kb) 0 (.int .u8 (v2 : Int))) (Nat.le_trans hz1 g2.size) (Nat.le_refl _)
  clear keep1 k1 h1 ck2 fr2 g2
  generalize w2.setCell ⟨kb, 0, none⟩ (.int .u8 (v2 : Int)) = W2 at *
  have ck2 : W2.cell? ⟨kb, 0, none⟩ = some (.int .u8 (v2 : Int)) := Arr.cell k2 0 (by omega)
  have hz2 : kb ≤ W2.heap.size := by have := HKB.out; have := keep2.size; omega
  clear hz1 T1 T2
  obtain ⟨last, hlast⟩ : ∃ l, decide (v1 = 1) = l := ⟨_, rfl⟩
  rw [HVV.out, hlast] at k2
  have HLAST := Lib.hid hlast
  clear hlast
  go_upto_region 5 with (go_at_call 75; refine (HF.out _ h2).mono ?_; rintro e w3 ⟨rfl, h3, g3⟩)
  have k3 : BkAt w3 kb (v2 : Int) last 0 (fun _ => 0) (.slice none 0 0) (fun _ => 0) (.slice none 0 0) := Blk.grown k2 g3 (by intro e; injection e with e; omega)
  have keep3 := keep2.only g3 hz2
  have hz3 : kb ≤ w3.heap.size := Nat.le_trans hz2 g3.size
  clear keep2 k2 h2 ck2 hz2 g3 HF
  have hcs := hd_cases HP.out.1 p2 p3 HP.out.2.1 HP.out.2.2
  rw [HLAST.out] at hcs
  clear HP
  obtain ⟨av, hbk, hav⟩ := h3.blk
  have c2 : w3.cell? ⟨g, 2, none⟩ = some (.int .i64 (rsE s3 : Int)) := hbk.cell 2
  rcases hcs with ⟨e, rfl, hE⟩ | ⟨rfl, hv22, hd⟩
  · have HE := Lib.hid hE
    have he' := h3.ne e rfl
    have hne : ¬ (((rsE (.error e : Rs) : Nat) : Int) = 0) := by simp only [rsE]; omega
    clear hE hav
    go_wp2_with (first
      | (refine load_arr rfl 28 (.tmp 2) rfl rfl k3 Tryz.underlying28 rfl bk_size ?_)
      | (refine store_over rfl 28 (.tmp 2) (.tmp 69) rfl rfl rfl k3 bk_size (fun i _ => bkH_one _ _ _ _ _ _ _ _ _ _ _ i) ?_; intro wz kz gz))
    have hz := (h3).other gz hgk hWk
    have keepz := (keep3).own gz (by have := HKB.out; have := (keep3).size; omega) (Nat.le_refl _)
    refine bodyPost_ret (results_cell_row Tryz.results59 _ _ kb 28 _ (0, 0) _ rfl kz Tryz.underlying28 rfl (by rw [cellsOf_size]; exact bk_size)) rfl ?_
    have hkeep : w.grownBy wz (some g) := Keep.out (by rw [HKB.out]; exact keepz)
    refine ⟨v2, last, 0, _, none, 0, 0, [], _, none, 0, 0, [], rfl, by omega, by omega, ?_, ?_, ?_, hkeep, ?_⟩
    · rw [HKB.out]; exact TrOk.nil_ _ _
    · rw [HKB.out]; exact TrOk.nil_ _ _
    · rw [HE.out]; exact hz
    · intro k m hk; have := HE.out; rw [rsGo_ok hk] at this; cases this
  · obtain rfl := hav (a + 3) rfl
    replace c2 : w3.cell? ⟨g, 2, none⟩ = some (.int .i64 0) := c2
    have hin := h3.in_ (a + 3) rfl
    have hmx := h3.max
    have HD := Lib.hid hd
    have ckk : w3.cell? ⟨kb, 0, none⟩ = some (.int .u8 (v2 : Int)) := Arr.cell k3 0 (by omega)
    have hvc : v2 = 0 ∨ v2 = 1 ∨ v2 = 2 := by omega
    clear hd hav
    rcases hvc with rfl | rfl | rfl
    · rw [if_neg (by omega), if_neg (by omega)] at HD
      replace ckk : w3.cell? ⟨kb, 0, none⟩ = some (.int .u8 0) := ckk
      have c1 : w3.cell? ⟨g, 1, none⟩ = some (.int .i64 ((a + 3 : Nat) : Int)) := hbk.cell 1
      have f1 := hbk.frozen 1
      generalize hA : a + 3 = A at *
      obtain ⟨l, hl⟩ : ∃ l, rsV (.ok ((A + 7) / 8 * 8)) (tkP 16) b = l := ⟨_, rfl⟩
      obtain ⟨s5, hs5⟩ : ∃ s, rsGo (.ok ((A + 7) / 8 * 8)) (tkP 16) b = s := ⟨_, rfl⟩
      obtain ⟨r, hr⟩ : ∃ l, rsV s5 (tkP 16) b = l := ⟨_, rfl⟩
      obtain ⟨s6, hs6⟩ : ∃ s, rsGo s5 (tkP 16) b = s := ⟨_, rfl⟩
      obtain ⟨s7, hs7⟩ : ∃ s, rsFail s6 (decide (l + r = 65535)) 131 = s := ⟨_, rfl⟩
      have hsu := su_cases last hl hs5 hr hs6 hs7
      have hl16 : l < 65536 := by rw [← hl]; exact rsV_lt _ 16 b
      have hr16 : r < 65536 := by rw [← hr]; exact rsV_lt _ 16 b
      have T3 := Lib.hid fun wx hh => show Calls Tryz.prog 74 #[.pointer (some ⟨g, 0, none⟩), .int .i64 16] wx (fun r w' => RdRes W wx w' g B n c b r l s5) from by have := rtakeN_any W wx g B n c b (.ok ((A + 7) / 8 * 8)) 16 (by omega) hh; rw [hl, hs5] at this; exact this
      have T4 := Lib.hid fun wx hh => show Calls Tryz.prog 74 #[.pointer (some ⟨g, 0, none⟩), .int .i64 16] wx (fun z w' => RdRes W wx w' g B n c b z r s6) from by have := rtakeN_any W wx g B n c b s5 16 (by omega) hh; rw [hr, hs6] at this; exact this
      have HF7 := Lib.hid fun wx hh => show Calls Tryz.prog 75 #[.pointer (some ⟨g, 0, none⟩), .bool ((l : Int) + (r : Int) == 65535), .int .i64 131] wx (fun r w' => r = .returned (.tuple #[]) ∧ RdrAt W w' g B n c b s7 ∧ wx.grownBy w' (some g)) from by
        have := rfail_any W wx g B n c b s6 (decide (l + r = 65535)) 131 (fun _ => by omega) hh
        rw [hs7] at this
        rw [show ((l : Int) + (r : Int) == 65535) = decide (l + r = 65535) by rw [Bool.eq_iff_iff, beq_iff_eq, decide_eq_true_iff]; omega]
        exact this
      have HSU := Lib.hid (And.intro HD.out hsu)
      clear hl hs5 hr hs6 hs7 hsu HD
      go_upto_region 8 with (fail)
      have h4 : RdrAt W (w3.setCell ⟨g, 1, none⟩ (.int .i64 (((A : Int) + 7) / 8 * 8))) g B n c b (.ok ((A + 7) / 8 * 8)) :=
        ⟨h3.bel.setCell h3.ge _, h3.ge, ⟨_, hbk.set_ 1 _, fun m' h' => (by cases h'; omega)⟩, h3.rd, h3.byte, h3.len, h3.max, fun e h => (by cases h), fun m' h' => (by cases h'; omega)⟩
      have g4 : w3.grownBy (w3.setCell ⟨g, 1, none⟩ (.int .i64 (((A : Int) + 7) / 8 * 8))) (some g) := only_set (only_self _ _) 1 _
      have k4 : BkAt (w3.setCell ⟨g, 1, none⟩ (.int .i64 (((A : Int) + 7) / 8 * 8))) kb 0 last 0 (fun _ => 0) (.slice none 0 0) (fun _ => 0) (.slice none 0 0) := Blk.grown k3 g4 (by intro e; injection e with e; omega)
      have keep4 := keep3.only g4 hz3
      have hz4 : kb ≤ (w3.setCell ⟨g, 1, none⟩ (.int .i64 (((A : Int) + 7) / 8 * 8))).heap.size := Nat.le_trans hz3 g4.size
      clear keep3 k3 h3 hbk c1 c2 f1 ckk g4 hz3
      generalize w3.setCell ⟨g, 1, none⟩ (.int .i64 (((A : Int) + 7) / 8 * 8)) = W4 at *
      go_upto_region 9 with (go_at_call 74; refine (T3.out _ h4).mono ?_; rintro e w5 ⟨rfl, h5, g5⟩; have k5 : BkAt w5 kb 0 last 0 (fun _ => 0) (.slice none 0 0) (fun _ => 0) (.slice none 0 0) := Blk.grown k4 g5 (by intro e; injection e with e; omega); have fr5 := Arr.free k5; have ck5 := Arr.cell k5 2 (by omega))
      have hz5 : kb ≤ w5.heap.size := Nat.le_trans hz4 g5.size
      have k5 := BkAt.setLeft k5 (l : Int)
      have h5 := h5.other (only_set (only_self w5 kb) 2 (.int .i64 (l : Int))) hgk hWk
      have keep5 := (keep4.only g5 hz4).own (only_set (only_self w5 kb) 2 (.int .i64 (l : Int))) hz5 (Nat.le_refl _)
      have hz5 : kb ≤ (w5.setCell ⟨kb, 2, none⟩ (.int .i64 (l : Int))).heap.size := by simpa using hz5
      clear keep4 k4 h4 ck5 fr5 g5 hz4 T3
      generalize w5.setCell ⟨kb, 2, none⟩ (.int .i64 (l : Int)) = W5 at *
      have HIS := Lib.hid (show ∀ k m, hdP b a = .ok (k, m) → BkIs k 0 last l (fun _ => 0) [] (fun _ => 0) [] from fun k m hk => by
        have h1 := HSU.out.1
        rw [h1] at hk
        obtain rfl := HSU.out.2.2 k m hk
        exact ⟨rfl, rfl, rfl, rfl, rfl, rfl, rfl⟩)
      have HGO := Lib.hid (show rsGo (.ok a) hdP b = s7 from by
        have h1 := HSU.out.1
        have h2 := HSU.out.2.1
        exact (rsGo_eq h1).trans h2)
      clear HSU
      go_upto_region 10 with (go_at_call 74; refine (T4.out _ h5).mono ?_; rintro e w6 ⟨rfl, h6, g6⟩)
      have k6 : BkAt w6 kb 0 last (l : Int) (fun _ => 0) (.slice none 0 0) (fun _ => 0) (.slice none 0 0) := Blk.grown k5 g6 (by intro e; injection e with e; omega)
      have keep6 := keep5.only g6 hz5
      have hz6 : kb ≤ w6.heap.size := Nat.le_trans hz5 g6.size
      have ck6 : w6.cell? ⟨kb, 2, none⟩ = some (.int .i64 (l : Int)) := Arr.cell k6 2 (by omega)
      clear keep5 k5 h5 g6 hz5 T4
      go_upto_region 14 with (go_at_call 75; refine (HF7.out _ h6).mono ?_; rintro e w7 ⟨rfl, h7, g7⟩)
      have k7 : BkAt w7 kb 0 last (l : Int) (fun _ => 0) (.slice none 0 0) (fun _ => 0) (.slice none 0 0) := Blk.grown k6 g7 (by intro e; injection e with e; omega)
      have keep7 := keep6.only g7 hz6
      clear keep6 k6 h6 g7 hz6 HF7 ck6
      go_wp2_with (first
        | (refine load_arr rfl 28 (.tmp 2) rfl rfl k7 Tryz.underlying28 rfl bk_size ?_)
        | (refine store_over rfl 28 (.tmp 2) (.tmp 69) rfl rfl rfl k7 bk_size (fun i _ => bkH_one _ _ _ _ _ _ _ _ _ _ _ i) ?_; intro wz kz gz))
      have hz := (h7).other gz hgk hWk
      have keepz := (keep7).own gz (by have := HKB.out; have := (keep7).size; omega) (Nat.le_refl _)
      refine bodyPost_ret (results_cell_row Tryz.results59 _ _ kb 28 _ (0, 0) _ rfl kz Tryz.underlying28 rfl (by rw [cellsOf_size]; exact bk_size)) rfl ?_
      have hkeep : w.grownBy wz (some g) := Keep.out (by rw [HKB.out]; exact keepz)
      refine ⟨0, last, l, _, none, 0, 0, [], _, none, 0, 0, [], rfl, by omega, by omega, ?_, ?_, ?_, hkeep, ?_⟩
      · rw [HKB.out]; exact TrOk.nil_ _ _
      · rw [HKB.out]; exact TrOk.nil_ _ _
      · rw [HGO.out]; exact hz
      · exact HIS.out
    · rw [if_neg (by omega), if_pos rfl] at HD
      replace ckk : w3.cell? ⟨kb, 0, none⟩ = some (.int .u8 1) := ckk
      have l1 : longsF.length = 288 := by decide +kernel
      have l2 : farsF.length = 32 := by decide
      have x1 : ∀ x ∈ longsF, x < 256 := by decide +kernel
      have x2 : ∀ x ∈ farsF, x < 256 := by decide
      have c1' := can_longsF
      have c2' := can_farsF
      have HG1 := Lib.hid fun wx (A : Option Addr) (c' : Nat) (hA : Rd wx A (u8s longsF)) (hr : RdrAt W wx g B n c b (.ok (a + 3))) => show Calls Tryz.prog 77 #[.pointer (some ⟨g, 0, none⟩), .slice A 288 c', .int .i64 15] wx (fun r w' => GrwRes W wx w' g B n c b (.ok (a + 3)) (gF longsF 15) (gX longsF 15) r) from by
        have := rdgrow_any W wx g B n c b (.ok (a + 3)) A 288 c' longsF 15 (rd_u8 hA x1) l1.symm (by omega) (by omega) (by omega) hr
        rw [decide_eq_true c1'] at this
        exact this
      have HG2 := Lib.hid fun wx (A : Option Addr) (c' : Nat) (hA : Rd wx A (u8s farsF)) (hr : RdrAt W wx g B n c b (.ok (a + 3))) => show Calls Tryz.prog 77 #[.pointer (some ⟨g, 0, none⟩), .slice A 32 c', .int .i64 15] wx (fun r w' => GrwRes W wx w' g B n c b (.ok (a + 3)) (gF farsF 15) (gX farsF 15) r) from by
        have := rdgrow_any W wx g B n c b (.ok (a + 3)) A 32 c' farsF 15 (rd_u8 hA x2) l2.symm (by omega) (by omega) (by omega) hr
        rw [decide_eq_true c2'] at this
        exact this
      have HIS := Lib.hid (show ∀ k m, hdP b a = .ok (k, m) → BkIs k 1 last 0 (gF longsF 15) (gX longsF 15) (gF farsF 15) (gX farsF 15) from fun k m hk => by
        have h1 := HD.out
        rw [h1] at hk
        cases hk
        have e1 : allP (padL longsF) 16 = allP longsF 16 := allP_pad (by rw [l1]; omega) 16
        have e2 : allP (padL farsF) 16 = allP farsF 16 := allP_pad (by rw [l2]; omega) 16
        refine ⟨rfl, rfl, rfl, ?_, ?_, ?_, ?_⟩
        · show _ = cntS (allP (padL longsF) 16); rw [e1]; exact (gF_ok c1').1
        · show _ = symS (allP (padL longsF) 16); rw [e1]; exact (gF_ok c1').2
        · show _ = cntS (allP (padL farsF) 16); rw [e2]; exact (gF_ok c2').1
        · show _ = symS (allP (padL farsF) 16); rw [e2]; exact (gF_ok c2').2)
      have HGO := Lib.hid (show rsGo (.ok a) hdP b = .ok (a + 3) from rsGo_ok HD.out)
      have hm1 := gX_max longsF 15 (by rw [l1]; omega)
      have hm2 := gX_max farsF 15 (by rw [l2]; omega)
      have HFx := Lib.hid fun wx => fixed_any wx
      clear HD l1 l2 x1 x2 c1' c2'
      generalize gF longsF 15 = F1 at *
      generalize gX longsF 15 = X1 at *
      generalize gF farsF 15 = F2 at *
      generalize gX farsF 15 = X2 at *
      clear hbk
      go_upto_region 14 with (first
        | (go_at_call 76; refine (HFx.out _).mono ?_; rintro e w4 ⟨A1, c4, A2, c5, rfl, hB4, hC4⟩; have h4 := h3.below hB4.1; have hz4 : kb ≤ w4.heap.size := Nat.le_trans hz3 hB4.1.size; have keep4 := keep3.below hB4.1 hz3; have k4 : BkAt w4 kb 1 last 0 (fun _ => 0) (.slice none 0 0) (fun _ => 0) (.slice none 0 0) := Arr.below k3 hB4.1 (Blk.lt k3))
        | (go_at_call 77; refine (HG2.out _ A2 c5 (own_rd (h4.own hC4.2 (by decide) g5)) h5).mono ?_; rintro e w6 ⟨C2, n2, e2, rfl, hn2, h6, g6, o6⟩; have HN2 := Lib.hid hn2; clear hn2; have k6 : BkAt w6 kb 1 last 0 (fun _ => 0) (.slice none 0 0) (fun _ => 0) (.slice none 0 0) := Blk.grown k5 g6 (by intro e; injection e with e; omega))
        | (go_at_call 77; refine (HG1.out _ A1 c4 hB4.rd h4).mono ?_; rintro e w5 ⟨C1, n1, e1, rfl, hn1, h5, g5, o5⟩; have HN1 := Lib.hid hn1; clear hn1; have k5 : BkAt w5 kb 1 last 0 (fun _ => 0) (.slice none 0 0) (fun _ => 0) (.slice none 0 0) := Blk.grown k4 g5 (by intro e; injection e with e; omega))
        | (refine store_sub rfl 26 (.tmp 67) (.tmp 63) rfl rfl 17 rfl k6 (by omega) tree_size (fun i _ => treeH_one _ _ _ _ i) ?_; intro w7 k7 g7)
        | (refine store_sub rfl 26 (.tmp 68) (.tmp 66) rfl rfl 17 rfl k7 (by omega) tree_size (fun i _ => treeH_one _ _ _ _ i) ?_; intro w8 k8 g8))
      have k8 : BkAt w8 kb 1 last 0 F1 (.slice C1 n1 e1) F2 (.slice C2 n2 e2) := BkAt.trees k6 F1 F2 _ _ k8
      have hz5 : kb ≤ w5.heap.size := Nat.le_trans hz4 g5.size
      have hz6 : kb ≤ w6.heap.size := Nat.le_trans hz5 g6.size
      have h7 := (h6.other g7 hgk hWk).other g8 hgk hWk
      have keep8 := (((keep4.only g5 hz4).only g6 hz5).own g7 hz6 (Nat.le_refl _)).own g8 (Nat.le_trans hz6 g7.size) (Nat.le_refl _)
      have t1 : TrOk w8 kb C1 n1 e1 X1 := ⟨own_only (own_only (own_far_base (h5.own o5 (by decide) g6) hz4) k6 (by decide) g7) k7 (by decide) g8, HN1.out, by rw [HN1.out]; exact hm1⟩
      have t2 : TrOk w8 kb C2 n2 e2 X2 := ⟨own_only (own_only (own_far_base o6 hz5) k6 (by decide) g7) k7 (by decide) g8, HN2.out, by rw [HN2.out]; exact hm2⟩
      clear keep3 keep4 k3 k4 k5 k6 k7 h3 h4 h5 h6 o5 o6 hB4 hC4 c2 ckk HG1 HG2 HFx
      go_wp2_with (first
        | (refine load_arr rfl 28 (.tmp 2) rfl rfl k8 Tryz.underlying28 rfl bk_size ?_)
        | (refine store_over rfl 28 (.tmp 2) (.tmp 69) rfl rfl rfl k8 bk_size (fun i _ => bkH_one _ _ _ _ _ _ _ _ _ _ _ i) ?_; intro wz kz gz))
      have hz := (h7).other gz hgk hWk
      have keepz := (keep8).own gz (by have := HKB.out; have := (keep8).size; omega) (Nat.le_refl _)
      refine bodyPost_ret (results_cell_row Tryz.results59 _ _ kb 28 _ (0, 0) _ rfl kz Tryz.underlying28 rfl (by rw [cellsOf_size]; exact bk_size)) rfl ?_
      have hkeep : w.grownBy wz (some g) := Keep.out (by rw [HKB.out]; exact keepz)
      refine ⟨1, last, 0, F1, C1, n1, e1, X1, F2, C2, n2, e2, X2, rfl, by omega, by omega, ?_, ?_, ?_, hkeep, ?_⟩
      · rw [HKB.out]; exact t1.only k8 gz
      · rw [HKB.out]; exact t2.only k8 gz
      · rw [HGO.out]; exact hz
      · exact HIS.out
    · rw [if_pos rfl] at HD
      replace ckk : w3.cell? ⟨kb, 0, none⟩ = some (.int .u8 2) := ckk
      have k3' : BkAt w3 kb 2 last 0 (fun _ => 0) (.slice none 0 0) (fun _ => 0) (.slice none 0 0) := k3
      have hglt' : g < kb := by have := HKB.out; omega
      have HDy := Lib.hid (rddyn_any W w3 kb g kb B n c b (a + 3) last h3 k3' (Nat.le_refl _) hWk hglt')
      clear hbk k3 h3
      go_upto_region 14 with (go_at_call 78; refine HDy.out.mono ?_; rintro e w5 ⟨rfl, f1, C1, m1, d1, x1, f2, C2, m2, d2, x2, k5, t1, t2, h5, kp5, his⟩)
      have keep5 : Keep kb g w w5 := ⟨kp5.os.trans keep3.os, kp5.tape.trans keep3.tape, kp5.output.trans keep3.output, Nat.le_trans keep3.size kp5.size, fun i hi hne => (kp5.block i hi hne).trans (keep3.block i hi hne)⟩
      have HGO := Lib.hid (show rsGo (.ok a) hdP b = rsGo (.ok (a + 3)) (dyP last) b from rsGo_eq HD.out)
      have hdk : ∀ k m, dyP last b (a + 3) = .ok (k, m) → k.kind = 2 ∧ k.last = last ∧ k.left = 0 := fun k m hk => by
        obtain ⟨v, m1, _, q2⟩ := paBind_inv hk
        unfold dvP at q2
        split at q2
        · cases q2
        · obtain ⟨row, m2, _, q3⟩ := paBind_inv q2
          unfold dxP at q3
          split at q3
          · cases q3
          · obtain ⟨all, m3, _, q4⟩ := paBind_inv q3
            unfold dzP at q4
            split at q4
            · cases q4
            · cases q4; exact ⟨rfl, rfl, rfl⟩
      have HIS := Lib.hid (show ∀ k m, hdP b a = .ok (k, m) → BkIs k 2 last 0 f1 x1 f2 x2 from fun k m hk => by
        rw [HD.out] at hk
        obtain ⟨q1, q2, q3⟩ := hdk k m hk
        obtain ⟨r1, r2, r3, r4⟩ := his k m hk
        refine ⟨q1.symm, q2.symm, q3.symm, ?_, ?_, ?_, ?_⟩
        · unfold trF; rw [if_neg (by omega)]; exact r1
        · unfold trX; rw [if_neg (by omega)]; exact r2
        · unfold trF; rw [if_neg (by omega)]; exact r3
        · unfold trX; rw [if_neg (by omega)]; exact r4)
      clear hdk his HD HDy keep3 kp5 k3' c2 ckk
      go_wp2_with (first
        | (refine load_arr rfl 28 (.tmp 2) rfl rfl k5 Tryz.underlying28 rfl bk_size ?_)
        | (refine store_over rfl 28 (.tmp 2) (.tmp 69) rfl rfl rfl k5 bk_size (fun i _ => bkH_one _ _ _ _ _ _ _ _ _ _ _ i) ?_; intro wz kz gz))
      have hz := (h5).other gz hgk hWk
      have keepz := (keep5).own gz (by have := HKB.out; have := (keep5).size; omega) (Nat.le_refl _)
      refine bodyPost_ret (results_cell_row Tryz.results59 _ _ kb 28 _ (0, 0) _ rfl kz Tryz.underlying28 rfl (by rw [cellsOf_size]; exact bk_size)) rfl ?_
      have hkeep : w.grownBy wz (some g) := Keep.out (by rw [HKB.out]; exact keepz)
      refine ⟨2, last, 0, f1, C1, m1, d1, x1, f2, C2, m2, d2, x2, rfl, by omega, by omega, ?_, ?_, ?_, hkeep, ?_⟩
      · rw [HKB.out]; exact t1.only k5 gz
      · rw [HKB.out]; exact t2.only k5 gz
      · rw [HGO.out]; exact hz
      · exact HIS.out
end Go.Proofs.YtahboomghjdjhaaGreat

/-
  Walks: a reader's step.
-/
namespace Go.Proofs.YtahboomghjdjhaaGreat
open Go.RowKit

/-- A long token, by states. -/
theorem sw_cases {fa b : List Nat} {a1 S n1 S2 n2 : Nat} {s2 s3 s4 : Rs} (hS : 256 < S) (h1 : rsV (.ok a1) (exP 257 longT S) b = n1) (h2 : rsGo (.ok a1) (exP 257 longT S) b = s2) (h3 : rsV s2 (syP fa) b = S2) (h4 : rsGo s2 (syP fa) b = s3) (h5 : rsV s3 (exP 0 farT S2) b = n2) (h6 : rsGo s3 (exP 0 farT S2) b = s4) :
    rsGo (.ok a1) (swP fa S) b = s4 ∧ ∀ t m, swP fa S b a1 = .ok (t, m) → t = ⟨n2, n1, 0, false⟩ := by
  have hsw : swP fa S b a1 = paBind (exP 257 longT S) (scP fa) b a1 := by unfold swP; rw [if_neg (by omega), if_neg (by omega)]
  cases he : exP 257 longT S b a1 with
  | error e =>
    rw [rsGo_err he] at h2
    subst h2
    have h4 : s3 = .error e := h4.symm
    subst h4
    have h6 : s4 = .error e := h6.symm
    subst h6
    rw [paBind_no he] at hsw
    exact ⟨rsGo_err hsw, fun t m hk => by rw [hsw] at hk; cases hk⟩
  | ok r =>
    obtain ⟨y1, p1⟩ := r
    rw [rsGo_ok he] at h2
    rw [rsV_ok he] at h1
    subst h2; subst h1
    rw [paBind_ok he] at hsw
    have hsc : scP fa y1 b p1 = paBind (syP fa) (fun s => paBind (exP 0 farT s) fun d => paOk ⟨d, y1, 0, false⟩) b p1 := rfl
    cases hs : syP fa b p1 with
    | error e =>
      rw [rsGo_err hs] at h4
      subst h4
      have h6 : s4 = .error e := h6.symm
      subst h6
      rw [paBind_no hs] at hsc
      exact ⟨rsGo_err (hsw.trans hsc), fun t m hk => by rw [hsw, hsc] at hk; cases hk⟩
    | ok r =>
      obtain ⟨y2, p2⟩ := r
      rw [rsGo_ok hs] at h4
      rw [rsV_ok hs] at h3
      subst h4; subst h3
      rw [paBind_ok hs] at hsc
      cases hx : exP 0 farT y2 b p2 with
      | error e =>
        rw [rsGo_err hx] at h6
        subst h6
        have : paBind (exP 0 farT y2) (fun d => paOk (⟨d, y1, 0, false⟩ : St)) b p2 = .error e := paBind_no hx
        rw [this] at hsc
        exact ⟨rsGo_err (hsw.trans hsc), fun t m hk => by rw [hsw, hsc] at hk; cases hk⟩
      | ok r =>
        obtain ⟨y3, p3⟩ := r
        rw [rsGo_ok hx] at h6
        rw [rsV_ok hx] at h5
        subst h6; subst h5
        have : paBind (exP 0 farT y2) (fun d => paOk (⟨d, y1, 0, false⟩ : St)) b p2 = .ok (⟨y3, y1, 0, false⟩, p3) := paBind_ok hx
        rw [this] at hsc
        exact ⟨rsGo_ok (hsw.trans hsc), fun t m hk => by rw [hsw, hsc] at hk; cases hk; rfl⟩

/-- What step answers. -/
def StepEnd (W w w' : World) (g : Nat) (B : Option Addr) (n c : Nat) (b : List Nat) (s : Rs) (p : Pa St) (r : Ending) : Prop :=
  ∃ lit dist long fin, r = .returned (.tuple #[.agg #[.int .u8 ((lit : Nat) : Int), .int .i64 ((dist : Nat) : Int), .int .i64 ((long : Nat) : Int)], .bool fin]) ∧ RdrAt W w' g B n c b (rsGo s p b) ∧ w.grownBy w' (some g) ∧ ∀ a t m, s = .ok a → p b a = .ok (t, m) → t = ⟨dist, long, lit, fin⟩

set_option maxRecDepth 100000 in
set_option maxHeartbeats 8000000 in
/-- .. a stored block's. -/
theorem rdstep_zero (W w : World) (g : Nat) (B : Option Addr) (n c : Nat) (b : List Nat) (s : Rs) (last : Bool) (left : Nat) (f1 f2 : Nat → Int) (v1 v2 : Value) (lo fa : List Nat) (hleft : left ≤ 65535) (h : RdrAt W w g B n c b s) :
    Calls Tryz.prog 60 #[.pointer (some ⟨g, 0, none⟩), .agg (cellsOf 37 (bkH 0 last (left : Int) f1 v1 f2 v2))] w fun r w' => StepEnd W w w' g B n c b s (stP ⟨0, last, left, lo, fa⟩) r := by
  have hglt := h.lt
  have hWw := h.bel.size
  have hbw : Below w.heap.size w (w.alloc (.cells (cellsOf 37 (bkH 0 last (left : Int) f1 v1 f2 v2)) 28)) := (Below.refl _ _).alloc (Nat.le_refl _) _
  have k0 : BkAt (w.alloc (.cells (cellsOf 37 (bkH 0 last (left : Int) f1 v1 f2 v2)) 28)) w.heap.size 0 last left f1 v1 f2 v2 := Blk.new _ _ _
  go_enter Tryz.func60, Tryz.ntmps60
  go_upto_region 1 with (fail)
  have k0' := Arr.alloc k0 (.cells #[.int .u8 0, .int .i64 0, .int .i64 0] 72)
  have kt : Blk ((w.alloc (.cells (cellsOf 37 (bkH 0 last (left : Int) f1 v1 f2 v2)) 28)).alloc (.cells #[.int .u8 0, .int .i64 0, .int .i64 0] 72)) (w.heap.size + 1) 72 #[.int .u8 0, .int .i64 0, .int .i64 0] := Blk.new' _ _ _ _ (by simp)
  have hb1 : Below w.heap.size w ((w.alloc (.cells (cellsOf 37 (bkH 0 last (left : Int) f1 v1 f2 v2)) 28)).alloc (.cells #[.int .u8 0, .int .i64 0, .int .i64 0] 72)) := hbw.alloc (by simp) _
  change Code.wp _ _ _ _ ((w.alloc (.cells (cellsOf 37 (bkH 0 last (left : Int) f1 v1 f2 v2)) 28)).alloc (.cells #[.int .u8 0, .int .i64 0, .int .i64 0] 72))
  generalize ((w.alloc (.cells (cellsOf 37 (bkH 0 last (left : Int) f1 v1 f2 v2)) 28)).alloc (.cells #[.int .u8 0, .int .i64 0, .int .i64 0] 72)) = W1 at *
  clear hbw k0
  have h1 := h.below hb1
  obtain ⟨gt, hgt⟩ : ∃ gt, w.heap.size + 1 = gt := ⟨_, rfl⟩
  rw [hgt] at kt
  rw [hgt]
  have HGT := Lib.hid hgt
  have hgne : g ≠ gt := by omega
  have hWt : W.heap.size ≤ gt := by omega
  have hkt : w.heap.size ≠ gt := by omega
  clear hgt h
  have c0 : W1.cell? ⟨w.heap.size, 0, none⟩ = some (.int .u8 0) := Arr.cell k0' 0 (by omega)
  have c2 : W1.cell? ⟨w.heap.size, 2, none⟩ = some (.int .i64 (left : Int)) := Arr.cell k0' 2 (by omega)
  have ct := Blk.cells kt
  have ft := Blk.frozens kt
  by_cases h0 : left = 0
  · subst h0
    replace c2 : W1.cell? ⟨w.heap.size, 2, none⟩ = some (.int .i64 0) := c2
    have hst : rsGo s (stP ⟨0, last, 0, lo, fa⟩) b = s := by cases s <;> rfl
    have HST := Lib.hid hst
    clear hst
    go_wp2_with fail
    go_region
    go_wp2_with fail
    have kz := (((kt.set_ 0 (.int .u8 0)).set_ 1 (.int .i64 0)).set_ 2 (.int .i64 0))
    have cz := Blk.cells kz
    have gz : W1.grownBy (((W1.setCell ⟨gt, 0, none⟩ (.int .u8 0)).setCell ⟨gt, 1, none⟩ (.int .i64 0)).setCell ⟨gt, 2, none⟩ (.int .i64 0)) (some gt) := only_set (only_set (only_set (only_self _ _) 0 _) 1 _) 2 _
    refine bodyPost_ret (v := .tuple #[.agg #[.int .u8 0, .int .i64 0, .int .i64 0], .bool true]) (by simp [results, Tryz.results60, go_sem, cz]) rfl ?_
    refine ⟨0, 0, 0, true, rfl, by rw [HST.out]; exact (h1.other gz hgne hWt).drew, ?_, fun a t m hs hk => by cases hk; rfl⟩
    exact only_drew (only_row (only_of_below hb1) gz (fun j hj => by injection hj with hj; have := HGT.out; omega))
  · have HT := Lib.hid (show Calls Tryz.prog 74 #[.pointer (some ⟨g, 0, none⟩), .int .i64 8] W1 _ from rtakeN_any W W1 g B n c b s 8 (by omega) h1)
    have hst : ∀ a, stP ⟨0, last, left, lo, fa⟩ b a = paBind (tkP 8) (fun v => paOk (⟨0, 0, v, false⟩ : St)) b a := fun a => by unfold stP; rw [if_pos rfl, if_neg h0]
    have hgo : rsGo s (stP ⟨0, last, left, lo, fa⟩) b = rsGo s (tkP 8) b := by
      cases s with
      | error e => rfl
      | ok a =>
        cases ht : tkP 8 b a with
        | error e => rw [rsGo_err ht, rsGo_err ((hst a).trans (paBind_no ht))]
        | ok r => obtain ⟨x, m⟩ := r; rw [rsGo_ok ht, rsGo_ok ((hst a).trans (paBind_ok ht))]
    have hval : ∀ a t m, s = .ok a → stP ⟨0, last, left, lo, fa⟩ b a = .ok (t, m) → t = ⟨0, 0, rsV s (tkP 8) b, false⟩ := fun a t m hs hk => by
      subst hs
      rw [hst] at hk
      obtain ⟨x, q, h1, h2⟩ := paBind_inv hk
      cases h2
      rw [rsV_ok h1]
    have hv := rsV_lt s 8 b
    rw [← hgo] at HT
    generalize rsV s (tkP 8) b = v at *
    have hv8 : (v : Int) % 256 = (v : Int) := by omega
    have HV := Lib.hid hval
    have hl : ((left : Int) == 0) = false := by rw [beq_eq_false_iff_ne]; omega
    clear hval hgo hst
    go_upto_region 4 with (go_at_call 74; refine HT.out.mono ?_; rintro e w2 ⟨rfl, h2, g2⟩; have kt2 : Blk w2 gt 72 #[.int .u8 0, .int .i64 0, .int .i64 0] := Blk.grown kt g2 (by intro e; injection e with e; omega); have ct2 := Blk.cells kt2; have ft2 := Blk.frozens kt2; have k2 : BkAt w2 w.heap.size 0 last left f1 v1 f2 v2 := Blk.grown k0' g2 (by intro e; injection e with e; omega))
    have kt3 := kt2.set_ 0 (.int .u8 (v : Int))
    have g3 : w2.grownBy (w2.setCell ⟨gt, 0, none⟩ (.int .u8 (v : Int))) (some gt) := only_set (only_self _ _) 0 _
    have k3 : BkAt (w2.setCell ⟨gt, 0, none⟩ (.int .u8 (v : Int))) w.heap.size 0 last left f1 v1 f2 v2 := Arr.far k2 (p := ⟨gt, 0, none⟩) hkt _
    have h3 := h2.other g3 hgne hWt
    have hge := only_row (only_trans (only_of_below (row := some g) hb1) g2) g3 (fun j hj => by injection hj with hj; have := HGT.out; omega)
    clear ct2 ft2 kt2 k2 h2 g2 g3 ct ft kt k0' c0 c2 h1 hb1 HT
    have kt3 : Blk (w2.setCell ⟨gt, 0, none⟩ (.int .u8 (v : Int))) gt 72 #[.int .u8 (v : Int), .int .i64 0, .int .i64 0] := kt3
    generalize w2.setCell ⟨gt, 0, none⟩ (.int .u8 (v : Int)) = W3 at *
    have c2 : W3.cell? ⟨w.heap.size, 2, none⟩ = some (.int .i64 (left : Int)) := Arr.cell k3 2 (by omega)
    have ct := Blk.cells kt3
    have ft := Blk.frozens kt3
    go_wp2_with fail
    go_region
    go_wp2_with fail
    have kz := (((kt3.set_ 0 (.int .u8 (v : Int))).set_ 1 (.int .i64 0)).set_ 2 (.int .i64 0))
    have cz := Blk.cells kz
    have gz : W3.grownBy (((W3.setCell ⟨gt, 0, none⟩ (.int .u8 (v : Int))).setCell ⟨gt, 1, none⟩ (.int .i64 0)).setCell ⟨gt, 2, none⟩ (.int .i64 0)) (some gt) := only_set (only_set (only_set (only_self _ _) 0 _) 1 _) 2 _
    refine bodyPost_ret (v := .tuple #[.agg #[.int .u8 (v : Int), .int .i64 0, .int .i64 0], .bool false]) (by simp [results, Tryz.results60, go_sem, cz]) rfl ?_
    refine ⟨v, 0, 0, false, rfl, (h3.other gz hgne hWt).drew, ?_, HV.out⟩
    exact only_drew (only_row hge gz (fun j hj => by injection hj with hj; have := HGT.out; omega))
end Go.Proofs.YtahboomghjdjhaaGreat

/-
  Walks: a reader's step of a coded block.
-/
namespace Go.Proofs.YtahboomghjdjhaaGreat
open Go.RowKit

set_option maxRecDepth 100000 in
set_option maxHeartbeats 8000000 in
theorem rdstep_code (W w : World) (g : Nat) (B : Option Addr) (n c : Nat) (b : List Nat) (a kind : Nat) (last : Bool) (left : Nat) (f1 : Nat → Int) (C1 : Option Addr) (m1 d1 : Nat) (x1 : List Int) (f2 : Nat → Int) (C2 : Option Addr) (m2 d2 : Nat) (x2 : List Int) (lo fa : List Nat) (hk : kind ≠ 0)
    (hx1 : ∀ wx, w.grownBy wx (some g) → Rd wx C1 (ints x1)) (hm1 : m1 = x1.length) (hd1 : m1 ≤ d1) (hb1 : m1 ≤ 1001) (hl1 : chkT f1 x1 = some lo)
    (hx2 : ∀ wx, w.grownBy wx (some g) → Rd wx C2 (ints x2)) (hm2 : m2 = x2.length) (hd2 : m2 ≤ d2) (hb2 : m2 ≤ 1001) (hl2 : chkT f2 x2 = some fa) (h : RdrAt W w g B n c b (.ok a)) :
    Calls Tryz.prog 60 #[.pointer (some ⟨g, 0, none⟩), .agg (cellsOf 37 (bkH (kind : Int) last (left : Int) f1 (.slice C1 m1 d1) f2 (.slice C2 m2 d2)))] w fun r w' => StepEnd W w w' g B n c b (.ok a) (stP ⟨kind, last, left, lo, fa⟩) r := by
  have hglt := h.lt
  have hWw := h.bel.size
  have hbw : Below w.heap.size w (w.alloc (.cells (cellsOf 37 (bkH (kind : Int) last (left : Int) f1 (.slice C1 m1 d1) f2 (.slice C2 m2 d2))) 28)) := (Below.refl _ _).alloc (Nat.le_refl _) _
  have k0 : BkAt (w.alloc (.cells (cellsOf 37 (bkH (kind : Int) last (left : Int) f1 (.slice C1 m1 d1) f2 (.slice C2 m2 d2))) 28)) w.heap.size kind last left f1 (.slice C1 m1 d1) f2 (.slice C2 m2 d2) := Blk.new _ _ _
  have HS1 := Lib.hid fun wx hr (hg : w.grownBy wx (some g)) => rsymbol_any W wx g B n c b (.ok a) f1 C1 m1 d1 x1 lo (hx1 wx hg) hm1 hd1 hb1 hl1 hr
  have HS2 := Lib.hid fun wx s hr (hg : w.grownBy wx (some g)) => rsymbol_any W wx g B n c b s f2 C2 m2 d2 x2 fa (hx2 wx hg) hm2 hd2 hb2 hl2 hr
  have hlo := chk_320 hl1
  have hfa := chk_320 hl2
  clear hm1 hm2 hl1 hl2 hx1 hx2
  go_enter Tryz.func60, Tryz.ntmps60
  go_upto_region 1 with (fail)
  have k0' := Arr.alloc k0 (.cells #[.int .u8 0, .int .i64 0, .int .i64 0] 72)
  have kt : Blk ((w.alloc (.cells (cellsOf 37 (bkH (kind : Int) last (left : Int) f1 (.slice C1 m1 d1) f2 (.slice C2 m2 d2))) 28)).alloc (.cells #[.int .u8 0, .int .i64 0, .int .i64 0] 72)) (w.heap.size + 1) 72 #[.int .u8 0, .int .i64 0, .int .i64 0] := Blk.new' _ _ _ _ (by simp)
  have hb1' : Below w.heap.size w ((w.alloc (.cells (cellsOf 37 (bkH (kind : Int) last (left : Int) f1 (.slice C1 m1 d1) f2 (.slice C2 m2 d2))) 28)).alloc (.cells #[.int .u8 0, .int .i64 0, .int .i64 0] 72)) := hbw.alloc (by simp) _
  change Code.wp _ _ _ _ ((w.alloc (.cells (cellsOf 37 (bkH (kind : Int) last (left : Int) f1 (.slice C1 m1 d1) f2 (.slice C2 m2 d2))) 28)).alloc (.cells #[.int .u8 0, .int .i64 0, .int .i64 0] 72))
  generalize ((w.alloc (.cells (cellsOf 37 (bkH (kind : Int) last (left : Int) f1 (.slice C1 m1 d1) f2 (.slice C2 m2 d2))) 28)).alloc (.cells #[.int .u8 0, .int .i64 0, .int .i64 0] 72)) = W1 at *
  clear hbw k0
  have h1 := h.below hb1'
  have g1 := only_of_below (row := some g) hb1'
  obtain ⟨gt, hgt⟩ : ∃ gt, w.heap.size + 1 = gt := ⟨_, rfl⟩
  rw [hgt] at kt
  rw [hgt]
  have HGT := Lib.hid hgt
  have hgne : g ≠ gt := by omega
  have hWt : W.heap.size ≤ gt := by omega
  have hkt : w.heap.size ≠ gt := by omega
  have hgk : g ≠ w.heap.size := by omega
  clear hgt h hb1'
  have c0 : W1.cell? ⟨w.heap.size, 0, none⟩ = some (.int .u8 (kind : Int)) := Arr.cell k0' 0 (by omega)
  have hk0 : ((kind : Int) == 0) = false := by rw [beq_eq_false_iff_ne]; omega
  have HS := Lib.hid (HS1.out W1 h1 g1)
  obtain ⟨S, hS⟩ : ∃ S, rsV (.ok a) (syP lo) b = S := ⟨_, rfl⟩
  obtain ⟨s1, hs1⟩ : ∃ s, rsGo (.ok a) (syP lo) b = s := ⟨_, rfl⟩
  rw [hS, hs1] at HS
  have hst : stP ⟨kind, last, left, lo, fa⟩ b a = paBind (syP lo) (swP fa) b a := by unfold stP; rw [if_neg hk]
  have hS320 : S < 320 := by
    rw [← hS]
    cases hy : syP lo b a with
    | error e => rw [rsV_err hy]; omega
    | ok r => obtain ⟨y, q⟩ := r; rw [rsV_ok hy]; exact syP_lt (by omega) hy
  have hway : (∃ e, s1 = .error e ∧ syP lo b a = .error e) ∨ ∃ p, s1 = .ok p ∧ syP lo b a = .ok (S, p) := by
    cases hy : syP lo b a with
    | error e => left; rw [rsGo_err hy] at hs1; exact ⟨e, hs1.symm, rfl⟩
    | ok r => obtain ⟨y, q⟩ := r; right; rw [rsGo_ok hy] at hs1; rw [rsV_ok hy] at hS; subst hS; exact ⟨q, hs1.symm, rfl⟩
  clear hS hs1 h1
  go_upto_region 8 with (first
    | (refine load_sub rfl 26 (.tmp 22) rfl rfl k0' 17 (by omega) tree_under rfl tree_size (treeH f1 (.slice C1 m1 d1)) (fun i hi => by unfold bkH; rw [if_neg (by omega), if_pos (by omega), Nat.add_sub_cancel_left]) ?_)
    | (go_at_call 79; refine HS.out.mono ?_; rintro e w2 ⟨rfl, h2, g2⟩))
  have kt2 : Blk w2 gt 72 #[.int .u8 0, .int .i64 0, .int .i64 0] := Blk.grown kt g2 (by intro e; injection e with e; omega)
  have k2 : BkAt w2 w.heap.size kind last left f1 (.slice C1 m1 d1) f2 (.slice C2 m2 d2) := Blk.grown k0' g2 (by intro e; injection e with e; omega)
  have gg2 := only_trans g1 g2
  clear kt k0' g1 g2 c0 HS
  obtain ⟨av, hbk, _⟩ := h2.blk
  have c2 : w2.cell? ⟨g, 2, none⟩ = some (.int .i64 (rsE s1 : Int)) := hbk.cell 2
  have ct := Blk.cells kt2
  have ft := Blk.frozens kt2
  rcases hway with ⟨e, rfl, hy⟩ | ⟨p, rfl, hy⟩
  · have HGO := Lib.hid (show rsGo (.ok a) (stP ⟨kind, last, left, lo, fa⟩) b = .error e from rsGo_err (hst.trans (paBind_no hy)))
    have HVAL := Lib.hid (show ∀ a' t m, (Except.ok a : Rs) = .ok a' → stP ⟨kind, last, left, lo, fa⟩ b a' = .ok (t, m) → t = ⟨0, 0, 0, false⟩ from fun a' t m hs hk' => by
      cases hs
      rw [hst, paBind_no hy] at hk'
      cases hk')
    have he' := h2.ne e rfl
    have hne : ¬ (((rsE (.error e : Rs) : Nat) : Int) = 0) := by simp only [rsE]; omega
    clear hst hy
    go_wp2_with fail
    have kz := (((kt2.set_ 0 (.int .u8 0)).set_ 1 (.int .i64 0)).set_ 2 (.int .i64 0))
    have cz := Blk.cells kz
    have gz : w2.grownBy (((w2.setCell ⟨gt, 0, none⟩ (.int .u8 0)).setCell ⟨gt, 1, none⟩ (.int .i64 0)).setCell ⟨gt, 2, none⟩ (.int .i64 0)) (some gt) := only_set (only_set (only_set (only_self _ _) 0 _) 1 _) 2 _
    refine bodyPost_ret (v := .tuple #[.agg #[.int .u8 0, .int .i64 0, .int .i64 0], .bool false]) (by simp [results, Tryz.results60, go_sem, cz]) rfl ?_
    refine ⟨0, 0, 0, false, rfl, by rw [HGO.out]; exact (h2).other gz hgne hWt, ?_, HVAL.out⟩
    exact only_row gg2 gz (fun j hj => by injection hj with hj; have := HGT.out; omega)
  · replace c2 : w2.cell? ⟨g, 2, none⟩ = some (.int .i64 0) := c2
    have hgo : rsGo (.ok a) (stP ⟨kind, last, left, lo, fa⟩) b = rsGo (.ok p) (swP fa S) b := by
      have := hst.trans (paBind_ok hy)
      exact rsGo_eq this
    have hval : ∀ t m, stP ⟨kind, last, left, lo, fa⟩ b a = .ok (t, m) → swP fa S b p = .ok (t, m) := fun t m hk' => by
      rw [hst, paBind_ok hy] at hk'; exact hk'
    clear hst hy
    by_cases hS1 : S < 256
    · have hsw : swP fa S b p = .ok (⟨0, 0, S, false⟩, p) := by unfold swP; rw [if_pos hS1]; rfl
      have HGO := Lib.hid (hgo.trans (rsGo_ok hsw))
      have HVAL := Lib.hid (show ∀ a' t m, (Except.ok a : Rs) = .ok a' → stP ⟨kind, last, left, lo, fa⟩ b a' = .ok (t, m) → t = ⟨0, 0, S, false⟩ from fun a' t m hs hk' => by
        cases hs
        have := hval t m hk'
        rw [hsw] at this
        cases this; rfl)
      have hS8 : (S : Int) % 256 = (S : Int) := by omega
      clear hgo hval hsw
      go_upto_region 13 with (fail)
      have kt3 := kt2.set_ 0 (.int .u8 (S : Int))
      have g3 : w2.grownBy (w2.setCell ⟨gt, 0, none⟩ (.int .u8 (S : Int))) (some gt) := only_set (only_self _ _) 0 _
      have h3 := h2.other g3 hgne hWt
      have gg3 := only_row gg2 g3 (fun j hj => by injection hj with hj; have := HGT.out; omega)
      clear kt2 h2 g3 gg2 ct ft c2 k2 hbk
      have kt3 : Blk (w2.setCell ⟨gt, 0, none⟩ (.int .u8 (S : Int))) gt 72 #[.int .u8 (S : Int), .int .i64 0, .int .i64 0] := kt3
      generalize w2.setCell ⟨gt, 0, none⟩ (.int .u8 (S : Int)) = W3 at *
      have ct := Blk.cells kt3
      have ft := Blk.frozens kt3
      go_wp2_with fail
      have kz := (((kt3.set_ 0 (.int .u8 (S : Int))).set_ 1 (.int .i64 0)).set_ 2 (.int .i64 0))
      have cz := Blk.cells kz
      have gz : W3.grownBy (((W3.setCell ⟨gt, 0, none⟩ (.int .u8 (S : Int))).setCell ⟨gt, 1, none⟩ (.int .i64 0)).setCell ⟨gt, 2, none⟩ (.int .i64 0)) (some gt) := only_set (only_set (only_set (only_self _ _) 0 _) 1 _) 2 _
      refine bodyPost_ret (v := .tuple #[.agg #[.int .u8 (S : Int), .int .i64 0, .int .i64 0], .bool false]) (by simp [results, Tryz.results60, go_sem, cz]) rfl ?_
      refine ⟨S, 0, 0, false, rfl, by rw [HGO.out]; exact (h3).other gz hgne hWt, ?_, HVAL.out⟩
      exact only_row gg3 gz (fun j hj => by injection hj with hj; have := HGT.out; omega)
    · by_cases hS2 : S = 256
      · subst hS2
        have hsw : swP fa 256 b p = .ok (⟨0, 0, 0, true⟩, p) := by unfold swP; rw [if_neg (by omega), if_pos rfl]; rfl
        have HGO := Lib.hid (hgo.trans (rsGo_ok hsw))
        have HVAL := Lib.hid (show ∀ a' t m, (Except.ok a : Rs) = .ok a' → stP ⟨kind, last, left, lo, fa⟩ b a' = .ok (t, m) → t = ⟨0, 0, 0, true⟩ from fun a' t m hs hk' => by
          cases hs
          have := hval t m hk'
          rw [hsw] at this
          cases this; rfl)
        clear hgo hval hsw
        go_wp2_with fail
        have kz := (((kt2.set_ 0 (.int .u8 0)).set_ 1 (.int .i64 0)).set_ 2 (.int .i64 0))
        have cz := Blk.cells kz
        have gz : w2.grownBy (((w2.setCell ⟨gt, 0, none⟩ (.int .u8 0)).setCell ⟨gt, 1, none⟩ (.int .i64 0)).setCell ⟨gt, 2, none⟩ (.int .i64 0)) (some gt) := only_set (only_set (only_set (only_self _ _) 0 _) 1 _) 2 _
        refine bodyPost_ret (v := .tuple #[.agg #[.int .u8 0, .int .i64 0, .int .i64 0], .bool true]) (by simp [results, Tryz.results60, go_sem, cz]) rfl ?_
        refine ⟨0, 0, 0, true, rfl, by rw [HGO.out]; exact (h2).other gz hgne hWt, ?_, HVAL.out⟩
        exact only_row gg2 gz (fun j hj => by injection hj with hj; have := HGT.out; omega)
      · have hS3 : ¬ ((S : Int) = 256) := by omega
        have hS4 : ¬ ((S : Int) < 256) := by omega
        obtain ⟨n1, hn1⟩ : ∃ v, rsV (.ok p) (exP 257 longT S) b = v := ⟨_, rfl⟩
        obtain ⟨s2, hs2⟩ : ∃ s, rsGo (.ok p) (exP 257 longT S) b = s := ⟨_, rfl⟩
        obtain ⟨S2, hS2'⟩ : ∃ v, rsV s2 (syP fa) b = v := ⟨_, rfl⟩
        obtain ⟨s3, hs3⟩ : ∃ s, rsGo s2 (syP fa) b = s := ⟨_, rfl⟩
        obtain ⟨n2, hn2⟩ : ∃ v, rsV s3 (exP 0 farT S2) b = v := ⟨_, rfl⟩
        obtain ⟨s4, hs4⟩ : ∃ s, rsGo s3 (exP 0 farT S2) b = s := ⟨_, rfl⟩
        have hcs := sw_cases (by omega) hn1 hs2 hS2' hs3 hn2 hs4
        have hS2320 : S2 ≤ 1000 := by
          rw [← hS2']
          cases s2 with
          | error e => exact Nat.zero_le _
          | ok q =>
            cases hy : syP fa b q with
            | error e => rw [rsV_err hy]; omega
            | ok r => obtain ⟨y, q'⟩ := r; rw [rsV_ok hy]; have := syP_lt (l := fa) (by omega) hy; omega
        have HN1 := Lib.hid fun wx hr => show Calls Tryz.prog 80 #[.pointer (some ⟨g, 0, none⟩), .int .i64 (S : Int), .func (.func 81) #[] #[], .func (.func 82) #[] #[]] wx (fun r w' => RdRes W wx w' g B n c b r n1 s2) from by have := rdnum_Long W wx g B n c b (.ok p) S (by omega) hr; rw [hn1, hs2] at this; exact this
        have HY := Lib.hid fun wx hr hg => show Calls Tryz.prog 79 #[.pointer (some ⟨g, 0, none⟩), .agg (cellsOf 17 (treeH f2 (.slice C2 m2 d2)))] wx (fun r w' => RdRes W wx w' g B n c b r S2 s3) from by have := HS2.out wx s2 hr hg; rw [hS2', hs3] at this; exact this
        have HN2 := Lib.hid fun wx hr => show Calls Tryz.prog 80 #[.pointer (some ⟨g, 0, none⟩), .int .i64 (S2 : Int), .func (.func 83) #[] #[], .func (.func 84) #[] #[]] wx (fun r w' => RdRes W wx w' g B n c b r n2 s4) from by have := rdnum_Far W wx g B n c b s3 S2 hS2320 hr; rw [hn2, hs4] at this; exact this
        have HGO := Lib.hid (hgo.trans hcs.1)
        have HVAL := Lib.hid (show ∀ a' t m, (Except.ok a : Rs) = .ok a' → stP ⟨kind, last, left, lo, fa⟩ b a' = .ok (t, m) → t = ⟨n2, n1, 0, false⟩ from fun a' t m hs hk' => by
          cases hs
          exact hcs.2 t m (hval t m hk'))
        clear hgo hval hcs hn1 hs2 hS2' hs3 hn2 hs4 HS1 HS2 hbk
        go_upto_region 7 with (go_at_call 80; refine (HN1.out _ h2).mono ?_; rintro e w3 ⟨rfl, h3, g3⟩; have kt3 : Blk w3 gt 72 #[.int .u8 0, .int .i64 0, .int .i64 0] := Blk.grown kt2 g3 (by intro e; injection e with e; omega); have ct3 := Blk.cells kt3; have ft3 := Blk.frozens kt3; have k3 : BkAt w3 w.heap.size kind last left f1 (.slice C1 m1 d1) f2 (.slice C2 m2 d2) := Blk.grown k2 g3 (by intro e; injection e with e; omega))
        have gg3 := only_trans gg2 g3
        have kt4 := kt3.set_ 2 (.int .i64 (n1 : Int))
        have g4 : w3.grownBy (w3.setCell ⟨gt, 2, none⟩ (.int .i64 (n1 : Int))) (some gt) := only_set (only_self _ _) 2 _
        have h4 := h3.other g4 hgne hWt
        have k4 : BkAt (w3.setCell ⟨gt, 2, none⟩ (.int .i64 (n1 : Int))) w.heap.size kind last left f1 (.slice C1 m1 d1) f2 (.slice C2 m2 d2) := Arr.far k3 (p := ⟨gt, 2, none⟩) hkt _
        have gg4 := only_row gg3 g4 (fun j hj => by injection hj with hj; have := HGT.out; omega)
        clear kt2 k2 h2 gg2 ct ft c2 kt3 ct3 ft3 k3 h3 g3 g4 gg3
        have kt4 : Blk (w3.setCell ⟨gt, 2, none⟩ (.int .i64 (n1 : Int))) gt 72 #[.int .u8 0, .int .i64 0, .int .i64 (n1 : Int)] := kt4
        generalize w3.setCell ⟨gt, 2, none⟩ (.int .i64 (n1 : Int)) = W4 at *
        go_upto_region 13 with (first
          | (refine load_sub rfl 26 (.tmp 31) rfl rfl k4 17 (by omega) tree_under rfl tree_size (treeH f2 (.slice C2 m2 d2)) (fun i hi => by unfold bkH; rw [if_neg (by omega), if_neg (by omega), Nat.add_sub_cancel_left]) ?_)
          | (go_at_call 79; refine (HY.out _ h4 gg4).mono ?_; rintro e w5 ⟨rfl, h5, g5⟩; have kt5 : Blk w5 gt 72 #[.int .u8 0, .int .i64 0, .int .i64 (n1 : Int)] := Blk.grown kt4 g5 (by intro e; injection e with e; omega))
          | (go_at_call 80; refine (HN2.out _ h5).mono ?_; rintro e w6 ⟨rfl, h6, g6⟩; have kt6 : Blk w6 gt 72 #[.int .u8 0, .int .i64 0, .int .i64 (n1 : Int)] := Blk.grown kt5 g6 (by intro e; injection e with e; omega); have ct6 := Blk.cells kt6; have ft6 := Blk.frozens kt6))
        have kt7 := kt6.set_ 1 (.int .i64 (n2 : Int))
        have g7 : w6.grownBy (w6.setCell ⟨gt, 1, none⟩ (.int .i64 (n2 : Int))) (some gt) := only_set (only_self _ _) 1 _
        have h7 := h6.other g7 hgne hWt
        have gg7 := only_row (only_trans (only_trans gg4 g5) g6) g7 (fun j hj => by injection hj with hj; have := HGT.out; omega)
        clear kt4 k4 h4 gg4 kt5 kt6 ct6 ft6 h5 h6 g5 g6 g7
        have kt7 : Blk (w6.setCell ⟨gt, 1, none⟩ (.int .i64 (n2 : Int))) gt 72 #[.int .u8 0, .int .i64 (n2 : Int), .int .i64 (n1 : Int)] := kt7
        generalize w6.setCell ⟨gt, 1, none⟩ (.int .i64 (n2 : Int)) = W7 at *
        have ct := Blk.cells kt7
        have ft := Blk.frozens kt7
        go_wp2_with fail
        have kz := (((kt7.set_ 0 (.int .u8 0)).set_ 1 (.int .i64 (n2 : Int))).set_ 2 (.int .i64 (n1 : Int)))
        have cz := Blk.cells kz
        have gz : W7.grownBy (((W7.setCell ⟨gt, 0, none⟩ (.int .u8 0)).setCell ⟨gt, 1, none⟩ (.int .i64 (n2 : Int))).setCell ⟨gt, 2, none⟩ (.int .i64 (n1 : Int))) (some gt) := only_set (only_set (only_set (only_self _ _) 0 _) 1 _) 2 _
        refine bodyPost_ret (v := .tuple #[.agg #[.int .u8 0, .int .i64 (n2 : Int), .int .i64 (n1 : Int)], .bool false]) (by simp [results, Tryz.results60, go_sem, cz]) rfl ?_
        refine ⟨0, n2, n1, false, rfl, by rw [HGO.out]; exact (h7).other gz hgne hWt, ?_, HVAL.out⟩
        exact only_row gg7 gz (fun j hj => by injection hj with hj; have := HGT.out; omega)
end Go.Proofs.YtahboomghjdjhaaGreat
