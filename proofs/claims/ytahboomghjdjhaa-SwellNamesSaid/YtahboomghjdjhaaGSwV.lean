/-
  Walks: two blocks compared; a zero block.
-/
import Derived.Test.YtahboomghjdjhaaG37
namespace Go.Proofs.Ytahboomghjdjhaa
open Go.RowKit

/-- A block held as a value, where its rows lie, what they hold. -/
structure Bv where
  kind : Nat
  last : Bool
  left : Int
  f1 : Nat → Int
  C1 : Option Addr
  m1 : Nat
  d1 : Nat
  x1 : List Int
  f2 : Nat → Int
  C2 : Option Addr
  m2 : Nat
  d2 : Nat
  x2 : List Int
structure Bv.ok (v : Bv) (w : World) : Prop where
  r1 : Rd w v.C1 (ints v.x1)
  l1 : v.m1 = v.x1.length
  c1 : v.m1 ≤ v.d1
  b1 : v.m1 ≤ 1001
  r2 : Rd w v.C2 (ints v.x2)
  l2 : v.m2 = v.x2.length
  c2 : v.m2 ≤ v.d2
  b2 : v.m2 ≤ 1001
theorem Bv.ok.below {v : Bv} {w w' : World} (h : v.ok w) (hb : Below w.heap.size w w') : v.ok w' := ⟨h.r1.below hb, h.l1, h.c1, h.b1, h.r2.below hb, h.l2, h.c2, h.b2⟩
abbrev Bv.F (v : Bv) : Nat → Value := bkH (v.kind : Int) v.last v.left v.f1 (.slice v.C1 v.m1 v.d1) v.f2 (.slice v.C2 v.m2 v.d2)
def sameV (a b : Bv) : Bool := decide (a.kind = b.kind) && ((a.last == b.last) && (decide (a.left = b.left) && (sameT a.f1 b.f1 a.x1 b.x1 && sameT a.f2 b.f2 a.x2 b.x2)))
def zeroV : Bv := ⟨0, false, 0, fun _ => 0, none, 0, 0, [], fun _ => 0, none, 0, 0, []⟩
theorem zeroV_ok (w : World) : zeroV.ok w := ⟨Rd.nil_, rfl, Nat.le_refl _, by decide, Rd.nil_, rfl, Nat.le_refl _, by decide⟩

set_option maxRecDepth 100000 in
set_option maxHeartbeats 8000000 in
theorem ssame_any (a b : Bv) (w : World) (ha : a.ok w) (hb : b.ok w) :
    Calls Try.prog 22 #[.agg (cellsOf 37 a.F), .agg (cellsOf 37 b.F)] w fun r w' => r = .returned (.bool (sameV a b)) ∧ Below w.heap.size w w' := by
  have H1 := Lib.hid fun wx (h : Below w.heap.size w wx) => (show Calls Try.prog 28 #[.agg (cellsOf 17 (treeH a.f1 (.slice a.C1 a.m1 a.d1))), .agg (cellsOf 17 (treeH b.f1 (.slice b.C1 b.m1 b.d1)))] wx _ from tsame_any a.f1 b.f1 a.C1 b.C1 a.m1 a.d1 b.m1 b.d1 a.x1 b.x1 wx (ha.r1.below h) (hb.r1.below h) ha.l1 hb.l1 ha.b1 hb.b1)
  have H2 := Lib.hid fun wx (h : Below w.heap.size w wx) => (show Calls Try.prog 28 #[.agg (cellsOf 17 (treeH a.f2 (.slice a.C2 a.m2 a.d2))), .agg (cellsOf 17 (treeH b.f2 (.slice b.C2 b.m2 b.d2)))] wx _ from tsame_any a.f2 b.f2 a.C2 b.C2 a.m2 a.d2 b.m2 b.d2 a.x2 b.x2 wx (ha.r2.below h) (hb.r2.below h) ha.l2 hb.l2 ha.b2 hb.b2)
  clear ha hb
  obtain ⟨ka, la, fa, a1, A1, am1, ad1, ax1, a2, A2, am2, ad2, ax2⟩ := a
  obtain ⟨kb, lb, fb, b1, B1, bm1, bd1, bx1, b2, B2, bm2, bd2, bx2⟩ := b
  dsimp only at H1 H2
  obtain ⟨s1, hs1⟩ : ∃ s, sameT a1 b1 ax1 bx1 = s := ⟨_, rfl⟩
  obtain ⟨s2, hs2⟩ : ∃ s, sameT a2 b2 ax2 bx2 = s := ⟨_, rfl⟩
  rw [hs1] at H1
  rw [hs2] at H2
  have HS : sameV ⟨ka, la, fa, a1, A1, am1, ad1, ax1, a2, A2, am2, ad2, ax2⟩ ⟨kb, lb, fb, b1, B1, bm1, bd1, bx1, b2, B2, bm2, bd2, bx2⟩ = (decide (ka = kb) && ((la == lb) && (decide (fa = fb) && (s1 && s2)))) := by unfold sameV; rw [hs1, hs2]
  rw [HS]
  clear HS hs1 hs2
  obtain ⟨RR, hRR⟩ : ∃ R, (decide (ka = kb) && ((la == lb) && (decide (fa = fb) && (s1 && s2)))) = R := ⟨_, rfl⟩
  rw [hRR]
  have HRR := Lib.hid hRR
  clear hRR
  unfold Bv.F
  dsimp only
  have hb0 : Below w.heap.size w ((w.alloc (.cells (cellsOf 37 (bkH (ka : Int) la fa a1 (.slice A1 am1 ad1) a2 (.slice A2 am2 ad2))) 28)).alloc (.cells (cellsOf 37 (bkH (kb : Int) lb fb b1 (.slice B1 bm1 bd1) b2 (.slice B2 bm2 bd2))) 28)) := ((Below.refl _ _).alloc (Nat.le_refl _) _).alloc (by simp) _
  have k0 : BkAt ((w.alloc (.cells (cellsOf 37 (bkH (ka : Int) la fa a1 (.slice A1 am1 ad1) a2 (.slice A2 am2 ad2))) 28)).alloc (.cells (cellsOf 37 (bkH (kb : Int) lb fb b1 (.slice B1 bm1 bd1) b2 (.slice B2 bm2 bd2))) 28)) w.heap.size ka la fa a1 (.slice A1 am1 ad1) a2 (.slice A2 am2 ad2) := Arr.alloc (Blk.new _ _ _) _
  have k1 : BkAt ((w.alloc (.cells (cellsOf 37 (bkH (ka : Int) la fa a1 (.slice A1 am1 ad1) a2 (.slice A2 am2 ad2))) 28)).alloc (.cells (cellsOf 37 (bkH (kb : Int) lb fb b1 (.slice B1 bm1 bd1) b2 (.slice B2 bm2 bd2))) 28)) (w.heap.size + 1) kb lb fb b1 (.slice B1 bm1 bd1) b2 (.slice B2 bm2 bd2) := Blk.new' _ _ _ _ (by simp)
  go_enter Try.func22, Try.ntmps22
  go_upto_region 1 with (fail)
  change Code.wp _ _ _ _ ((w.alloc (.cells (cellsOf 37 (bkH (ka : Int) la fa a1 (.slice A1 am1 ad1) a2 (.slice A2 am2 ad2))) 28)).alloc (.cells (cellsOf 37 (bkH (kb : Int) lb fb b1 (.slice B1 bm1 bd1) b2 (.slice B2 bm2 bd2))) 28))
  generalize (w.alloc (.cells (cellsOf 37 (bkH (ka : Int) la fa a1 (.slice A1 am1 ad1) a2 (.slice A2 am2 ad2))) 28)).alloc (.cells (cellsOf 37 (bkH (kb : Int) lb fb b1 (.slice B1 bm1 bd1) b2 (.slice B2 bm2 bd2))) 28) = w0 at *
  obtain ⟨ga, hga⟩ : ∃ g, w.heap.size = g := ⟨_, rfl⟩
  obtain ⟨gb, hgb⟩ : ∃ g, w.heap.size + 1 = g := ⟨_, rfl⟩
  rw [hgb] at k1
  rw [hgb]
  have HG := Lib.hid (And.intro hga hgb)
  clear hga hgb
  have c0 : w0.cell? ⟨w.heap.size, 0, none⟩ = some (.int .u8 (ka : Int)) := Arr.cell k0 0 (by omega)
  have c1 : w0.cell? ⟨w.heap.size, 1, none⟩ = some (.bool la) := Arr.cell k0 1 (by omega)
  have c2 : w0.cell? ⟨w.heap.size, 2, none⟩ = some (.int .i64 fa) := Arr.cell k0 2 (by omega)
  have d0 : w0.cell? ⟨gb, 0, none⟩ = some (.int .u8 (kb : Int)) := Arr.cell k1 0 (by omega)
  have d1 : w0.cell? ⟨gb, 1, none⟩ = some (.bool lb) := Arr.cell k1 1 (by omega)
  have d2 : w0.cell? ⟨gb, 2, none⟩ = some (.int .i64 fb) := Arr.cell k1 2 (by omega)
  by_cases h1 : ka = kb
  · subst h1
    by_cases h2 : la = lb
    · subst h2
      have e2 : (la == la) = true := by simp
      by_cases h3 : fa = fb
      · subst h3
        have HR := Lib.hid (show RR = (s1 && s2) by rw [← HRR.out]; simp)
        clear HRR
        cases s1 with
        | false =>
          go_wp2_with (first
            | (refine load_subG (by rfl) 26 (.tmp 27) rfl rfl k1 17 (by omega) tree_under rfl tree_size (treeH b1 (.slice B1 bm1 bd1)) (fun i hi => bkH_t1 _ _ _ _ _ _ _ i hi) ?_)
            | (refine load_subG (by rfl) 26 (.tmp 25) rfl rfl k0 17 (by omega) tree_under rfl tree_size (treeH a1 (.slice A1 am1 ad1)) (fun i hi => bkH_t1 _ _ _ _ _ _ _ i hi) ?_)
            | (go_at_call 28; refine (H1.out _ hb0).mono ?_; rintro e w2 ⟨rfl, h2⟩; have kk0 := Arr.below k0 h2 (Blk.lt k0); have kk1 := Arr.below k1 h2 (Blk.lt k1); have hh2 := hb0.trans (h2.mono hb0.size)))
          go_ret
          exact ⟨by rw [HR.out] <;> rfl, hh2⟩
        | true =>
          go_wp2_with (first
            | (refine load_subG (by rfl) 26 (.tmp 34) rfl rfl kk1 17 (by omega) tree_under rfl tree_size (treeH b2 (.slice B2 bm2 bd2)) (fun i hi => bkH_t2 _ _ _ _ _ _ _ i hi) ?_)
            | (refine load_subG (by rfl) 26 (.tmp 32) rfl rfl kk0 17 (by omega) tree_under rfl tree_size (treeH a2 (.slice A2 am2 ad2)) (fun i hi => bkH_t2 _ _ _ _ _ _ _ i hi) ?_)
            | (refine load_subG (by rfl) 26 (.tmp 27) rfl rfl k1 17 (by omega) tree_under rfl tree_size (treeH b1 (.slice B1 bm1 bd1)) (fun i hi => bkH_t1 _ _ _ _ _ _ _ i hi) ?_)
            | (refine load_subG (by rfl) 26 (.tmp 25) rfl rfl k0 17 (by omega) tree_under rfl tree_size (treeH a1 (.slice A1 am1 ad1)) (fun i hi => bkH_t1 _ _ _ _ _ _ _ i hi) ?_)
            | (go_at_call 28; refine (H2.out _ hh2).mono ?_; rintro e w3 ⟨rfl, h3⟩; have hh3 := hh2.trans (h3.mono hh2.size))
            | (go_at_call 28; refine (H1.out _ hb0).mono ?_; rintro e w2 ⟨rfl, h2⟩; have kk0 := Arr.below k0 h2 (Blk.lt k0); have kk1 := Arr.below k1 h2 (Blk.lt k1); have hh2 := hb0.trans (h2.mono hb0.size)))
          go_ret
          exact ⟨by rw [HR.out] <;> rfl, hh3⟩
      · have e3 : (fa == fb) = false := by rw [beq_eq_false_iff_ne]; exact h3
        have HR := Lib.hid (show RR = false by rw [← HRR.out]; rw [decide_eq_false h3]; simp)
        go_wp2_with fail
        go_ret
        exact ⟨by rw [HR.out] <;> rfl, hb0⟩
    · have e2 : (la == lb) = false := by rw [beq_eq_false_iff_ne]; exact h2
      have HR := Lib.hid (show RR = false by rw [← HRR.out]; rw [e2]; simp)
      go_wp2_with fail
      go_ret
      exact ⟨by rw [HR.out] <;> rfl, hb0⟩
  · have e1 : ((ka : Int) == (kb : Int)) = false := by rw [beq_eq_false_iff_ne]; omega
    have HR := Lib.hid (show RR = false by rw [← HRR.out]; rw [decide_eq_false h1]; rfl)
    go_wp2_with fail
    go_ret
    exact ⟨by rw [HR.out] <;> rfl, hb0⟩
end Go.Proofs.Ytahboomghjdjhaa
