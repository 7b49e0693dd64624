/-
  A stream that came in.
-/
import Derived.ChangeSame
import Derived.Test.YtahboomghjdjhaaGreatG37
import Derived.Test.YtahboomghjdjhaaGreatGOpenT
import Derived.Test.YtahboomghjdjhaaGreatGSwW
namespace Go.Proofs.YtahboomghjdjhaaGreat
open Go.Joins Go.ChangeShapes Go.WideShapes Go.ChangeAt Go.RowKit

/-- A stream that came in, held as a value. -/
structure Wv.inn (s : Wv) (w : World) : Prop where
  rA : Rd w s.A (u8s s.lA)
  bA : ∀ x ∈ s.lA, x < 256
  lenA : s.nA = s.lA.length
  capA : s.nA ≤ s.cA
  mA : s.nA ≤ maxLen
  r1 : Rd w s.bk.C1 (ints s.bk.x1)
  l1 : s.bk.m1 = s.bk.x1.length
  c1 : s.bk.m1 ≤ s.bk.d1
  m1 : s.bk.m1 ≤ maxLen
  r2 : Rd w s.bk.C2 (ints s.bk.x2)
  l2 : s.bk.m2 = s.bk.x2.length
  c2 : s.bk.m2 ≤ s.bk.d2
  m2 : s.bk.m2 ≤ maxLen
  rw_ : Rd w s.Bw (u8s s.lw)
  bw : ∀ x ∈ s.lw, x < 256
  lenw : s.nw = s.lw.length
  capw : s.nw ≤ s.cw
  mw : s.nw ≤ maxLen
  kb : s.bk.kind < 256
  most1 : -9223372036854775808 ≤ s.most ∧ s.most ≤ 9223372036854775807
  made1 : -9223372036854775808 ≤ s.made ∧ s.made ≤ 9223372036854775807
  at1 : -9223372036854775808 ≤ s.at0 ∧ s.at0 ≤ 9223372036854775807
  size1 : -9223372036854775808 ≤ s.size ∧ s.size ≤ 9223372036854775807
  left1 : -9223372036854775808 ≤ s.bk.left ∧ s.bk.left ≤ 9223372036854775807

theorem cells_of_arr {cs : Array Value} {n : Nat} {F : Nat → Value} (hsz : cs.size = n) (h : ∀ i, i < n → cs[i]? = some (F i)) : cs = cellsOf n F := by
  apply Array.ext
  · rw [hsz, cellsOf_size]
  · intro i g2 g3
    have h1 := h i (by omega)
    have h2 := cellsOf_get n F i (by omega)
    rw [Array.getElem?_eq_getElem g2] at h1
    rw [Array.getElem?_eq_getElem g3] at h2
    injection h1 with h1
    injection h2 with h2
    rw [h1, h2]
theorem one_at {cs : List Value} {o : Nat} {v : Value} (h : (cs.drop o).take 1 = [v]) : cs[o]? = some v := by
  have := congrArg (fun l => l[0]?) h
  simpa [List.getElem?_take, List.getElem?_drop] using this
theorem part_at {cs : List Value} {o m : Nat} {F : Nat → Value} (h : ((cs.drop o).take m).toArray = cellsOf m F) (i : Nat) (hi : i < m) : cs[o + i]? = some (F i) := by
  have h1 := cellsOf_get m F i hi
  rw [← h] at h1
  simpa [List.getElem?_take, List.getElem?_drop, hi] using h1

section
variable {H : Type} {enc : TypeId × Value → H} {w : World} {base : Nat} {spare : Nat → Bool} {r : Reach} {b0 : Nat} {v : Value} {d : DataW H} {ps : List MemPlace}
theorem trod_some {fuel : Nat} {t : TypeId} {cs : List Value} {ys : List (DataW H × List MemPlace)} {i n : Nat} (hl : ys.length = n) (hi : i < n) (h : DataW.trod enc Tryz.prog w base spare true fuel t cs = ys[i]?) : ∃ y, DataW.trod enc Tryz.prog w base spare true fuel t cs = some y :=
  ⟨ys[i]'(by omega), h.trans (List.getElem?_eq_getElem (by omega))⟩
theorem bytes_cell {fuel : Nat} {u : Value} {x : DataW H × List MemPlace} (h : DataW.trod enc Tryz.prog w base spare true fuel 22 [u] = some x) : ∃ A l c, u = .slice A l.length c ∧ Rd w A (u8s l) ∧ (∀ z ∈ l, z < 256) ∧ l.length ≤ c ∧ l.length ≤ maxLen := by
  obtain ⟨A, l, c, hu, ⟨hl, hA, hm⟩, hc⟩ := cells_u8sc Tryz.underlying22 Tryz.underlying5 (by kernel_rfl) h
  exact ⟨A, l, c, hu, hl.rd hA, hl.2, hc, hm⟩

set_option maxRecDepth 100000 in
/-- The cells of a block. -/
theorem block_cells {fuel : Nat} {cs : List Value} {x : DataW H × List MemPlace} (h : DataW.trod enc Tryz.prog w base spare true fuel 28 cs = some x) :
    ∃ b : Bv, (∀ i, i < 37 → cs[i]? = some (b.F i)) ∧ (Rd w b.C1 (ints b.x1) ∧ b.m1 = b.x1.length ∧ b.m1 ≤ b.d1 ∧ b.m1 ≤ maxLen) ∧ (Rd w b.C2 (ints b.x2) ∧ b.m2 = b.x2.length ∧ b.m2 ≤ b.d2 ∧ b.m2 ≤ maxLen) ∧ b.kind < 256 ∧ -9223372036854775808 ≤ b.left ∧ b.left ≤ 9223372036854775807 := by
  obtain ⟨ys, n, _, _, hl, hy, hf⟩ := DataW.trod_struct Tryz.underlying28 h
  have e37 : Tryz.prog.cellsOf 28 = 37 := by kernel_rfl
  have e17 : Tryz.prog.cellsOf 26 = 17 := by kernel_rfl
  have e8 : Tryz.prog.cellsOf 5 = 1 := by kernel_rfl
  have eb : Tryz.prog.cellsOf 4 = 1 := by kernel_rfl
  have ei : Tryz.prog.cellsOf 3 = 1 := by kernel_rfl
  have hy5 : ys.length = 5 := hy
  rw [e37] at hl
  obtain ⟨y0, g0⟩ := trod_some hy5 (by omega) (hf 0 _ rfl)
  obtain ⟨y1, g1⟩ := trod_some hy5 (by omega) (hf 1 _ rfl)
  obtain ⟨y2, g2⟩ := trod_some hy5 (by omega) (hf 2 _ rfl)
  obtain ⟨y3, g3⟩ := trod_some hy5 (by omega) (hf 3 _ rfl)
  obtain ⟨y4, g4⟩ := trod_some hy5 (by omega) (hf 4 _ rfl)
  replace g0 : DataW.trod enc Tryz.prog w base spare true n 5 ((cs.drop 0).take (Tryz.prog.cellsOf 5)) = some y0 := g0
  replace g1 : DataW.trod enc Tryz.prog w base spare true n 4 ((cs.drop 1).take (Tryz.prog.cellsOf 4)) = some y1 := g1
  replace g2 : DataW.trod enc Tryz.prog w base spare true n 3 ((cs.drop 2).take (Tryz.prog.cellsOf 3)) = some y2 := g2
  replace g3 : DataW.trod enc Tryz.prog w base spare true n 26 ((cs.drop 3).take (Tryz.prog.cellsOf 26)) = some y3 := g3
  replace g4 : DataW.trod enc Tryz.prog w base spare true n 26 ((cs.drop 20).take (Tryz.prog.cellsOf 26)) = some y4 := g4
  rw [e8] at g0
  rw [eb] at g1
  rw [ei] at g2
  rw [e17] at g3 g4
  obtain ⟨k, hk, _, hkw⟩ := DataW.trod_int Tryz.underlying5 g0
  obtain ⟨la, hla, _⟩ := DataW.trod_bool Tryz.underlying4 g1
  obtain ⟨le, hle, _, hlw⟩ := DataW.trod_int Tryz.underlying3 g2
  obtain ⟨f1, A1, x1, c1, t1, r1, q1, m1⟩ := tree_cells (cs := ((cs.drop 3).take 17).toArray) (by simp; omega) Tryz.underlying26 rfl rfl rfl rfl Tryz.underlying23 (by kernel_rfl) Tryz.underlying3 (by kernel_rfl) Tryz.underlying24 (by kernel_rfl) g3
  obtain ⟨f2, A2, x2, c2, t2, r2, q2, m2⟩ := tree_cells (cs := ((cs.drop 20).take 17).toArray) (by simp; omega) Tryz.underlying26 rfl rfl rfl rfl Tryz.underlying23 (by kernel_rfl) Tryz.underlying3 (by kernel_rfl) Tryz.underlying24 (by kernel_rfl) g4
  have hkb := bounds_u8 hkw
  obtain ⟨k, rfl⟩ := Int.eq_ofNat_of_zero_le hkb.1
  have hlb := bounds_i64 hlw
  refine ⟨⟨k, la, le, f1, A1, x1.length, c1, x1, f2, A2, x2.length, c2, x2⟩, fun i hi => ?_, ⟨r1, rfl, q1, m1⟩, ⟨r2, rfl, q2, m2⟩, by show k < 256; omega, hlb.1, hlb.2⟩
  show _ = some (bkH (k : Int) la le f1 (.slice A1 x1.length c1) f2 (.slice A2 x2.length c2) i)
  unfold bkH
  by_cases h3 : i < 3
  · rw [if_pos h3]
    have : i = 0 ∨ i = 1 ∨ i = 2 := by omega
    rcases this with rfl | rfl | rfl
    · exact one_at hk
    · exact one_at hla
    · exact one_at hle
  · rw [if_neg h3]
    by_cases h20 : i < 20
    · rw [if_pos h20]
      have := part_at t1 (i - 3) (by omega)
      rwa [show 3 + (i - 3) = i by omega] at this
    · rw [if_neg h20]
      have := part_at t2 (i - 20) (by omega)
      rwa [show 20 + (i - 20) = i by omega] at this
set_option maxRecDepth 100000 in
/-- A stream that came in. -/
theorem in_swell (hval : Value.okWide Tryz.prog w r b0 32 v) (hd : DataW.Trod enc Tryz.prog w base spare true 32 v d ps) : ∃ s : Wv, v = .agg (cellsOf 45 s.F) ∧ s.inn w := by
  obtain ⟨cs, rfl, hsz⟩ := okWide_struct Tryz.underlying32 hval
  obtain ⟨fuel, h⟩ := hd
  have e45 : Tryz.prog.cellsOf 32 = 45 := by kernel_rfl
  have e37 : Tryz.prog.cellsOf 28 = 37 := by kernel_rfl
  have ew : Tryz.prog.cellsOf 30 = 2 := by kernel_rfl
  have es : Tryz.prog.cellsOf 22 = 1 := by kernel_rfl
  have eb : Tryz.prog.cellsOf 4 = 1 := by kernel_rfl
  have ei : Tryz.prog.cellsOf 3 = 1 := by kernel_rfl
  rw [e45] at hsz
  have h : DataW.trod enc Tryz.prog w base spare true fuel 32 cs.toList = some (d, ps) := h
  obtain ⟨ys, n, _, _, _, hy, hf⟩ := DataW.trod_struct Tryz.underlying32 h
  have hy8 : ys.length = 8 := hy
  obtain ⟨y0, g0⟩ := trod_some hy8 (by omega) (hf 0 _ rfl)
  obtain ⟨y1, g1⟩ := trod_some hy8 (by omega) (hf 1 _ rfl)
  obtain ⟨y2, g2⟩ := trod_some hy8 (by omega) (hf 2 _ rfl)
  obtain ⟨y3, g3⟩ := trod_some hy8 (by omega) (hf 3 _ rfl)
  obtain ⟨y4, g4⟩ := trod_some hy8 (by omega) (hf 4 _ rfl)
  obtain ⟨y5, g5⟩ := trod_some hy8 (by omega) (hf 5 _ rfl)
  obtain ⟨y6, g6⟩ := trod_some hy8 (by omega) (hf 6 _ rfl)
  obtain ⟨y7, g7⟩ := trod_some hy8 (by omega) (hf 7 _ rfl)
  replace g0 : DataW.trod enc Tryz.prog w base spare true n 3 ((cs.toList.drop 0).take (Tryz.prog.cellsOf 3)) = some y0 := g0
  replace g1 : DataW.trod enc Tryz.prog w base spare true n 3 ((cs.toList.drop 1).take (Tryz.prog.cellsOf 3)) = some y1 := g1
  replace g2 : DataW.trod enc Tryz.prog w base spare true n 22 ((cs.toList.drop 2).take (Tryz.prog.cellsOf 22)) = some y2 := g2
  replace g3 : DataW.trod enc Tryz.prog w base spare true n 3 ((cs.toList.drop 3).take (Tryz.prog.cellsOf 3)) = some y3 := g3
  replace g4 : DataW.trod enc Tryz.prog w base spare true n 28 ((cs.toList.drop 4).take (Tryz.prog.cellsOf 28)) = some y4 := g4
  replace g5 : DataW.trod enc Tryz.prog w base spare true n 4 ((cs.toList.drop 41).take (Tryz.prog.cellsOf 4)) = some y5 := g5
  replace g6 : DataW.trod enc Tryz.prog w base spare true n 30 ((cs.toList.drop 42).take (Tryz.prog.cellsOf 30)) = some y6 := g6
  replace g7 : DataW.trod enc Tryz.prog w base spare true n 4 ((cs.toList.drop 44).take (Tryz.prog.cellsOf 4)) = some y7 := g7
  rw [ei] at g0 g1 g3
  rw [es] at g2
  rw [e37] at g4
  rw [eb] at g5 g7
  rw [ew] at g6
  obtain ⟨mo, hmo, _, bmo⟩ := DataW.trod_int Tryz.underlying3 g0
  obtain ⟨ma, hma, _, bma⟩ := DataW.trod_int Tryz.underlying3 g1
  obtain ⟨aa, haa, _, baa⟩ := DataW.trod_int Tryz.underlying3 g3
  obtain ⟨op, hop, _⟩ := DataW.trod_bool Tryz.underlying4 g5
  obtain ⟨ov, hov, _⟩ := DataW.trod_bool Tryz.underlying4 g7
  have one : ∀ o, o < 45 → ∃ u, (cs.toList.drop o).take 1 = [u] := fun o ho => by
    refine ⟨cs[o]'(by omega), ?_⟩
    apply List.ext_getElem?
    intro i
    cases i with
    | zero => simp [List.getElem?_drop, show o < cs.size by omega]
    | succ i => simp [List.getElem?_take]
  obtain ⟨u2, hu2⟩ := one 2 (by omega)
  rw [hu2] at g2
  obtain ⟨A, lA, cA, hIn, rA, bA, qA, mA⟩ := bytes_cell g2
  subst hIn
  obtain ⟨bk, hbk, hb1, hb2, hkb, hl1, hl2⟩ := block_cells g4
  obtain ⟨zs, n2, _, _, hzl, hz, hzf⟩ := DataW.trod_struct Tryz.underlying30 g6
  have hz2 : zs.length = 2 := hz
  obtain ⟨z0, k0⟩ := trod_some hz2 (by omega) (hzf 0 _ rfl)
  obtain ⟨z1, k1⟩ := trod_some hz2 (by omega) (hzf 1 _ rfl)
  replace k0 : DataW.trod enc Tryz.prog w base spare true n2 3 ((((cs.toList.drop 42).take 2).drop 0).take (Tryz.prog.cellsOf 3)) = some z0 := k0
  replace k1 : DataW.trod enc Tryz.prog w base spare true n2 22 ((((cs.toList.drop 42).take 2).drop 1).take (Tryz.prog.cellsOf 22)) = some z1 := k1
  rw [ei] at k0
  rw [es] at k1
  obtain ⟨sz, hsz2, _, bsz⟩ := DataW.trod_int Tryz.underlying3 k0
  have ed : (((cs.toList.drop 42).take 2).drop 1).take 1 = (cs.toList.drop 43).take 1 := by
    rw [List.drop_take, List.drop_drop, List.take_take]; rfl
  rw [ed] at k1
  obtain ⟨u43, hu43⟩ := one 43 (by omega)
  rw [hu43] at k1
  obtain ⟨Bw, lw, cw, hWn, rw_, bw, qw, mw⟩ := bytes_cell k1
  subst hWn
  have e42 : (cs.toList.drop 42).take 1 = [.int .i64 sz] := by
    rw [← hsz2, List.drop_zero, List.take_take]; rfl
  refine ⟨⟨mo, ma, A, lA.length, cA, lA, aa, bk, op, sz, Bw, lw.length, cw, lw, ov⟩, ?_, ⟨rA, bA, rfl, qA, mA, hb1.1, hb1.2.1, hb1.2.2.1, hb1.2.2.2, hb2.1, hb2.2.1, hb2.2.2.1, hb2.2.2.2, rw_, bw, rfl, qw, mw, hkb, bounds_i64 bmo, bounds_i64 bma, bounds_i64 baa, bounds_i64 bsz, ⟨hl1, hl2⟩⟩⟩
  congr 1
  refine cells_of_arr hsz fun i hi => ?_
  have ht : cs[i]? = cs.toList[i]? := by simp
  rw [ht]
  show _ = some (swH mo ma (.slice A lA.length cA) aa bk.F op sz (.slice Bw lw.length cw) ov i)
  unfold swH
  by_cases h4 : i < 4
  · rw [if_pos h4]
    have : i = 0 ∨ i = 1 ∨ i = 2 ∨ i = 3 := by omega
    rcases this with rfl | rfl | rfl | rfl
    · exact one_at hmo
    · exact one_at hma
    · exact one_at hu2
    · exact one_at haa
  · rw [if_neg h4]
    by_cases h41 : i < 41
    · rw [if_pos h41]
      have := hbk (i - 4) (by omega)
      rw [List.getElem?_take, if_pos (by omega), List.getElem?_drop, show 4 + (i - 4) = i by omega] at this
      exact this
    · rw [if_neg h41]
      have : i = 41 ∨ i = 42 ∨ i = 43 ∨ i = 44 := by omega
      rcases this with rfl | rfl | rfl | rfl
      · exact one_at hop
      · exact one_at e42
      · exact one_at hu43
      · exact one_at hov
end
end Go.Proofs.YtahboomghjdjhaaGreat

/-
  Plain: what a stream is that may be.
-/
namespace Go.Proofs.YtahboomghjdjhaaGreat

/-- A stream that may be, in numbers; its block is that of k. -/
structure CkIs (s : Wv) (k : Option Bk) : Prop where
  op : s.op = k.isSome
  cells : ∀ i, i < 37 → s.bk.F i = bkO k (.slice s.bk.C1 s.bk.m1 s.bk.d1) (.slice s.bk.C2 s.bk.m2 s.bk.d2) i
  blk : ∀ k', k = some k' → BkOk k' ∧ s.bk.x1 = trX k' k'.lo ∧ s.bk.x2 = trX k' k'.fa
  zero : k = none → s.bk.x1 = [] ∧ s.bk.x2 = []
  most : 0 ≤ s.most ∧ s.most ≤ 131072
  made : 0 ≤ s.made ∧ s.made ≤ s.most
  at0 : 0 ≤ s.at0 ∧ s.at0 ≤ 7
  nA : s.nA ≤ 600
  in_ : 0 < s.nA ∨ s.at0 = 0
  over : s.over = true → s.op = false ∧ s.nA = 0
  size : s.size = 32768
  nw : (s.nw : Int) = if 32768 < s.made then 32768 else s.made
theorem zero_cells {v : Bv} (h : sameV v zeroV = true) : ∀ i, i < 37 → v.F i = bkO none (.slice v.C1 v.m1 v.d1) (.slice v.C2 v.m2 v.d2) i := by
  unfold sameV zeroV at h
  simp only [Bool.and_eq_true, decide_eq_true_eq, beq_iff_eq] at h
  obtain ⟨h1, h2, h3, h4, h5⟩ := h
  obtain ⟨e1, _⟩ := sameT_iff.1 h4
  obtain ⟨e2, _⟩ := sameT_iff.1 h5
  intro i hi
  show bkH (v.kind : Int) v.last v.left v.f1 _ v.f2 _ i = bkH 0 false 0 (fun _ => 0) _ (fun _ => 0) _ i
  rw [h1, h2, h3]
  unfold bkH
  split
  · rfl
  · split
    · unfold treeH
      split
      · rw [e1 _ (by assumption)]
      · rfl
    · unfold treeH
      split
      · rw [e2 _ (by assumption)]
      · rfl
theorem zero_rows {v : Bv} (h : sameV v zeroV = true) : v.x1 = [] ∧ v.x2 = [] := by
  unfold sameV zeroV at h
  simp only [Bool.and_eq_true, decide_eq_true_eq, beq_iff_eq] at h
  obtain ⟨h1, h2, h3, h4, h5⟩ := h
  exact ⟨(sameT_iff.1 h4).2, (sameT_iff.1 h5).2⟩
theorem ck_stream {s : Wv} (h : ckS s = true) : ∃ k, CkIs s k := by
  unfold ckS ckN ckI ckW ckO at h
  simp only [Bool.and_eq_true, Bool.or_eq_true, decide_eq_true_eq, Bool.not_eq_true'] at h
  obtain ⟨⟨a1, a2, a3, a4, a5, a6⟩, ⟨b1, b2, b3⟩, ⟨c1, c2⟩, d⟩ := h
  rcases d with ⟨d1, d2⟩ | ⟨d1, d2⟩
  · obtain ⟨k, e1, e2, e3, e4, e5, e6, e7, e8⟩ := ck_is s.bk.last d2
    refine ⟨some k, d1, fun i hi => ?_, fun k' hk' => (by cases hk'; exact ⟨e1, e6, e8⟩), fun hk' => (by cases hk'), ⟨a1, a2⟩, ⟨a3, a4⟩, ⟨a5, a6⟩, b1, b2, fun ho => ?_, c1, c2⟩
    · show bkH (s.bk.kind : Int) s.bk.last s.bk.left s.bk.f1 _ s.bk.f2 _ i = bkH (k.kind : Int) k.last (k.left : Int) (trF k k.lo) _ (trF k k.fa) _ i
      rw [e2, e3, e4]
      unfold bkH
      split
      · rfl
      · split
        · unfold treeH
          split
          · rw [e5 _ (by assumption)]
          · rfl
        · unfold treeH
          split
          · rw [e7 _ (by assumption)]
          · rfl
    · rcases b3 with b3 | b3
      · rw [ho] at b3; cases b3
      · exact b3
  · refine ⟨none, d1, zero_cells d2, fun k' hk' => (by cases hk'), fun _ => zero_rows d2, ⟨a1, a2⟩, ⟨a3, a4⟩, ⟨a5, a6⟩, b1, b2, fun ho => ?_, c1, c2⟩
    rcases b3 with b3 | b3
    · rw [ho] at b3; cases b3
    · exact b3
/-- The cells of a stream, as those of one under way. -/
theorem start_cells {s : Wv} {k : Option Bk} (h : CkIs s k) (hov : s.over = false) (most made a : Nat) (hm : s.most = (most : Int)) (hd : s.made = (made : Int)) (ha : s.at0 = (a : Int)) (u x : Value) (_ : List Nat) (i : Nat) (hi : i < 48) :
    (if i = 43 then x else if i < 45 then s.F i else if i = 45 then u else if i = 46 then .int .i64 s.at0 else .slice none 0 0) = stH (most : Int) ((made + ([] : List Nat).length : Nat) : Int) (.slice s.A s.nA s.cA) s.at0 (bkO k (.slice s.bk.C1 s.bk.m1 s.bk.d1) (.slice s.bk.C2 s.bk.m2 s.bk.d2)) k.isSome x false u (a : Int) (.slice none 0 0) i := by
  unfold stH
  by_cases h43 : i = 43
  · subst h43; rfl
  · rw [if_neg h43]
    by_cases h45 : i < 45
    · rw [if_pos h45]
      show swH s.most s.made (.slice s.A s.nA s.cA) s.at0 s.bk.F s.op s.size (.slice s.Bw s.nw s.cw) s.over i = _
      unfold swH
      rw [h.op, h.size, hov, hm, hd]
      by_cases h4 : i < 4
      · rw [if_pos h4, if_pos h4]; rfl
      · rw [if_neg h4, if_neg h4]
        by_cases h41 : i < 41
        · rw [if_pos h41, if_pos h41]; exact h.cells (i - 4) (by omega)
        · rw [if_neg h41, if_neg h41]
          (repeat' split) <;> first | rfl | omega
    · rw [if_neg h45, ha]
      have h5 : i = 45 ∨ i = 46 ∨ i = 47 := by omega
      rcases h5 with rfl | rfl | rfl <;> rfl
end Go.Proofs.YtahboomghjdjhaaGreat
