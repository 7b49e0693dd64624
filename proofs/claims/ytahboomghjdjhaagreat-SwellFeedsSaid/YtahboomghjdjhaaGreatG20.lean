/-
  Walks: the reference's tables.
-/
import Derived.Deep.WholeRow
import Derived.Test.YtahboomghjdjhaaGreatG19
namespace Go.Proofs.YtahboomghjdjhaaGreat
open Go.RowKit

theorem Blk.setRow {w : World} {g : Nat} {t : TypeId} {cs : Array Value} (h : Blk w g t cs) (cs' : Array Value) : Blk (w.setRow g cs') g t cs' := setRow_heap w g cs cs' t (0, 0) h
theorem Blk.setRow_far {w : World} {g g' : Nat} {t : TypeId} {cs : Array Value} (h : Blk w g t cs) (hne : g ≠ g') (cs' : Array Value) : Blk (w.setRow g' cs') g t cs := (setRow_other w g' g cs' hne).trans h
theorem below_setRow {B : Nat} {a w : World} (h : Below B a w) {g : Nat} (hg : B ≤ g) (cs : Array Value) : Below B a (w.setRow g cs) :=
  h.trans ⟨rfl, rfl, rfl, by simp, fun k hk => setRow_other w g k cs (by omega)⟩

def leastsV (t : List (Nat × Nat × Nat)) : Array Value := (t.map fun s => Value.int .i64 (s.2.1 : Int)).toArray
def bitsV (t : List (Nat × Nat × Nat)) : Array Value := (t.map fun s => Value.int .i64 (s.1 : Int)).toArray

theorem wpOp_plain {P : Program} {ops : Array Oper} {Q : Exit → Act → World → Prop} {i : Nat} {o : Oper} {K : Act → World → Prop} {a : Act} {w : World} (ho : ops[i]? = some o) (hg : o.guard = none) (h : o.wp P a w K Q) : wpOp P ops Q i K a w := by
  unfold wpOp
  rw [ho]
  have hw : Region.wanted o (yielded ops a.tmps) = true := by simp [Region.wanted, hg]
  simp only [hw, if_true]
  exact .inl h
theorem eval_put_same (a : Act) (s : Tmp) (v : Value) (h : s < a.tmps.size) : (a.put (some s) v).eval (.tmp s) = v := by
  simp [Act.put, Act.eval, h]
theorem eval_put_other (a : Act) (s t : Tmp) (v : Value) (h : t ≠ s) : (a.put (some s) v).eval (.tmp t) = a.eval (.tmp t) := by
  simp [Act.put, Act.eval, Ne.symm h]
theorem size_put (a : Act) (s : Option Tmp) (v : Value) : (a.put s v).tmps.size = a.tmps.size := by cases s <;> simp [Act.put]

/-- A region that draws its order: two whole arrays are read, then stored. -/
theorem two_arrays {P : Program} {id : Nat} {Q : Exit → Act → World → Prop} (hm : P.follows .mixedOrders = true) (ops : Array Oper) (o0 o1 o2 o3 : Oper) (hops : ops = #[o0, o1, o2, o3])
    (h0 : Region.ready .any ops #[false, false, false, false] = [0, 1]) (h10 : Region.ready .any ops #[true, false, false, false] = [1, 2]) (h20 : Region.ready .any ops #[true, false, true, false] = [1]) (h01 : Region.ready .any ops #[false, true, false, false] = [0])
    (h2 : Region.ready .any ops #[true, true, false, false] = [2]) (h3 : Region.ready .any ops #[true, true, true, false] = [3]) (h4 : Region.ready .any ops #[true, true, true, true] = [])
    (ty : TypeId) (d : TypeDesc) (hu : P.underlying ty = some d) (hd : (match d with | .struct _ | .array _ _ => true | _ => false) = true)
    (A B X Y : Tmp) (s0 s1 : Tmp) (e0 : o0.op = .load ty (.tmp A)) (e1 : o1.op = .load ty (.tmp B)) (e2 : o2.op = .store ty (.tmp X) (.tmp s0)) (e3 : o3.op = .store ty (.tmp Y) (.tmp s1))
    (d0 : o0.dst = some s0) (d1 : o1.dst = some s1) (d2 : o2.dst = none) (d3 : o3.dst = none) (g0 : o0.guard = none) (g1 : o1.guard = none) (g2 : o2.guard = none) (g3 : o3.guard = none)
    (hs : s0 ≠ s1) (hA : A ≠ s0 ∧ A ≠ s1) (hB : B ≠ s0 ∧ B ≠ s1) (hX : X ≠ s0 ∧ X ≠ s1) (hY : Y ≠ s0 ∧ Y ≠ s1)
    (a : Act) (w : World) (ba bb bx by_ : Nat) (ca cb cx cy : Array Value) (t : TypeId) (ha : a.eval (.tmp A) = .pointer (some ⟨ba, 0, none⟩)) (hb : a.eval (.tmp B) = .pointer (some ⟨bb, 0, none⟩))
    (hx : a.eval (.tmp X) = .pointer (some ⟨bx, 0, none⟩)) (hy : a.eval (.tmp Y) = .pointer (some ⟨by_, 0, none⟩))
    (ka : Blk w ba t ca) (kb : Blk w bb t cb) (kx : Blk w bx t cx) (ky : Blk w by_ t cy) (hxy : by_ ≠ bx) (hbx : bb ≠ bx)
    (ia : (P.info? ty).map (·.size) = some ca.size) (ib : (P.info? ty).map (·.size) = some cb.size) (ix : cx.size = ca.size) (iy : cy.size = cb.size) (na : ca.all (·.oneCell') = true) (nb : cb.all (·.oneCell') = true)
    (sz0 : s0 < a.tmps.size) (sz1 : s1 < a.tmps.size)
    (h : Q .normal ((a.put (some s0) (.agg ca)).put (some s1) (.agg cb)) ((w.drew.setRow bx ca).setRow by_ cb)) : (Code.region id ops true).wp P Q a w := by
  subst hops
  refine wp_region_any hm ?_
  show wpAny P .any #[o0, o1, o2, o3] Q 4 #[false, false, false, false] a w.drew
  -- behind both loads and the first store
  have rest1 : ∀ a' : Act, a' = (a.put (some s0) (.agg ca)).put (some s1) (.agg cb) → wpAny P .any #[o0, o1, o2, o3] Q 1 #[true, true, true, false] a' (w.drew.setRow bx ca) := by
    rintro a' rfl
    have v1 : ((a.put (some s0) (.agg ca)).put (some s1) (.agg cb)).eval (.tmp s1) = .agg cb := by rw [eval_put_same _ _ _ (by rw [size_put]; exact sz1)]
    have vy : ((a.put (some s0) (.agg ca)).put (some s1) (.agg cb)).eval (.tmp Y) = .pointer (some ⟨by_, 0, none⟩) := by rw [eval_put_other _ _ _ _ hY.2, eval_put_other _ _ _ _ hY.1, hy]
    refine wpAny_all h3 (by simp) fun i hi => ?_
    obtain rfl : i = 3 := by simpa using hi
    refine wpOp_plain (o := o3) rfl g3 (wp_store_row ty (.tmp Y) (.tmp s1) e3 by_ cb vy v1 t cy (Blk.setRow_far (w := w.drew) ky hxy ca) ib iy nb ?_)
    rw [d3]
    show wpAny P .any #[o0, o1, o2, o3] Q 0 #[true, true, true, true] _ _
    exact wpAny_done h4 h 0
  -- behind both loads
  have rest : ∀ a' : Act, a' = (a.put (some s0) (.agg ca)).put (some s1) (.agg cb) → wpAny P .any #[o0, o1, o2, o3] Q 2 #[true, true, false, false] a' w.drew := by
    rintro a' rfl
    have v0 : ((a.put (some s0) (.agg ca)).put (some s1) (.agg cb)).eval (.tmp s0) = .agg ca := by rw [eval_put_other _ _ _ _ hs, eval_put_same _ _ _ sz0]
    have vx : ((a.put (some s0) (.agg ca)).put (some s1) (.agg cb)).eval (.tmp X) = .pointer (some ⟨bx, 0, none⟩) := by rw [eval_put_other _ _ _ _ hX.2, eval_put_other _ _ _ _ hX.1, hx]
    refine wpAny_all h2 (by simp) fun i hi => ?_
    obtain rfl : i = 2 := by simpa using hi
    refine wpOp_plain (o := o2) rfl g2 (wp_store_row ty (.tmp X) (.tmp s0) e2 bx ca vx v0 t cx kx ia ix na ?_)
    rw [d2]
    exact rest1 _ rfl
  refine wpAny_all h0 (by simp) fun i hi => ?_
  rcases (by simpa using hi : i = 0 ∨ i = 1) with rfl | rfl
  · refine wpOp_plain (o := o0) rfl g0 (wp_load_row ty (.tmp A) e0 ba ha t ca (0, 0) d ka hu hd ia ?_)
    rw [d0]
    show wpAny P .any #[o0, o1, o2, o3] Q 3 #[true, false, false, false] _ _
    refine wpAny_all h10 (by simp) fun i hi => ?_
    rcases (by simpa using hi : i = 1 ∨ i = 2) with rfl | rfl
    · refine wpOp_plain (o := o1) rfl g1 (wp_load_row ty (.tmp B) e1 bb (by rw [eval_put_other _ _ _ _ hB.1, hb]) t cb (0, 0) d kb hu hd ib ?_)
      rw [d1]
      exact rest _ rfl
    · refine wpOp_plain (o := o2) rfl g2 (wp_store_row ty (.tmp X) (.tmp s0) e2 bx ca (by rw [eval_put_other _ _ _ _ hX.1, hx]) (eval_put_same _ _ _ sz0) t cx kx ia ix na ?_)
      rw [d2]
      show wpAny P .any #[o0, o1, o2, o3] Q 2 #[true, false, true, false] (a.put (some s0) (.agg ca)) _
      refine wpAny_all h20 (by simp) fun i hi => ?_
      obtain rfl : i = 1 := by simpa using hi
      refine wpOp_plain (o := o1) rfl g1 (wp_load_row ty (.tmp B) e1 bb (by rw [eval_put_other _ _ _ _ hB.1, hb]) t cb (0, 0) d (Blk.setRow_far (w := w.drew) kb hbx ca) hu hd ib ?_)
      rw [d1]
      exact rest1 _ rfl
  · refine wpOp_plain (o := o1) rfl g1 (wp_load_row ty (.tmp B) e1 bb hb t cb (0, 0) d kb hu hd ib ?_)
    rw [d1]
    show wpAny P .any #[o0, o1, o2, o3] Q 3 #[false, true, false, false] _ _
    refine wpAny_all h01 (by simp) fun i hi => ?_
    obtain rfl : i = 0 := by simpa using hi
    refine wpOp_plain (o := o0) rfl g0 (wp_load_row ty (.tmp A) e0 ba (by rw [eval_put_other _ _ _ _ hA.2, ha]) t ca (0, 0) d ka hu hd ia ?_)
    rw [d0]
    exact rest _ (Act.put_comm _ _ _ (by simpa using hs))

theorem wpList_build_to {P : Program} {ops : Array Oper} {rest : List Oper} {o : Oper} {a : Act} {w : World} {Q : Exit → Act → World → Prop} (hg : o.guard = none) (t : TypeId) (parts : Array (Nat × Operand)) (ho : o.op = .build t parts) (cells : Array Value)
    (hc : P.built t (parts.map fun (i, x) => (i, a.eval x)).toList = some cells)
    (h : wpList P ops Q rest (a.put o.dst (.agg cells)) w) : wpList P ops Q (o :: rest) a w :=
  wpList_build hg t parts ho (by rw [hc]; rfl) (by rw [hc]; exact h)
theorem wpList_store_new {P : Program} {ops : Array Oper} {rest : List Oper} {o : Oper} {a : Act} {W : World} {Q : Exit → Act → World → Prop} (hgd : o.guard = none) (ty : TypeId) (x y : Operand) (ho : o.op = .store ty x y)
    (g : Nat) (cells : Array Value) (hx : a.eval x = .pointer (some ⟨g, 0, none⟩)) (hy : a.eval y = .agg cells) (hgs : g = W.heap.size)
    (t : TypeId) (old : Array Value) (hi : (P.info? ty).map (·.size) = some cells.size)
    (hold : old.size = cells.size) (h1 : cells.all (·.oneCell') = true)
    (h : wpList P ops Q rest (a.put o.dst undef) (W.alloc (.cells cells t))) : wpList P ops Q (o :: rest) a (W.alloc (.cells old t)) := by
  subst hgs
  refine wpList_store_row hgd ty x y ho W.heap.size cells hx hy t old (heap_alloc_last W _) hi hold h1 ?_
  rw [World.setRow_alloc_new]
  exact h

theorem results_two_rows {P : Program} {fn : Func} {p q : Tmp} {ty : TypeId} (h : fn.results = #[.cell p ty, .cell q ty]) (tmps : Array Value) (w : World) (g g' : Nat) (t : TypeId) (cs cs' : Array Value) (d : TypeDesc)
    (hp : tmps.getD p undef = .pointer (some ⟨g, 0, none⟩)) (hq : tmps.getD q undef = .pointer (some ⟨g', 0, none⟩)) (hg : Blk w g t cs) (hg' : Blk w g' t cs')
    (hu : P.underlying ty = some d) (hd : (match d with | .struct _ | .array _ _ => true | _ => false) = true) (hi : (P.info? ty).map (·.size) = some cs.size) (hi' : (P.info? ty).map (·.size) = some cs'.size) :
    (results fn tmps).run P w = .ok (.tuple #[.agg cs, .agg cs']) w := by
  have hp' : tmps[p]?.getD undef = .pointer (some ⟨g, 0, none⟩) := by simpa using hp
  have hq' : tmps[q]?.getD undef = .pointer (some ⟨g', 0, none⟩) := by simpa using hq
  simp [results, h, hp', hq', asAddr, run_loadVar_row w g t ty cs (0, 0) d hg hu hd hi, run_loadVar_row w g' t ty cs' (0, 0) d hg' hu hd hi']

set_option maxHeartbeats 400000 in
set_option maxRecDepth 100000 in
theorem rlongs_any (w : World) :
    Calls Tryz.prog 94 #[] w fun e w' => 
      e = .returned (.tuple #[.agg (leastsV longT), .agg (bitsV longT)]) ∧ Below w.heap.size w w' := by
  go_enter Tryz.func94, Tryz.ntmps94
  go_wp2_with (first
    | (refine wpList_build_to (a := ⟨#[_, _, _, _, undef, undef, _, _], _⟩) rfl _ _ rfl (leastsV longT) (by kernel_rfl) ?_)
    | (refine wpList_build_to rfl _ _ rfl (bitsV longT) (by kernel_rfl) ?_)
    | (refine wpList_store_new rfl _ _ _ rfl _ (leastsV longT) rfl rfl (by simp) _ _ (by kernel_rfl) rfl (by kernel_rfl) ?_)
    | (refine wpList_store_new rfl _ _ _ rfl _ (bitsV longT) rfl rfl (by simp) _ _ (by kernel_rfl) rfl (by kernel_rfl) ?_))
  refine two_arrays (by kernel_rfl) _ _ _ _ _ rfl (by kernel_rfl) (by kernel_rfl) (by kernel_rfl) (by kernel_rfl) (by kernel_rfl) (by kernel_rfl) (by kernel_rfl) 156 _ Tryz.underlying156 rfl 2 3 0 1 6 7 rfl rfl rfl rfl rfl rfl rfl rfl rfl rfl rfl rfl (by decide) (by decide) (by decide) (by decide) (by decide)
    _ _ (w.heap.size + 2) (w.heap.size + 3) w.heap.size (w.heap.size + 1) (leastsV longT) (bitsV longT) _ _ 156 rfl rfl rfl rfl
    ((Blk.new' _ _ _ _ (by simp)).alloc _) (Blk.new' _ _ _ _ (by simp)) ((((Blk.new' _ _ _ _ (by simp)).alloc _).alloc _).alloc _) (((Blk.new' _ _ _ _ (by simp)).alloc _).alloc _) (by omega) (by omega) (by kernel_rfl) (by kernel_rfl) rfl rfl (by kernel_rfl) (by kernel_rfl) (by simp [Act.put]) (by simp [Act.put]) ?_
  go_wp2_with fail
  refine bodyPost_ret (results_two_rows Tryz.results94 _ _ w.heap.size (w.heap.size + 1) 156 (leastsV longT) (bitsV longT) _ rfl rfl ?_ ?_ Tryz.underlying156 rfl (by kernel_rfl) (by kernel_rfl)) rfl ⟨rfl, ?_⟩
  · exact Blk.setRow_far (Blk.setRow (Blk.drew ((((Blk.new' _ _ _ _ (by simp)).alloc _).alloc _).alloc _)) _) (by omega) _
  · exact Blk.setRow (Blk.setRow_far (Blk.drew (((Blk.new' _ _ _ _ (by simp)).alloc _).alloc _)) (by omega) _) _
  · exact below_setRow (below_setRow ((((((Below.refl _ _).alloc (Nat.le_refl _) _).alloc (by simp) _).alloc (by simp; omega) _).alloc (by simp; omega) _).drew) (Nat.le_refl _) _) (by omega) _

set_option maxHeartbeats 400000 in
set_option maxRecDepth 100000 in
theorem rfars_any (w : World) :
    Calls Tryz.prog 95 #[] w fun e w' => 
      e = .returned (.tuple #[.agg (leastsV farT), .agg (bitsV farT)]) ∧ Below w.heap.size w w' := by
  go_enter Tryz.func95, Tryz.ntmps95
  go_wp2_with (first
    | (refine wpList_build_to (a := ⟨#[_, _, _, _, undef, undef, _, _], _⟩) rfl _ _ rfl (leastsV farT) (by kernel_rfl) ?_)
    | (refine wpList_build_to rfl _ _ rfl (bitsV farT) (by kernel_rfl) ?_)
    | (refine wpList_store_new rfl _ _ _ rfl _ (leastsV farT) rfl rfl (by simp) _ _ (by kernel_rfl) rfl (by kernel_rfl) ?_)
    | (refine wpList_store_new rfl _ _ _ rfl _ (bitsV farT) rfl rfl (by simp) _ _ (by kernel_rfl) rfl (by kernel_rfl) ?_))
  refine two_arrays (by kernel_rfl) _ _ _ _ _ rfl (by kernel_rfl) (by kernel_rfl) (by kernel_rfl) (by kernel_rfl) (by kernel_rfl) (by kernel_rfl) (by kernel_rfl) 159 _ Tryz.underlying159 rfl 2 3 0 1 6 7 rfl rfl rfl rfl rfl rfl rfl rfl rfl rfl rfl rfl (by decide) (by decide) (by decide) (by decide) (by decide)
    _ _ (w.heap.size + 2) (w.heap.size + 3) w.heap.size (w.heap.size + 1) (leastsV farT) (bitsV farT) _ _ 159 rfl rfl rfl rfl
    ((Blk.new' _ _ _ _ (by simp)).alloc _) (Blk.new' _ _ _ _ (by simp)) ((((Blk.new' _ _ _ _ (by simp)).alloc _).alloc _).alloc _) (((Blk.new' _ _ _ _ (by simp)).alloc _).alloc _) (by omega) (by omega) (by kernel_rfl) (by kernel_rfl) rfl rfl (by kernel_rfl) (by kernel_rfl) (by simp [Act.put]) (by simp [Act.put]) ?_
  go_wp2_with fail
  refine bodyPost_ret (results_two_rows Tryz.results95 _ _ w.heap.size (w.heap.size + 1) 159 (leastsV farT) (bitsV farT) _ rfl rfl ?_ ?_ Tryz.underlying159 rfl (by kernel_rfl) (by kernel_rfl)) rfl ⟨rfl, ?_⟩
  · exact Blk.setRow_far (Blk.setRow (Blk.drew ((((Blk.new' _ _ _ _ (by simp)).alloc _).alloc _).alloc _)) _) (by omega) _
  · exact Blk.setRow (Blk.setRow_far (Blk.drew (((Blk.new' _ _ _ _ (by simp)).alloc _).alloc _)) (by omega) _) _
  · exact below_setRow (below_setRow ((((((Below.refl _ _).alloc (Nat.le_refl _) _).alloc (by simp) _).alloc (by simp; omega) _).alloc (by simp; omega) _).drew) (Nat.le_refl _) _) (by omega) _

theorem setRow_alloc_past (w : World) (o : Obj) (g : Nat) (cs : Array Value) (h : g < w.heap.size) : (w.alloc o).setRow g cs = (w.setRow g cs).alloc o := by
  simp only [World.setRow, World.alloc]
  congr 1
  apply Array.ext_getElem?
  intro i
  simp only [Array.getElem?_modify, Array.getElem?_push, Array.size_modify]
  by_cases hi : i = w.heap.size
  · subst hi
    have h1 : ¬ g = w.heap.size := by omega
    simp [h1]
  · by_cases hg : g = i <;> simp [hi, hg]

theorem wpList_store_new2 {P : Program} {ops : Array Oper} {rest : List Oper} {o : Oper} {a : Act} {W : World} {Q : Exit → Act → World → Prop} (hgd : o.guard = none) (ty : TypeId) (x y : Operand) (ho : o.op = .store ty x y)
    (g : Nat) (cells : Array Value) (hx : a.eval x = .pointer (some ⟨g, 0, none⟩)) (hy : a.eval y = .agg cells) (hgs : g = W.heap.size)
    (t : TypeId) (old : Array Value) (O : Obj) (hi : (P.info? ty).map (·.size) = some cells.size)
    (hold : old.size = cells.size) (h1 : cells.all (·.oneCell') = true)
    (h : wpList P ops Q rest (a.put o.dst undef) ((W.alloc (.cells cells t)).alloc O)) : wpList P ops Q (o :: rest) a ((W.alloc (.cells old t)).alloc O) := by
  subst hgs
  refine wpList_store_row hgd ty x y ho W.heap.size cells hx hy t old ((Blk.new W t old).alloc O) hi hold h1 ?_
  rw [setRow_alloc_past _ _ _ _ (by simp), World.setRow_alloc_new]
  exact h

/-- The last row among the first i whose least number is at most n. -/
def lastLe (t : List (Nat × Nat × Nat)) (n : Int) : Nat → Nat
  | 0 => 0
  | i + 1 => if ((rowT t i).2.1 : Int) ≤ n then i else lastLe t n i
theorem leastsV_at (t : List (Nat × Nat × Nat)) (i : Nat) (hi : i < t.length) : (leastsV t)[i]? = some (.int .i64 ((rowT t i).2.1 : Int)) := by
  simp [leastsV, rowT, List.getElem?_eq_getElem hi]
theorem bitsV_at (t : List (Nat × Nat × Nat)) (i : Nat) (hi : i < t.length) : (bitsV t)[i]? = some (.int .i64 ((rowT t i).1 : Int)) := by
  simp [bitsV, rowT, List.getElem?_eq_getElem hi]
end Go.Proofs.YtahboomghjdjhaaGreat

/-
  Walks: the reference's Long and Far.
-/
namespace Go.Proofs.YtahboomghjdjhaaGreat
open Go.RowKit

set_option maxHeartbeats 400000 in
theorem rpower_any (n : Nat) (w : World) (hn : n ≤ 32) :
    Calls Tryz.prog 96 #[.int .i64 n] w fun e w' => e = .returned (.int .i64 ((2 ^ n : Nat) : Int)) ∧ w = w' := by
  go_enter Tryz.func96, Tryz.ntmps96
  go_wp2
  go_loop [3, 4] (fun p i => ∃ k : Nat, k ≤ n ∧ i = .int .i64 k ∧ p = .int .i64 ((2 ^ k : Nat) : Int)) (fun _ i => n - (intOf i).toNat)
  case atStart => exact ⟨0, by omega, rfl, rfl⟩
  case round =>
    obtain ⟨k, hk, rfl, rfl⟩ := hrel
    by_cases hlt : k < n
    · have hp : 2 ^ k ≤ 2 ^ 31 := Nat.pow_le_pow_right (by omega) (by omega)
      generalize hq : 2 ^ k = q at *
      have Hq := Lib.hid hq; clear hq
      go_wp2
      go_round
      case rel => exact ⟨k + 1, by omega, by go_num, by rw [Nat.pow_succ, Hq.out]; go_num⟩
      case measure => simp [intOf]; omega
    · go_wp2
      go_ret
      exact ⟨ret_int (by rw [show n = k by omega]), rfl⟩

theorem rLongBits_bad (sym : Int) (w : World) (h : sym < 257 ∨ 285 < sym) :
    Calls Tryz.prog 68 #[.int .i64 sym] w fun e w' => e = .returned (.tuple #[.int .i64 0, .int .i64 90]) ∧ Below w.heap.size w w' := by
  by_cases ha : sym < 257
  · clear h
    go_enter Tryz.func68, Tryz.ntmps68
    go_wp2_with fail
    go_ret2
    exact ⟨rfl, Below.refl _ _⟩
  · have hb : 285 < sym := by omega
    clear h
    go_enter Tryz.func68, Tryz.ntmps68
    go_wp2_with fail
    go_ret2
    exact ⟨rfl, Below.refl _ _⟩

set_option maxHeartbeats 400000 in
set_option maxRecDepth 100000 in
theorem rLongBits_ok (i : Nat) (w : World) (hi : i < 29) (sym : Int) (hsym : sym = 257 + i) :
    Calls Tryz.prog 68 #[.int .i64 sym] w fun e w' => e = .returned (.tuple #[.int .i64 (rowT longT i).1, .int .i64 0]) ∧ Below w.heap.size w w' := by
  subst hsym
  have e1 : ((257 : Int) + i - 257) = i := by omega
  go_enter Tryz.func68, Tryz.ntmps68
  go_wp2_with fail
  refine (rlongs_any _).mono ?_
  rintro e w1 ⟨rfl, hb1⟩
  go_wp2_with (first
    | (refine wpList_store_new2 rfl _ _ _ rfl _ (leastsV longT) rfl rfl (by simp) _ _ _ (by kernel_rfl) rfl (by kernel_rfl) ?_)
    | (refine wpList_store_new rfl _ _ _ rfl _ (bitsV longT) rfl rfl (by simp) _ _ (by kernel_rfl) rfl (by kernel_rfl) ?_
       have hb2 : Below w.heap.size w ((w1.alloc (.cells (leastsV longT) 156)).alloc (.cells (bitsV longT) 156)) := (hb1.alloc hb1.size _).alloc (by have := hb1.size; simp; omega) _
       have L : Blk ((w1.alloc (.cells (leastsV longT) 156)).alloc (.cells (bitsV longT) 156)) w1.heap.size 156 (leastsV longT) := (Blk.new w1 _ _).alloc _
       have R : Blk ((w1.alloc (.cells (leastsV longT) 156)).alloc (.cells (bitsV longT) 156)) (w1.heap.size + 1) 156 (bitsV longT) := Blk.new' _ _ _ _ (by simp)
       generalize (w1.alloc (.cells (leastsV longT) 156)).alloc (.cells (bitsV longT) 156) = W at *
       have hd := (R.cell i).trans (bitsV_at longT i hi)
       clear L R hb1))
  go_ret2
  exact ⟨rfl, hb2⟩

theorem rLongOf_bad (sym extra : Int) (w : World) (h : sym < 257 ∨ 285 < sym) :
    Calls Tryz.prog 70 #[.int .i64 sym, .int .i64 extra] w fun e w' => e = .returned (.tuple #[.int .i64 0, .int .i64 90]) ∧ Below w.heap.size w w' := by
  have H := Lib.hid h; clear h
  go_enter Tryz.func70, Tryz.ntmps70
  go_wp2_with fail
  refine (rLongBits_bad sym _ H.out).mono ?_
  rintro e w1 ⟨rfl, hb1⟩
  go_wp2_with fail
  go_ret2
  exact ⟨rfl, hb1⟩

theorem rFarBits_bad (sym : Int) (w : World) (h : sym < 0 ∨ 29 < sym) :
    Calls Tryz.prog 69 #[.int .i64 sym] w fun e w' => e = .returned (.tuple #[.int .i64 0, .int .i64 90]) ∧ Below w.heap.size w w' := by
  by_cases ha : sym < 0
  · clear h
    go_enter Tryz.func69, Tryz.ntmps69
    go_wp2_with fail
    go_ret2
    exact ⟨rfl, Below.refl _ _⟩
  · have hb : 29 < sym := by omega
    clear h
    go_enter Tryz.func69, Tryz.ntmps69
    go_wp2_with fail
    go_ret2
    exact ⟨rfl, Below.refl _ _⟩

set_option maxHeartbeats 400000 in
set_option maxRecDepth 100000 in
theorem rFarBits_ok (i : Nat) (w : World) (hi : i < 30) (sym : Int) (hsym : sym = i) :
    Calls Tryz.prog 69 #[.int .i64 sym] w fun e w' => e = .returned (.tuple #[.int .i64 (rowT farT i).1, .int .i64 0]) ∧ Below w.heap.size w w' := by
  subst hsym
  go_enter Tryz.func69, Tryz.ntmps69
  go_wp2_with fail
  refine (rfars_any _).mono ?_
  rintro e w1 ⟨rfl, hb1⟩
  go_wp2_with (first
    | (refine wpList_store_new2 rfl _ _ _ rfl _ (leastsV farT) rfl rfl (by simp) _ _ _ (by kernel_rfl) rfl (by kernel_rfl) ?_)
    | (refine wpList_store_new rfl _ _ _ rfl _ (bitsV farT) rfl rfl (by simp) _ _ (by kernel_rfl) rfl (by kernel_rfl) ?_
       have hb2 : Below w.heap.size w ((w1.alloc (.cells (leastsV farT) 159)).alloc (.cells (bitsV farT) 159)) := (hb1.alloc hb1.size _).alloc (by have := hb1.size; simp; omega) _
       have L : Blk ((w1.alloc (.cells (leastsV farT) 159)).alloc (.cells (bitsV farT) 159)) w1.heap.size 159 (leastsV farT) := (Blk.new w1 _ _).alloc _
       have R : Blk ((w1.alloc (.cells (leastsV farT) 159)).alloc (.cells (bitsV farT) 159)) (w1.heap.size + 1) 159 (bitsV farT) := Blk.new' _ _ _ _ (by simp)
       generalize (w1.alloc (.cells (leastsV farT) 159)).alloc (.cells (bitsV farT) 159) = W at *
       have hd := (R.cell i).trans (bitsV_at farT i hi)
       clear L R hb1))
  go_ret2
  exact ⟨rfl, hb2⟩

theorem rFarOf_bad (sym extra : Int) (w : World) (h : sym < 0 ∨ 29 < sym) :
    Calls Tryz.prog 71 #[.int .i64 sym, .int .i64 extra] w fun e w' => e = .returned (.tuple #[.int .i64 0, .int .i64 90]) ∧ Below w.heap.size w w' := by
  have H := Lib.hid h; clear h
  go_enter Tryz.func71, Tryz.ntmps71
  go_wp2_with fail
  refine (rFarBits_bad sym _ H.out).mono ?_
  rintro e w1 ⟨rfl, hb1⟩
  go_wp2_with fail
  go_ret2
  exact ⟨rfl, hb1⟩
end Go.Proofs.YtahboomghjdjhaaGreat

/-
  Walks: the reference's LongOf and FarOf.
-/
namespace Go.Proofs.YtahboomghjdjhaaGreat
open Go.RowKit

set_option maxHeartbeats 1600000 in
set_option maxRecDepth 100000 in
theorem rLongOf_ok (i : Nat) (extra : Int) (w : World) (hi : i < 29) (sym : Int) (hsym : sym = 257 + i) (h3 : -9223372036854775808 ≤ extra) (h4 : extra ≤ 9223372036854775807) :
    Calls Tryz.prog 70 #[.int .i64 sym, .int .i64 extra] w fun e w' => e = .returned (.tuple #[.int .i64 (numV 257 longT sym extra), .int .i64 (numE 257 longT sym extra)]) ∧ Below w.heap.size w w' := by
  have hn : ¬ (sym < ((257 : Nat) : Int) ∨ ((257 : Nat) : Int) + (longT).length ≤ sym) := by
    have : (longT).length = 29 := rfl
    omega
  have ei : (sym - ((257 : Nat) : Int)).toNat = i := by omega
  have hE : numE 257 longT sym extra = if extra < 0 ∨ ((2 ^ (rowT longT i).1 : Nat) : Int) ≤ extra then 2 else if ((rowT longT i).2.2 : Int) ≤ extra then 90 else 0 := by simp only [numE, if_neg hn, ei]
  have hV : numV 257 longT sym extra = if numE 257 longT sym extra = 0 then (rowT longT i).2.1 + extra else 0 := by simp only [numV, ei]
  have hrow : (rowT longT i).1 ≤ 20 ∧ (rowT longT i).2.1 ≤ 100000 ∧ ((rowT longT i).2.2 = 2 ^ (rowT longT i).1 ∨ i = 27 ∧ (rowT longT i).1 = 5 ∧ (rowT longT i).2.2 = 31) := by
    have : ∀ k, k < 29 → (rowT longT k).1 ≤ 20 ∧ (rowT longT k).2.1 ≤ 100000 ∧ ((rowT longT k).2.2 = 2 ^ (rowT longT k).1 ∨ k = 27 ∧ (rowT longT k).1 = 5 ∧ (rowT longT k).2.2 = 31) := by decide
    exact this i hi
  have e1 : ((257 : Int) + i - 257) = i := by omega
  have hsy := fun w => rLongBits_ok i w hi sym hsym
  generalize numE 257 longT sym extra = E at *
  generalize numV 257 longT sym extra = V at *
  have hrd := rowT longT i
  generalize hr : rowT longT i = r at *
  have Hr := Lib.hid hr; clear hr hrd
  obtain ⟨rb, rl, rm⟩ := r
  dsimp only at hrow hE hV hsy
  obtain ⟨hr1, hr2, hr3⟩ := hrow
  have HS := Lib.hid hsy
  clear hsy hn ei
  subst hsym
  by_cases ha : extra < 0
  · obtain rfl : E = 2 := by rw [hE]; simp [ha]
    obtain rfl : V = 0 := by rw [hV]; simp
    clear hE hV hr3
    go_enter Tryz.func70, Tryz.ntmps70
    go_wp2_with fail
    refine (HS.out _).mono ?_
    rintro e w1 ⟨rfl, hb1⟩
    go_wp2_with fail
    go_ret2
    exact ⟨rfl, hb1⟩
  · have hp : 2 ^ rb ≤ 2 ^ 20 := pow2_le _ _ hr1
    generalize hP : 2 ^ rb = P at *
    have HP := Lib.hid hP; clear hP
    by_cases hb : (P : Int) ≤ extra
    · obtain rfl : E = 2 := by rw [hE]; simp [hb]
      obtain rfl : V = 0 := by rw [hV]; simp
      clear hE hV hr3
      go_enter Tryz.func70, Tryz.ntmps70
      go_wp2_with fail
      refine (HS.out _).mono ?_
      rintro e w1 ⟨rfl, hb1⟩
      go_wp2_with fail
      refine (rpower_any rb _ (by omega)).mono ?_
      rintro e w2 ⟨rfl, rfl⟩
      rw [HP.out]
      go_wp2_with fail
      go_ret2
      exact ⟨rfl, hb1⟩
    · have hp2 : 0 < P := by rw [← HP.out]; exact Nat.two_pow_pos _
      by_cases hc : (rm : Int) ≤ extra
      · obtain rfl : E = 90 := by rw [hE]; simp [ha, hb, hc]
        obtain rfl : V = 0 := by rw [hV]; simp
        have h27 : i = 27 ∧ extra = 31 := by
          have h9 := HP.out
          rcases hr3 with h | ⟨rfl, h5, h31⟩
          · omega
          · subst h5; omega
        obtain ⟨rfl, rfl⟩ := h27
        clear hE hV hr3
        go_enter Tryz.func70, Tryz.ntmps70
        go_wp2_with fail
        refine (HS.out _).mono ?_
        rintro e w1 ⟨rfl, hb1⟩
        go_wp2_with fail
        refine (rpower_any rb _ (by omega)).mono ?_
        rintro e w2 ⟨rfl, rfl⟩
        rw [HP.out]
        go_wp2_with fail
        go_ret2
        exact ⟨rfl, hb1⟩
      · by_cases h27 : i = 27
        · subst h27
          have h31 : (extra == 31) = false := by
            rw [beq_eq_false_iff_ne]
            rcases hr3 with h | ⟨_, h5, h31⟩
            · have : rowT longT 27 = (5, 227, 31) := rfl
              rw [Hr.out] at this
              injection this with _ this
              injection this with _ this
              omega
            · omega
          obtain rfl : E = 0 := by rw [hE]; simp [ha, hb, hc]
          obtain rfl : V = rl + extra := by rw [hV]; simp
          clear hE hV hr3
          go_enter Tryz.func70, Tryz.ntmps70
          go_wp2_with fail
          refine (HS.out _).mono ?_
          rintro e w1 ⟨rfl, hb1⟩
          go_wp2_with fail
          refine (rpower_any rb _ (by omega)).mono ?_
          rintro e w2 ⟨rfl, rfl⟩
          rw [HP.out]
          go_wp2_with fail
          refine (rlongs_any _).mono ?_
          rintro e w3 ⟨rfl, hb3⟩
          have hb0 : Below w.heap.size w w3 := hb1.trans (hb3.mono hb1.size)
          clear hb1 hb3
          go_wp2_with (first
         | (refine wpList_store_new2 rfl _ _ _ rfl _ (leastsV longT) rfl rfl (by simp) _ _ _ (by kernel_rfl) rfl (by kernel_rfl) ?_)
         | (refine wpList_store_new rfl _ _ _ rfl _ (bitsV longT) rfl rfl (by simp) _ _ (by kernel_rfl) rfl (by kernel_rfl) ?_
            have hb2 : Below w.heap.size w ((w3.alloc (.cells (leastsV longT) 156)).alloc (.cells (bitsV longT) 156)) := (hb0.alloc hb0.size _).alloc (by have := hb0.size; simp; omega) _
            have L : Blk ((w3.alloc (.cells (leastsV longT) 156)).alloc (.cells (bitsV longT) 156)) w3.heap.size 156 (leastsV longT) := (Blk.new w3 _ _).alloc _
            generalize (w3.alloc (.cells (leastsV longT) 156)).alloc (.cells (bitsV longT) 156) = W at *
            have hd := (L.cell 27).trans (leastsV_at longT 27 (by decide))
            rw [Hr.out] at hd
            dsimp only at hd
            clear L hb0))
          go_ret2
          exact ⟨rfl, hb2⟩
        · have h31 : ((257 : Int) + i == 284) = false := by rw [beq_eq_false_iff_ne]; omega
          obtain rfl : E = 0 := by rw [hE]; simp [ha, hb, hc]
          obtain rfl : V = rl + extra := by rw [hV]; simp
          clear hE hV hr3
          go_enter Tryz.func70, Tryz.ntmps70
          go_wp2_with fail
          refine (HS.out _).mono ?_
          rintro e w1 ⟨rfl, hb1⟩
          go_wp2_with fail
          refine (rpower_any rb _ (by omega)).mono ?_
          rintro e w2 ⟨rfl, rfl⟩
          rw [HP.out]
          go_wp2_with fail
          refine (rlongs_any _).mono ?_
          rintro e w3 ⟨rfl, hb3⟩
          have hb0 : Below w.heap.size w w3 := hb1.trans (hb3.mono hb1.size)
          clear hb1 hb3
          go_wp2_with (first
         | (refine wpList_store_new2 rfl _ _ _ rfl _ (leastsV longT) rfl rfl (by simp) _ _ _ (by kernel_rfl) rfl (by kernel_rfl) ?_)
         | (refine wpList_store_new rfl _ _ _ rfl _ (bitsV longT) rfl rfl (by simp) _ _ (by kernel_rfl) rfl (by kernel_rfl) ?_
            have hb2 : Below w.heap.size w ((w3.alloc (.cells (leastsV longT) 156)).alloc (.cells (bitsV longT) 156)) := (hb0.alloc hb0.size _).alloc (by have := hb0.size; simp; omega) _
            have L : Blk ((w3.alloc (.cells (leastsV longT) 156)).alloc (.cells (bitsV longT) 156)) w3.heap.size 156 (leastsV longT) := (Blk.new w3 _ _).alloc _
            generalize (w3.alloc (.cells (leastsV longT) 156)).alloc (.cells (bitsV longT) 156) = W at *
            have hd := (L.cell i).trans (leastsV_at longT i hi)
            rw [Hr.out] at hd
            dsimp only at hd
            clear L hb0))
          go_ret2
          exact ⟨rfl, hb2⟩


set_option maxHeartbeats 1600000 in
set_option maxRecDepth 100000 in
theorem rFarOf_ok (i : Nat) (extra : Int) (w : World) (hi : i < 30) (sym : Int) (hsym : sym = i) (h3 : -9223372036854775808 ≤ extra) (h4 : extra ≤ 9223372036854775807) :
    Calls Tryz.prog 71 #[.int .i64 sym, .int .i64 extra] w fun e w' => e = .returned (.tuple #[.int .i64 (numV 0 farT sym extra), .int .i64 (numE 0 farT sym extra)]) ∧ Below w.heap.size w w' := by
  have hn : ¬ (sym < ((0 : Nat) : Int) ∨ ((0 : Nat) : Int) + (farT).length ≤ sym) := by
    have : (farT).length = 30 := rfl
    omega
  have ei : (sym - ((0 : Nat) : Int)).toNat = i := by omega
  have hE : numE 0 farT sym extra = if extra < 0 ∨ ((2 ^ (rowT farT i).1 : Nat) : Int) ≤ extra then 2 else if ((rowT farT i).2.2 : Int) ≤ extra then 90 else 0 := by simp only [numE, if_neg hn, ei]
  have hV : numV 0 farT sym extra = if numE 0 farT sym extra = 0 then (rowT farT i).2.1 + extra else 0 := by simp only [numV, ei]
  have hrow : (rowT farT i).1 ≤ 20 ∧ (rowT farT i).2.1 ≤ 100000 ∧ (rowT farT i).2.2 = 2 ^ (rowT farT i).1 := by
    have : ∀ k, k < 30 → (rowT farT k).1 ≤ 20 ∧ (rowT farT k).2.1 ≤ 100000 ∧ (rowT farT k).2.2 = 2 ^ (rowT farT k).1 := by decide
    exact this i hi
  have hsy := fun w => rFarBits_ok i w hi sym hsym
  generalize numE 0 farT sym extra = E at *
  generalize numV 0 farT sym extra = V at *
  have hrd := rowT farT i
  generalize hr : rowT farT i = r at *
  have Hr := Lib.hid hr; clear hr hrd
  obtain ⟨rb, rl, rm⟩ := r
  dsimp only at hrow hE hV hsy
  obtain ⟨hr1, hr2, hr3⟩ := hrow
  have HS := Lib.hid hsy
  clear hsy hn ei
  subst hsym
  by_cases ha : extra < 0
  · obtain rfl : E = 2 := by rw [hE]; simp [ha]
    obtain rfl : V = 0 := by rw [hV]; simp
    clear hE hV hr3
    go_enter Tryz.func71, Tryz.ntmps71
    go_wp2_with fail
    refine (HS.out _).mono ?_
    rintro e w1 ⟨rfl, hb1⟩
    go_wp2_with fail
    go_ret2
    exact ⟨rfl, hb1⟩
  · have hp : 2 ^ rb ≤ 2 ^ 20 := pow2_le _ _ hr1
    generalize hP : 2 ^ rb = P at *
    have HP := Lib.hid hP; clear hP
    by_cases hb : (P : Int) ≤ extra
    · obtain rfl : E = 2 := by rw [hE]; simp [hb]
      obtain rfl : V = 0 := by rw [hV]; simp
      clear hE hV hr3
      go_enter Tryz.func71, Tryz.ntmps71
      go_wp2_with fail
      refine (HS.out _).mono ?_
      rintro e w1 ⟨rfl, hb1⟩
      go_wp2_with fail
      refine (rpower_any rb _ (by omega)).mono ?_
      rintro e w2 ⟨rfl, rfl⟩
      rw [HP.out]
      go_wp2_with fail
      go_ret2
      exact ⟨rfl, hb1⟩
    · have hp2 : 0 < P := by rw [← HP.out]; exact Nat.two_pow_pos _
      have hc : ¬ (rm : Int) ≤ extra := by have := HP.out; omega
      obtain rfl : E = 0 := by rw [hE]; simp [ha, hb, hc]
      obtain rfl : V = rl + extra := by rw [hV]; simp
      clear hE hV hr3
      go_enter Tryz.func71, Tryz.ntmps71
      go_wp2_with fail
      refine (HS.out _).mono ?_
      rintro e w1 ⟨rfl, hb1⟩
      go_wp2_with fail
      refine (rpower_any rb _ (by omega)).mono ?_
      rintro e w2 ⟨rfl, rfl⟩
      rw [HP.out]
      go_wp2_with fail
      refine (rfars_any _).mono ?_
      rintro e w3 ⟨rfl, hb3⟩
      have hb0 : Below w.heap.size w w3 := hb1.trans (hb3.mono hb1.size)
      clear hb1 hb3
      go_wp2_with (first
    | (refine wpList_store_new2 rfl _ _ _ rfl _ (leastsV farT) rfl rfl (by simp) _ _ _ (by kernel_rfl) rfl (by kernel_rfl) ?_)
    | (refine wpList_store_new rfl _ _ _ rfl _ (bitsV farT) rfl rfl (by simp) _ _ (by kernel_rfl) rfl (by kernel_rfl) ?_
       have hb2 : Below w.heap.size w ((w3.alloc (.cells (leastsV farT) 159)).alloc (.cells (bitsV farT) 159)) := (hb0.alloc hb0.size _).alloc (by have := hb0.size; simp; omega) _
       have L : Blk ((w3.alloc (.cells (leastsV farT) 159)).alloc (.cells (bitsV farT) 159)) w3.heap.size 159 (leastsV farT) := (Blk.new w3 _ _).alloc _
       generalize (w3.alloc (.cells (leastsV farT) 159)).alloc (.cells (bitsV farT) 159) = W at *
       have hd := (L.cell i).trans (leastsV_at farT i hi)
       rw [Hr.out] at hd
       dsimp only at hd
       clear L hb0))
      go_ret2
      exact ⟨rfl, hb2⟩

end Go.Proofs.YtahboomghjdjhaaGreat

/-
  Plain facts on the tables: no program in sight.
-/
namespace Go.Proofs.YtahboomghjdjhaaGreat

def lst (t : List (Nat × Nat × Nat)) (i : Nat) : Nat := (rowT t i).2.1
def mny (t : List (Nat × Nat × Nat)) (i : Nat) : Nat := (rowT t i).2.2

/-- A table's rows follow one another. -/
structure Rising (t : List (Nat × Nat × Nat)) : Prop where
  pos : 0 < t.length
  next : ∀ i, i < t.length → i + 1 < t.length → lst t (i + 1) = lst t i + mny t i
  mono : ∀ i, i < t.length → ∀ j, j < i → lst t j + mny t j ≤ lst t i
  some_ : ∀ i, i < t.length → 0 < mny t i
  fits : ∀ i, i < t.length → mny t i ≤ 2 ^ (rowT t i).1

def rendT (t : List (Nat × Nat × Nat)) : Nat := lst t (t.length - 1) + mny t (t.length - 1)

end Go.Proofs.YtahboomghjdjhaaGreat
