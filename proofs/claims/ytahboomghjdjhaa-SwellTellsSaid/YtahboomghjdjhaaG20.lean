/-
  Walks: the reference's tables.
-/
import Derived.Deep.WholeRow
import Derived.Test.YtahboomghjdjhaaG19
namespace Go.Proofs.Ytahboomghjdjhaa
open Go.RowKit

theorem Blk.setRow {w : World} {g : Nat} {t : TypeId} {cs : Array Value} (h : Blk w g t cs) (cs' : Array Value) : Blk (w.setRow g cs') g t cs' := setRow_heap w g cs cs' t (0, 0) h
theorem Blk.setRow_far {w : World} {g g' : Nat} {t : TypeId} {cs : Array Value} (h : Blk w g t cs) (hne : g ≠ g') (cs' : Array Value) : Blk (w.setRow g' cs') g t cs := (setRow_other w g' g cs' hne).trans h
theorem below_setRow {B : Nat} {a w : World} (h : Below B a w) {g : Nat} (hg : B ≤ g) (cs : Array Value) : Below B a (w.setRow g cs) :=
  h.trans ⟨rfl, rfl, rfl, by simp, fun k hk => setRow_other w g k cs (by omega)⟩

def leastsV (t : List (Nat × Nat × Nat)) : Array Value := (t.map fun s => Value.int .i64 (s.2.1 : Int)).toArray
def bitsV (t : List (Nat × Nat × Nat)) : Array Value := (t.map fun s => Value.int .i64 (s.1 : Int)).toArray

theorem wpOp_plain {P : Program} {ops : Array Oper} {Q : Exit → Act → World → Prop} {i : Nat} {o : Oper} {K : Act → World → Prop} {a : Act} {w : World} (ho : ops[i]? = some o) (hg : o.guard = none) (h : o.wp P a w K Q) : wpOp P ops Q i K a w := by
  unfold wpOp
  rw [ho]
  have hw : Region.wanted o (yielded ops a.tmps) = true := by simp [Region.wanted, hg]
  simp only [hw, if_true]
  exact .inl h
theorem eval_put_same (a : Act) (s : Tmp) (v : Value) (h : s < a.tmps.size) : (a.put (some s) v).eval (.tmp s) = v := by
  simp [Act.put, Act.eval, h]
theorem eval_put_other (a : Act) (s t : Tmp) (v : Value) (h : t ≠ s) : (a.put (some s) v).eval (.tmp t) = a.eval (.tmp t) := by
  simp [Act.put, Act.eval, Array.getElem?_setIfInBounds, Ne.symm h]
theorem size_put (a : Act) (s : Option Tmp) (v : Value) : (a.put s v).tmps.size = a.tmps.size := by cases s <;> simp [Act.put]

/-- A region that draws its order: two whole arrays are read, then stored. -/
theorem two_arrays {P : Program} {id : Nat} {Q : Exit → Act → World → Prop} (hm : P.follows .mixedOrders = true) (ops : Array Oper) (o0 o1 o2 o3 : Oper) (hops : ops = #[o0, o1, o2, o3])
    (h0 : Region.ready .any ops #[false, false, false, false] = [0, 1]) (h10 : Region.ready .any ops #[true, false, false, false] = [1, 2]) (h20 : Region.ready .any ops #[true, false, true, false] = [1]) (h01 : Region.ready .any ops #[false, true, false, false] = [0])
    (h2 : Region.ready .any ops #[true, true, false, false] = [2]) (h3 : Region.ready .any ops #[true, true, true, false] = [3]) (h4 : Region.ready .any ops #[true, true, true, true] = [])
    (ty : TypeId) (d : TypeDesc) (hu : P.underlying ty = some d) (hd : (match d with | .struct _ | .array _ _ => true | _ => false) = true)
    (A B X Y : Tmp) (s0 s1 : Tmp) (e0 : o0.op = .load ty (.tmp A)) (e1 : o1.op = .load ty (.tmp B)) (e2 : o2.op = .store ty (.tmp X) (.tmp s0)) (e3 : o3.op = .store ty (.tmp Y) (.tmp s1))
    (d0 : o0.dst = some s0) (d1 : o1.dst = some s1) (d2 : o2.dst = none) (d3 : o3.dst = none) (g0 : o0.guard = none) (g1 : o1.guard = none) (g2 : o2.guard = none) (g3 : o3.guard = none)
    (hs : s0 ≠ s1) (hA : A ≠ s0 ∧ A ≠ s1) (hB : B ≠ s0 ∧ B ≠ s1) (hX : X ≠ s0 ∧ X ≠ s1) (hY : Y ≠ s0 ∧ Y ≠ s1)
    (a : Act) (w : World) (ba bb bx by_ : Nat) (ca cb cx cy : Array Value) (t : TypeId) (ha : a.eval (.tmp A) = .pointer (some ⟨ba, 0, none⟩)) (hb : a.eval (.tmp B) = .pointer (some ⟨bb, 0, none⟩))
    (hx : a.eval (.tmp X) = .pointer (some ⟨bx, 0, none⟩)) (hy : a.eval (.tmp Y) = .pointer (some ⟨by_, 0, none⟩))
    (ka : Blk w ba t ca) (kb : Blk w bb t cb) (kx : Blk w bx t cx) (ky : Blk w by_ t cy) (hxy : by_ ≠ bx) (hbx : bb ≠ bx)
    (ia : (P.info? ty).map (·.size) = some ca.size) (ib : (P.info? ty).map (·.size) = some cb.size) (ix : cx.size = ca.size) (iy : cy.size = cb.size) (na : ca.all (·.oneCell') = true) (nb : cb.all (·.oneCell') = true)
    (sz0 : s0 < a.tmps.size) (sz1 : s1 < a.tmps.size)
    (h : Q .normal ((a.put (some s0) (.agg ca)).put (some s1) (.agg cb)) ((w.drew.setRow bx ca).setRow by_ cb)) : (Code.region id ops true).wp P Q a w := by
  subst hops
  refine wp_region_any hm ?_
  show wpAny P .any #[o0, o1, o2, o3] Q 4 #[false, false, false, false] a w.drew
  -- behind both loads and the first store
  have rest1 : ∀ a' : Act, a' = (a.put (some s0) (.agg ca)).put (some s1) (.agg cb) → wpAny P .any #[o0, o1, o2, o3] Q 1 #[true, true, true, false] a' (w.drew.setRow bx ca) := by
    rintro a' rfl
    have v1 : ((a.put (some s0) (.agg ca)).put (some s1) (.agg cb)).eval (.tmp s1) = .agg cb := by rw [eval_put_same _ _ _ (by rw [size_put]; exact sz1)]
    have vy : ((a.put (some s0) (.agg ca)).put (some s1) (.agg cb)).eval (.tmp Y) = .pointer (some ⟨by_, 0, none⟩) := by rw [eval_put_other _ _ _ _ hY.2, eval_put_other _ _ _ _ hY.1, hy]
    refine wpAny_all h3 (by simp) fun i hi => ?_
    obtain rfl : i = 3 := by simpa using hi
    refine wpOp_plain (o := o3) rfl g3 (wp_store_row ty (.tmp Y) (.tmp s1) e3 by_ cb vy v1 t cy (Blk.setRow_far (w := w.drew) ky hxy ca) ib iy nb ?_)
    rw [d3]
    show wpAny P .any #[o0, o1, o2, o3] Q 0 #[true, true, true, true] _ _
    exact wpAny_done h4 h 0
  -- behind both loads
  have rest : ∀ a' : Act, a' = (a.put (some s0) (.agg ca)).put (some s1) (.agg cb) → wpAny P .any #[o0, o1, o2, o3] Q 2 #[true, true, false, false] a' w.drew := by
    rintro a' rfl
    have v0 : ((a.put (some s0) (.agg ca)).put (some s1) (.agg cb)).eval (.tmp s0) = .agg ca := by rw [eval_put_other _ _ _ _ hs, eval_put_same _ _ _ sz0]
    have vx : ((a.put (some s0) (.agg ca)).put (some s1) (.agg cb)).eval (.tmp X) = .pointer (some ⟨bx, 0, none⟩) := by rw [eval_put_other _ _ _ _ hX.2, eval_put_other _ _ _ _ hX.1, hx]
    refine wpAny_all h2 (by simp) fun i hi => ?_
    obtain rfl : i = 2 := by simpa using hi
    refine wpOp_plain (o := o2) rfl g2 (wp_store_row ty (.tmp X) (.tmp s0) e2 bx ca vx v0 t cx kx ia ix na ?_)
    rw [d2]
    exact rest1 _ rfl
  refine wpAny_all h0 (by simp) fun i hi => ?_
  rcases (by simpa using hi : i = 0 ∨ i = 1) with rfl | rfl
  · refine wpOp_plain (o := o0) rfl g0 (wp_load_row ty (.tmp A) e0 ba ha t ca (0, 0) d ka hu hd ia ?_)
    rw [d0]
    show wpAny P .any #[o0, o1, o2, o3] Q 3 #[true, false, false, false] _ _
    refine wpAny_all h10 (by simp) fun i hi => ?_
    rcases (by simpa using hi : i = 1 ∨ i = 2) with rfl | rfl
    · refine wpOp_plain (o := o1) rfl g1 (wp_load_row ty (.tmp B) e1 bb (by rw [eval_put_other _ _ _ _ hB.1, hb]) t cb (0, 0) d kb hu hd ib ?_)
      rw [d1]
      exact rest _ rfl
    · refine wpOp_plain (o := o2) rfl g2 (wp_store_row ty (.tmp X) (.tmp s0) e2 bx ca (by rw [eval_put_other _ _ _ _ hX.1, hx]) (eval_put_same _ _ _ sz0) t cx kx ia ix na ?_)
      rw [d2]
      show wpAny P .any #[o0, o1, o2, o3] Q 2 #[true, false, true, false] (a.put (some s0) (.agg ca)) _
      refine wpAny_all h20 (by simp) fun i hi => ?_
      obtain rfl : i = 1 := by simpa using hi
      refine wpOp_plain (o := o1) rfl g1 (wp_load_row ty (.tmp B) e1 bb (by rw [eval_put_other _ _ _ _ hB.1, hb]) t cb (0, 0) d (Blk.setRow_far (w := w.drew) kb hbx ca) hu hd ib ?_)
      rw [d1]
      exact rest1 _ rfl
  · refine wpOp_plain (o := o1) rfl g1 (wp_load_row ty (.tmp B) e1 bb hb t cb (0, 0) d kb hu hd ib ?_)
    rw [d1]
    show wpAny P .any #[o0, o1, o2, o3] Q 3 #[false, true, false, false] _ _
    refine wpAny_all h01 (by simp) fun i hi => ?_
    obtain rfl : i = 0 := by simpa using hi
    refine wpOp_plain (o := o0) rfl g0 (wp_load_row ty (.tmp A) e0 ba (by rw [eval_put_other _ _ _ _ hA.2, ha]) t ca (0, 0) d ka hu hd ia ?_)
    rw [d0]
    exact rest _ (Act.put_comm _ _ _ (by simpa using hs))

theorem wpList_build_to {P : Program} {ops : Array Oper} {rest : List Oper} {o : Oper} {a : Act} {w : World} {Q : Exit → Act → World → Prop} (hg : o.guard = none) (t : TypeId) (parts : Array (Nat × Operand)) (ho : o.op = .build t parts) (cells : Array Value)
    (hc : P.built t (parts.map fun (i, x) => (i, a.eval x)).toList = some cells)
    (h : wpList P ops Q rest (a.put o.dst (.agg cells)) w) : wpList P ops Q (o :: rest) a w :=
  wpList_build hg t parts ho (by rw [hc]; rfl) (by rw [hc]; exact h)
theorem wpList_store_new {P : Program} {ops : Array Oper} {rest : List Oper} {o : Oper} {a : Act} {W : World} {Q : Exit → Act → World → Prop} (hgd : o.guard = none) (ty : TypeId) (x y : Operand) (ho : o.op = .store ty x y)
    (g : Nat) (cells : Array Value) (hx : a.eval x = .pointer (some ⟨g, 0, none⟩)) (hy : a.eval y = .agg cells) (hgs : g = W.heap.size)
    (t : TypeId) (old : Array Value) (hi : (P.info? ty).map (·.size) = some cells.size)
    (hold : old.size = cells.size) (h1 : cells.all (·.oneCell') = true)
    (h : wpList P ops Q rest (a.put o.dst undef) (W.alloc (.cells cells t))) : wpList P ops Q (o :: rest) a (W.alloc (.cells old t)) := by
  subst hgs
  refine wpList_store_row hgd ty x y ho W.heap.size cells hx hy t old (heap_alloc_last W _) hi hold h1 ?_
  rw [World.setRow_alloc_new]
  exact h

theorem results_two_rows {P : Program} {fn : Func} {p q : Tmp} {ty : TypeId} (h : fn.results = #[.cell p ty, .cell q ty]) (tmps : Array Value) (w : World) (g g' : Nat) (t : TypeId) (cs cs' : Array Value) (d : TypeDesc)
    (hp : tmps.getD p undef = .pointer (some ⟨g, 0, none⟩)) (hq : tmps.getD q undef = .pointer (some ⟨g', 0, none⟩)) (hg : Blk w g t cs) (hg' : Blk w g' t cs')
    (hu : P.underlying ty = some d) (hd : (match d with | .struct _ | .array _ _ => true | _ => false) = true) (hi : (P.info? ty).map (·.size) = some cs.size) (hi' : (P.info? ty).map (·.size) = some cs'.size) :
    (results fn tmps).run P w = .ok (.tuple #[.agg cs, .agg cs']) w := by
  have hp' : tmps[p]?.getD undef = .pointer (some ⟨g, 0, none⟩) := by simpa using hp
  have hq' : tmps[q]?.getD undef = .pointer (some ⟨g', 0, none⟩) := by simpa using hq
  simp [results, h, hp', hq', asAddr, run_loadVar_row w g t ty cs (0, 0) d hg hu hd hi, run_loadVar_row w g' t ty cs' (0, 0) d hg' hu hd hi']

theorem setRow_alloc_past (w : World) (o : Obj) (g : Nat) (cs : Array Value) (h : g < w.heap.size) : (w.alloc o).setRow g cs = (w.setRow g cs).alloc o := by
  simp only [World.setRow, World.alloc]
  congr 1
  apply Array.ext_getElem?
  intro i
  simp only [Array.getElem?_modify, Array.getElem?_push, Array.size_modify]
  by_cases hi : i = w.heap.size
  · subst hi
    have h1 : ¬ g = w.heap.size := by omega
    simp [h1]
  · by_cases hg : g = i <;> simp [hi, hg]

theorem wpList_store_new2 {P : Program} {ops : Array Oper} {rest : List Oper} {o : Oper} {a : Act} {W : World} {Q : Exit → Act → World → Prop} (hgd : o.guard = none) (ty : TypeId) (x y : Operand) (ho : o.op = .store ty x y)
    (g : Nat) (cells : Array Value) (hx : a.eval x = .pointer (some ⟨g, 0, none⟩)) (hy : a.eval y = .agg cells) (hgs : g = W.heap.size)
    (t : TypeId) (old : Array Value) (O : Obj) (hi : (P.info? ty).map (·.size) = some cells.size)
    (hold : old.size = cells.size) (h1 : cells.all (·.oneCell') = true)
    (h : wpList P ops Q rest (a.put o.dst undef) ((W.alloc (.cells cells t)).alloc O)) : wpList P ops Q (o :: rest) a ((W.alloc (.cells old t)).alloc O) := by
  subst hgs
  refine wpList_store_row hgd ty x y ho W.heap.size cells hx hy t old ((Blk.new W t old).alloc O) hi hold h1 ?_
  rw [setRow_alloc_past _ _ _ _ (by simp), World.setRow_alloc_new]
  exact h

/-- The last row among the first i whose least number is at most n. -/
def lastLe (t : List (Nat × Nat × Nat)) (n : Int) : Nat → Nat
  | 0 => 0
  | i + 1 => if ((rowT t i).2.1 : Int) ≤ n then i else lastLe t n i
theorem lastLe_lt (t : List (Nat × Nat × Nat)) (n : Int) (i m : Nat) (hm : i ≤ m) (h0 : 0 < m) : lastLe t n i < m := by
  induction i with
  | zero => simp [lastLe, h0]
  | succ i ih => simp only [lastLe]; split; · omega
                 · exact ih (by omega)

theorem leastsV_at (t : List (Nat × Nat × Nat)) (i : Nat) (hi : i < t.length) : (leastsV t)[i]? = some (.int .i64 ((rowT t i).2.1 : Int)) := by
  simp [leastsV, rowT, List.getElem?_eq_getElem hi]
theorem bitsV_at (t : List (Nat × Nat × Nat)) (i : Nat) (hi : i < t.length) : (bitsV t)[i]? = some (.int .i64 ((rowT t i).1 : Int)) := by
  simp [bitsV, rowT, List.getElem?_eq_getElem hi]
end Go.Proofs.Ytahboomghjdjhaa

/-
  Walks: the reference's Long and Far.
-/
namespace Go.Proofs.Ytahboomghjdjhaa
open Go.RowKit

end Go.Proofs.Ytahboomghjdjhaa

/-
  Walks: the reference's LongOf and FarOf.
-/
namespace Go.Proofs.Ytahboomghjdjhaa
open Go.RowKit

end Go.Proofs.Ytahboomghjdjhaa

/-
  Plain facts on the tables: no program in sight.
-/
namespace Go.Proofs.Ytahboomghjdjhaa

def lst (t : List (Nat × Nat × Nat)) (i : Nat) : Nat := (rowT t i).2.1
def mny (t : List (Nat × Nat × Nat)) (i : Nat) : Nat := (rowT t i).2.2

theorem lastLe_spec (t : List (Nat × Nat × Nat)) (n : Int) (m : Nat) (h0 : (lst t 0 : Int) ≤ n) :
    (lst t (lastLe t n m) : Int) ≤ n ∧ ∀ j, lastLe t n m < j → j < m → n < lst t j := by
  induction m with
  | zero => exact ⟨h0, fun j _ h => by omega⟩
  | succ m ih =>
    simp only [lastLe]
    by_cases h : ((rowT t m).2.1 : Int) ≤ n
    · rw [if_pos h]; exact ⟨h, fun j h1 h2 => by omega⟩
    · rw [if_neg h]
      refine ⟨ih.1, fun j h1 h2 => ?_⟩
      by_cases hj : j = m
      · subst hj; simp only [lst]; omega
      · exact ih.2 j h1 (by omega)

/-- A table's rows follow one another. -/
structure Rising (t : List (Nat × Nat × Nat)) : Prop where
  pos : 0 < t.length
  next : ∀ i, i < t.length → i + 1 < t.length → lst t (i + 1) = lst t i + mny t i
  mono : ∀ i, i < t.length → ∀ j, j < i → lst t j + mny t j ≤ lst t i
  some_ : ∀ i, i < t.length → 0 < mny t i
  fits : ∀ i, i < t.length → mny t i ≤ 2 ^ (rowT t i).1

theorem rising_long : Rising longT := ⟨by decide, by decide, by decide, by decide, by decide⟩
theorem rising_far : Rising farT := ⟨by decide, by decide, by decide, by decide, by decide⟩

def rendT (t : List (Nat × Nat × Nat)) : Nat := lst t (t.length - 1) + mny t (t.length - 1)

theorem tell_skip (f : Nat) (t : List (Nat × Nat × Nat)) (n : Int) (i : Nat) (hi : i ≤ t.length) (h : ∀ j, j < i → ¬ ((lst t j : Int) ≤ n ∧ n < lst t j + mny t j)) :
    tellT f t n = tellT (f + i) (t.drop i) n := by
  induction i with
  | zero => rfl
  | succ i ih =>
    have hh := h i (by omega)
    unfold lst mny at hh
    rw [ih (by omega) (fun j hj => h j (by omega)), tell_drop f t i (by omega) n, if_neg hh]

theorem tell_hit (f : Nat) (t : List (Nat × Nat × Nat)) (n : Int) (i : Nat) (hi : i < t.length) (h : ∀ j, j < i → ¬ ((lst t j : Int) ≤ n ∧ n < lst t j + mny t j)) (hin : (lst t i : Int) ≤ n ∧ n < lst t i + mny t i) :
    tellT f t n = (f + i, (rowT t i).1, n - lst t i, 0) := by
  unfold lst mny at hin
  rw [tell_skip f t n i (by omega) h, tell_drop f t i hi n, if_pos hin]
  rfl

theorem tell_at {t : List (Nat × Nat × Nat)} (R : Rising t) (f : Nat) (n : Int) (i : Nat) (hi : i < t.length) (hin : (lst t i : Int) ≤ n ∧ n < lst t i + mny t i) :
    tellT f t n = (f + i, (rowT t i).1, n - lst t i, 0) :=
  tell_hit f t n i hi (fun j hj => by have := R.mono i hi j hj; omega) hin

theorem tell_in {t : List (Nat × Nat × Nat)} (R : Rising t) (f : Nat) (n : Int) (h0 : (lst t 0 : Int) ≤ n) (h1 : n < rendT t) :
    ∃ i, i < t.length ∧ (lst t i : Int) ≤ n ∧ n < lst t i + mny t i ∧ i = lastLe t n t.length ∧ tellT f t n = (f + i, (rowT t i).1, n - lst t i, 0) := by
  have hp := R.pos
  have hl := lastLe_lt t n t.length t.length (Nat.le_refl _) hp
  obtain ⟨h2, h3⟩ := lastLe_spec t n t.length h0
  have hin : (lst t (lastLe t n t.length) : Int) ≤ n ∧ n < lst t (lastLe t n t.length) + mny t (lastLe t n t.length) := by
    refine ⟨h2, ?_⟩
    by_cases he : lastLe t n t.length + 1 < t.length
    · have := R.next _ hl he
      have := h3 (lastLe t n t.length + 1) (by omega) he
      omega
    · have : lastLe t n t.length = t.length - 1 := by omega
      rw [this]
      unfold rendT at h1
      omega
  exact ⟨_, hl, hin.1, hin.2, rfl, tell_at R f n _ hl hin⟩

theorem tell_out {t : List (Nat × Nat × Nat)} (R : Rising t) (f : Nat) (n : Int) (h : n < lst t 0 ∨ (rendT t : Int) ≤ n) : tellT f t n = (0, 0, 0, 2) := by
  rw [tell_skip f t n t.length (Nat.le_refl _)]
  · rw [List.drop_length]; rfl
  · intro j hj ⟨h1, h2⟩
    have hp := R.pos
    rcases h with h | h
    · by_cases h0 : j = 0
      · subst h0; omega
      · have := R.mono j hj 0 (by omega); have := R.some_ 0 hp; omega
    · unfold rendT at h
      by_cases h0 : j = t.length - 1
      · subst h0; omega
      · have := R.mono (t.length - 1) (by omega) j (by omega); have := R.some_ (t.length - 1) (by omega); omega

/-- What tells a number is that number's, and the other way round. -/
theorem tell_back {t : List (Nat × Nat × Nat)} (R : Rising t) (f : Nat) (n : Int) (h : (tellT f t n).2.2.2 = 0) :
    ∃ i, i < t.length ∧ tellT f t n = (f + i, (rowT t i).1, n - lst t i, 0) ∧ numE f t (f + i) (n - lst t i) = 0 ∧ numV f t (f + i) (n - lst t i) = n ∧ 0 ≤ n - lst t i ∧ n - lst t i < ((2 ^ (rowT t i).1 : Nat) : Int) := by
  by_cases ho : n < lst t 0 ∨ (rendT t : Int) ≤ n
  · rw [tell_out R f n ho] at h; cases h
  · obtain ⟨i, hi, h1, h2, _, h4⟩ := tell_in R f n (by omega) (by omega)
    have hf := R.fits i hi
    have ei : ((f : Int) + i - f).toNat = i := by omega
    have hE : numE f t (f + i) (n - lst t i) = 0 := by
      unfold numE
      rw [if_neg (by omega), ei, if_neg (by omega), if_neg (by unfold mny at h2; omega)]
    refine ⟨i, hi, h4, hE, ?_, by omega, by omega⟩
    unfold numV
    rw [if_pos hE, ei]
    unfold lst
    omega

theorem num_back {t : List (Nat × Nat × Nat)} (R : Rising t) (f : Nat) (sym extra : Int) (h : numE f t sym extra = 0) :
    ∃ i : Nat, i < t.length ∧ sym = f + i ∧ tellT f t (numV f t sym extra) = (f + i, (rowT t i).1, extra, 0) ∧ numV f t sym extra = lst t i + extra ∧ 0 ≤ extra ∧ extra < mny t i := by
  have hE := h
  unfold numE at h
  split at h
  · cases h
  · rename_i h1
    split at h
    · cases h
    · rename_i h2
      split at h
      · cases h
      · rename_i h3
        have hi : (sym - f).toNat < t.length := by omega
        have hs : sym = f + ((sym - f).toNat : Nat) := by omega
        have hv : numV f t sym extra = lst t (sym - f).toNat + extra := by unfold numV; rw [if_pos hE]; rfl
        refine ⟨_, hi, hs, ?_, hv, by omega, by unfold mny; omega⟩
        rw [hv, tell_at R f _ _ hi ⟨by omega, by unfold mny; omega⟩]
        simp; omega

/-- Of two numbers the greater one has no lesser symbol. -/
theorem tell_rises {t : List (Nat × Nat × Nat)} (R : Rising t) (f : Nat) (n m : Int) (hn : (tellT f t n).2.2.2 = 0) (hm : (tellT f t m).2.2.2 = 0) (h : n < m) :
    ∃ i j, i ≤ j ∧ j < t.length ∧ tellT f t n = (f + i, (rowT t i).1, n - lst t i, 0) ∧ tellT f t m = (f + j, (rowT t j).1, m - lst t j, 0) ∧ m < lst t j + mny t j := by
  by_cases ho : n < lst t 0 ∨ (rendT t : Int) ≤ n
  · rw [tell_out R f n ho] at hn; cases hn
  by_cases hp : m < lst t 0 ∨ (rendT t : Int) ≤ m
  · rw [tell_out R f m hp] at hm; cases hm
  obtain ⟨i, hi, h1, h2, _, h4⟩ := tell_in R f n (by omega) (by omega)
  obtain ⟨j, hj, g1, g2, _, g4⟩ := tell_in R f m (by omega) (by omega)
  refine ⟨i, j, ?_, hj, h4, g4, g2⟩
  rcases Nat.lt_or_ge j i with hlt | hge
  · have := R.mono i hi j hlt; omega
  · exact hge
end Go.Proofs.Ytahboomghjdjhaa
