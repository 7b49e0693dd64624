/-
  Arrays that are known whole: cells by a function. No program in sight.
-/
import Derived.Test.YtolcekbldpdmpaaFrame
import Derived.Laws.Rows
import Derived.Deep.MidRow
import Derived.Deep.WholeRow
namespace Go.Proofs.Ytolcekbldpdmpaa
open Go.RowKit

/-- n cells, by a function. -/
def cellsOf (n : Nat) (f : Nat → Value) : Array Value := ((List.range n).map f).toArray
theorem cellsOf_size (n : Nat) (f : Nat → Value) : (cellsOf n f).size = n := by simp [cellsOf]
theorem cellsOf_get (n : Nat) (f : Nat → Value) (i : Nat) (h : i < n) : (cellsOf n f)[i]? = some (f i) := by simp [cellsOf, h]
theorem cellsOf_out (n : Nat) (f : Nat → Value) (i : Nat) (h : n ≤ i) : (cellsOf n f)[i]? = none := Array.getElem?_eq_none (by rw [cellsOf_size]; exact h)
theorem cellsOf_set (n : Nat) (f : Nat → Value) (i : Nat) (v : Value) : (cellsOf n f).setIfInBounds i v = cellsOf n (fun k => if k = i then v else f k) := by
  apply Array.ext_getElem?
  intro j
  rw [Array.getElem?_setIfInBounds, cellsOf_size]
  rcases Nat.lt_or_ge j n with hj | hj
  · rw [cellsOf_get n _ j hj, cellsOf_get n _ j hj]
    by_cases h : i = j
    · subst h; rw [if_pos rfl, if_pos hj, if_pos rfl]
    · rw [if_neg h, if_neg (fun e => h e.symm)]
  · rw [cellsOf_out n _ j hj, cellsOf_out n _ j hj]
    by_cases h : i = j
    · subst h; rw [if_pos rfl, if_neg (by omega)]
    · rw [if_neg h]
theorem cellsOf_congr {n : Nat} {f g : Nat → Value} (h : ∀ k, k < n → f k = g k) : cellsOf n f = cellsOf n g := by
  unfold cellsOf
  congr 1
  apply List.map_congr_left
  intro k hk
  exact h k (List.mem_range.1 hk)
theorem cellsOf_list (n : Nat) (f : Nat → Value) : (cellsOf n f).toList = (List.range n).map f := by simp [cellsOf]

/-- 32-bit words. -/
def w32 (f : Nat → Nat) (k : Nat) : Value := .int .u32 ((f k : Nat) : Int)
/-- An array of words in a block. -/
def Arr (w : World) (g : Nat) (t : TypeId) (n : Nat) (f : Nat → Value) : Prop := Blk w g t (cellsOf n f)
section
variable {w w' : World} {g n : Nat} {t : TypeId} {f h : Nat → Value}
theorem Arr.cell (a : Arr w g t n f) (i : Nat) (hi : i < n) : w.cell? ⟨g, i, none⟩ = some (f i) := (Blk.cell a i).trans (cellsOf_get n f i hi)
theorem Arr.free (a : Arr w g t n f) (i : Nat) : w.frozen? ⟨g, i, none⟩ = false := Blk.frozen a i
theorem Arr.set (a : Arr w g t n f) (i : Nat) (v : Value) : Arr (w.setCell ⟨g, i, none⟩ v) g t n (fun k => if k = i then v else f k) := by
  have := Blk.set_ a i v
  rwa [cellsOf_set] at this
theorem Arr.congr (a : Arr w g t n f) (e : ∀ k, k < n → f k = h k) : Arr w g t n h := by
  unfold Arr at a ⊢
  rwa [cellsOf_congr e] at a
theorem Arr.below {B : Nat} (a : Arr w g t n f) (hb : Below B w w') (hg : g < B) : Arr w' g t n f := Blk.below a hb hg
theorem Arr.alloc (a : Arr w g t n f) (o : Obj) : Arr (w.alloc o) g t n f := Blk.alloc a o
theorem Arr.far (a : Arr w g t n f) {p : Addr} (hp : g ≠ p.block) (u : Value) : Arr (w.setCell p u) g t n f := Blk.far a hp u
theorem Arr.drew (a : Arr w g t n f) : Arr w.drew g t n f := a
theorem Arr.drewN (a : Arr w g t n f) (k : Nat) : Arr (w.drewN k) g t n f := a
theorem Arr.lt (a : Arr w g t n f) : g < w.heap.size := Blk.lt a
end

/-- A whole row stored over itself. -/
theorem Blk.setCells {g : Nat} {t : TypeId} : ∀ (vs : List Value) (o : Nat) {w : World} {cs : Array Value}, Blk w g t cs → (∀ j v, vs[j]? = some v → cs[o + j]? = some v) → Blk (w.setCells g o vs) g t cs
  | [], _, _, _, h, _ => h
  | v :: vs, o, w, cs, h, hv => by
    have h0 : cs[o]? = some v := hv 0 v rfl
    have h1 : cs.setIfInBounds o v = cs := by
      apply Array.ext_getElem?
      intro i
      rw [Array.getElem?_setIfInBounds]
      split
      · rename_i e
        subst e
        rw [h0]
        rcases Nat.lt_or_ge o cs.size with hlt | hge
        · simp [hlt]
        · rw [Array.getElem?_eq_none hge] at h0; cases h0
      · rfl
    have h2 := h.set_ o v
    rw [h1] at h2
    exact Blk.setCells vs (o + 1) h2 (fun j u hu => by rw [show o + 1 + j = o + (j + 1) by omega]; exact hv (j + 1) u (by simpa using hu))
theorem below_setCells {B g : Nat} {a : World} (hg : B ≤ g) : ∀ (vs : List Value) (o : Nat) {w : World}, Below B a w → Below B a (w.setCells g o vs)
  | [], _, _, h => h
  | v :: vs, o, _, h => below_setCells hg vs (o + 1) (h.setCell (p := ⟨g, o, none⟩) hg v)
theorem Blk.there {w : World} {g : Nat} {t : TypeId} {cs : Array Value} (h : Blk w g t cs) : w.there g 0 cs.size := fun j hj => by
  rw [Nat.zero_add, h.cell, h.frozen]
  exact ⟨by rw [Array.getElem?_eq_getElem hj]; rfl, rfl⟩
/-- Only block g has turned. -/
theorem only_set {a w : World} {g : Nat} (h : a.grownBy w (some g)) (i : Nat) (u : Value) : a.grownBy (w.setCell ⟨g, i, none⟩ u) (some g) :=
  ⟨h.os, h.tape, h.output, by simpa [World.setCell] using h.size, fun k hk hne => (Below.heap_setCell w ⟨g, i, none⟩ u k (fun e => hne (by rw [e]))).trans (h.block k hk hne)⟩
theorem only_drew {a w : World} {row : Option Nat} (h : a.grownBy w row) : a.grownBy w.drew row := ⟨h.os, h.tape, h.output, h.size, h.block⟩
theorem only_drewN {a w : World} {row : Option Nat} (h : a.grownBy w row) (n : Nat) : a.grownBy (w.drewN n) row := ⟨h.os, h.tape, h.output, h.size, h.block⟩
theorem only_alloc {a w : World} {row : Option Nat} (h : a.grownBy w row) (o : Obj) : a.grownBy (w.alloc o) row :=
  ⟨h.os, h.tape, h.output, Nat.le_trans h.size (by simp), fun k hk hne => (Below.heap_alloc w o k (Nat.lt_of_lt_of_le hk h.size)).trans (h.block k hk hne)⟩
theorem only_new {a w : World} {row : Option Nat} (h : a.grownBy w row) {p : Addr} (hp : a.heap.size ≤ p.block) (u : Value) : a.grownBy (w.setCell p u) row :=
  ⟨h.os, h.tape, h.output, by simpa [World.setCell] using h.size, fun k hk hne => (Below.heap_setCell w p u k (by omega)).trans (h.block k hk hne)⟩
theorem only_below {a w : World} {g B : Nat} (h : a.grownBy w (some g)) (hB : B ≤ a.heap.size) (hg : B ≤ g) : Below B a w :=
  ⟨h.os, h.tape, h.output, h.size, fun k hk => h.block k (by omega) (fun e => by injection e with e; omega)⟩

/-- A row that stands at the head of a block: loaded whole. -/
theorem load_arr {P : Program} {ops : Array Oper} {rest : List Oper} {o : Oper} {a : Act} {w : World} {Q : Exit → Act → World → Prop} (hgd : o.guard = none) (ty : TypeId) (x : Operand) (ho : o.op = .load ty x)
    {g : Nat} (hx : a.eval x = .pointer (some ⟨g, 0, none⟩)) {t : TypeId} {n : Nat} {f : Nat → Value} {d : TypeDesc} (hA : Arr w g t n f)
    (hu : P.underlying ty = some d) (hd : (match d with | .struct _ | .array _ _ => true | _ => false) = true) (hi : (P.info? ty).map (·.size) = some n)
    (h : wpList P ops Q rest (a.put o.dst (.agg (cellsOf n f))) w) : wpList P ops Q (o :: rest) a w :=
  wpList_load_row hgd ty x ho g hx t (cellsOf n f) (0, 0) d hA hu hd (by rw [hi, cellsOf_size]) h
/-- .. and stored over itself. -/
theorem store_arr {P : Program} {ops : Array Oper} {rest : List Oper} {o : Oper} {a : Act} {w : World} {Q : Exit → Act → World → Prop} (hgd : o.guard = none) (ty : TypeId) (x y : Operand) (ho : o.op = .store ty x y)
    {g : Nat} (hx : a.eval x = .pointer (some ⟨g, 0, none⟩)) {t : TypeId} {n : Nat} {f : Nat → Value} (hy : a.eval y = .agg (cellsOf n f)) (hA : Arr w g t n f)
    (hi : (P.info? ty).map (·.size) = some n) (h1 : ∀ k, k < n → (f k).oneCell' = true) {B : Nat} {w0 : World} (hb : Below B w0 w) (hg : B ≤ g)
    (h : ∀ w', Arr w' g t n f → Below B w0 w' → wpList P ops Q rest (a.put o.dst undef) w') : wpList P ops Q (o :: rest) a w := by
  refine wpList_store_mid hgd ty x y ho g 0 (cellsOf n f) hx hy (Blk.there hA) (by rw [hi, cellsOf_size]) ?_ (h _ (Blk.setCells _ _ hA ?_) (below_setCells hg _ _ hb))
  · apply all_oneCell_toArray
    intro v hv
    obtain ⟨k, hk, rfl⟩ := List.mem_map.1 hv
    exact h1 k (List.mem_range.1 hk)
  · intro j v hv
    rw [cellsOf_list] at hv
    rw [Nat.zero_add, ← hv]
    simp [cellsOf]
/-- A row stored into a new block. -/
theorem store_new {P : Program} {ops : Array Oper} {rest : List Oper} {o : Oper} {a : Act} {W : World} {Q : Exit → Act → World → Prop} (hgd : o.guard = none) (ty : TypeId) (x y : Operand) (ho : o.op = .store ty x y)
    (g : Nat) (cells : Array Value) (hx : a.eval x = .pointer (some ⟨g, 0, none⟩)) (hy : a.eval y = .agg cells) (hgs : g = W.heap.size)
    (t : TypeId) (old : Array Value) (hi : (P.info? ty).map (·.size) = some cells.size)
    (hold : old.size = cells.size) (h1 : cells.all (·.oneCell') = true)
    (h : wpList P ops Q rest (a.put o.dst undef) (W.alloc (.cells cells t))) : wpList P ops Q (o :: rest) a (W.alloc (.cells old t)) := by
  subst hgs
  refine wpList_store_row hgd ty x y ho W.heap.size cells hx hy t old (heap_alloc_last W _) hi hold h1 ?_
  rw [World.setRow_alloc_new]
  exact h
theorem cellsOf_one {n : Nat} {f : Nat → Value} (h : ∀ k, k < n → (f k).oneCell' = true) : (cellsOf n f).all (·.oneCell') = true := by
  apply all_oneCell_toArray
  intro v hv
  obtain ⟨k, hk, rfl⟩ := List.mem_map.1 hv
  exact h k (List.mem_range.1 hk)

/-! ### make, any length; a slice under way beside a block that turns -/
theorem makes {P : Program} {w : World} {ops : Array Oper} {rest : List Oper} {o : Oper} {a : Act} {Q : Exit → Act → World → Prop} {t e : TypeId} {size bytes : Nat} (E : Elem P t e size bytes) {z : Value} (hz : (P.info? e).map (fun i => i.zero) = some (some z))
    (hg : o.guard = none) (l c : Operand) (hop : o.op = Op.makeSlice t l c) (n : Nat) {L : Int} (hl : a.eval l = .int .i64 L) (hc : a.eval c = .int .i64 L) (hL : L = (n : Int)) (hn : n ≤ 1000000000) (hby : bytes ≤ 1000) (xs : List Value) (hxs : (madeCells z.cells (n * size)).toList = xs)
    (h : ∀ w', Builds w w' e size (some ⟨w.heap.size, 0, none⟩) n n xs → wpList P ops Q rest (a.put o.dst (.slice (some ⟨w.heap.size, 0, none⟩) n n)) w') : wpList P ops Q (o :: rest) a w := by
  obtain ⟨i, z', hi, hz', hsize, hbytes, hzs⟩ := E.inf
  have : z' = z := by rw [hi] at hz; simp only [Option.map_some, Option.some.injEq] at hz; rw [hz'] at hz; exact Option.some.inj hz
  subst this
  subst hxs
  refine wpList_make_full w hg l c t hop w.heap.size e i z' size E.und hi hz' hsize .i64 .i64 L L n hl hc hL hL ?_ (by simp only [maxLen]; omega) (Nat.le_refl _) (fun w' h1 h2 => h w' ⟨(Below.refl _ _).grown h2 (Nat.le_refl _) (fun k hk => by cases hk), h1⟩)
  rw [hbytes]
  exact Nat.le_trans (Nat.mul_le_mul hby hn) (by omega)
theorem made_prs {α : Type} {f g : α → Value} (x : α) {z : Value} (hz : z.cells = #[f x, g x]) (n : Nat) : (madeCells z.cells (n * 2)).toList = prs f g (List.replicate n x) := by
  rw [hz]
  apply List.ext_getElem?
  intro j
  rcases Nat.lt_or_ge j (n * 2) with hj | hj
  · have e : (madeCells #[f x, g x] (n * 2)).toList[j]? = some (#[f x, g x][j % 2]!) := by
      simp [madeCells, hj]
    rw [e]
    have hi : j / 2 < n := by omega
    obtain ⟨h1, h2⟩ := prs_get (f := f) (g := g) (List.replicate n x) (j / 2) x (by simp [hi])
    rcases Nat.mod_two_eq_zero_or_one j with hm | hm
    · rw [show j = 2 * (j / 2) by omega, h1, show 2 * (j / 2) % 2 = 0 by omega]; rfl
    · rw [show j = 2 * (j / 2) + 1 by omega, h2, show (2 * (j / 2) + 1) % 2 = 1 by omega]; rfl
  · rw [List.getElem?_eq_none (by simp [madeCells]; omega), List.getElem?_eq_none (by rw [prs_length]; simp; omega)]
theorem prs_set {α : Type} {f g : α → Value} (l : List α) (i : Nat) (x : α) (h : i < l.length) : ((prs f g l).set (i * 2) (f x)).set (i * 2 + 1) (g x) = prs f g (l.set i x) := by
  induction l generalizing i with
  | nil => simp at h
  | cons a l ih =>
    cases i with
    | zero => simp [prs]
    | succ i =>
      have := ih i (by simpa using h)
      rw [show (i + 1) * 2 = i * 2 + 1 + 1 by omega, show i * 2 + 1 + 1 + 1 = (i * 2 + 1) + 1 + 1 by omega]
      simp only [prs, List.flatMap_cons, List.cons_append, List.nil_append, List.set_cons_succ, List.set_cons_succ] at this ⊢
      rw [this]
theorem Builds.only {W w w' : World} {e t : TypeId} {size n c g : Nat} {A : Option Addr} {xs : List Value} {cs : Array Value} (h : Builds W w e size A n c xs) (hg : w.grownBy w' (some g)) (hB : Blk w g t cs) (hne : e ≠ t) (hW : W.heap.size ≤ g) : Builds W w' e size A n c xs := by
  refine ⟨h.1.grown hg h.1.size (fun k hk => by injection hk with hk; omega), h.2.kept hg (.inr ?_)⟩
  exact own_blk_ne h.2 hB hne
theorem Blk.only {w w' : World} {t : TypeId} {g g' : Nat} {cs : Array Value} (h : Blk w g t cs) (hg : w.grownBy w' (some g')) (hne : g ≠ g') : Blk w' g t cs := h.grown hg (fun e => hne (by injection e))
end Go.Proofs.Ytolcekbldpdmpaa
