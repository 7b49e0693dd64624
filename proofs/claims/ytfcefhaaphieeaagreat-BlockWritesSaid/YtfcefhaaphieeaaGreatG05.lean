/-
  Arrays that are known whole: cells by a function. No program in sight.
-/
import Derived.Deep.MidRow
import Derived.Deep.WholeRow
import Derived.Laws.Rows
import Derived.Test.YtfcefhaaphieeaaGreatG03
import Derived.Test.YtfcefhaaphieeaaGreatG04
namespace Go.Proofs.YtfcefhaaphieeaaGreat
open Go.RowKit

/-- n cells, by a function. -/
def cellsOf (n : Nat) (f : Nat → Value) : Array Value := ((List.range n).map f).toArray
theorem cellsOf_size (n : Nat) (f : Nat → Value) : (cellsOf n f).size = n := by simp [cellsOf]
theorem cellsOf_get (n : Nat) (f : Nat → Value) (i : Nat) (h : i < n) : (cellsOf n f)[i]? = some (f i) := by simp [cellsOf, h]
theorem cellsOf_out (n : Nat) (f : Nat → Value) (i : Nat) (h : n ≤ i) : (cellsOf n f)[i]? = none := Array.getElem?_eq_none (by rw [cellsOf_size]; exact h)
theorem cellsOf_set (n : Nat) (f : Nat → Value) (i : Nat) (v : Value) : (cellsOf n f).setIfInBounds i v = cellsOf n (fun k => if k = i then v else f k) := by
  apply Array.ext_getElem?
  intro j
  rw [Array.getElem?_setIfInBounds, cellsOf_size]
  rcases Nat.lt_or_ge j n with hj | hj
  · rw [cellsOf_get n _ j hj, cellsOf_get n _ j hj]
    by_cases h : i = j
    · subst h; rw [if_pos rfl, if_pos hj, if_pos rfl]
    · rw [if_neg h, if_neg (fun e => h e.symm)]
  · rw [cellsOf_out n _ j hj, cellsOf_out n _ j hj]
    by_cases h : i = j
    · subst h; rw [if_pos rfl, if_neg (by omega)]
    · rw [if_neg h]
theorem cellsOf_congr {n : Nat} {f g : Nat → Value} (h : ∀ k, k < n → f k = g k) : cellsOf n f = cellsOf n g := by
  unfold cellsOf
  congr 1
  apply List.map_congr_left
  intro k hk
  exact h k (List.mem_range.1 hk)
theorem cellsOf_list (n : Nat) (f : Nat → Value) : (cellsOf n f).toList = (List.range n).map f := by simp [cellsOf]

/-- 32-bit words. -/
def w32 (f : Nat → Nat) (k : Nat) : Value := .int .u32 ((f k : Nat) : Int)
/-- An array of words in a block. -/
def Arr (w : World) (g : Nat) (t : TypeId) (n : Nat) (f : Nat → Value) : Prop := Blk w g t (cellsOf n f)
section
variable {w w' : World} {g n : Nat} {t : TypeId} {f h : Nat → Value}
theorem Arr.cell (a : Arr w g t n f) (i : Nat) (hi : i < n) : w.cell? ⟨g, i, none⟩ = some (f i) := (Blk.cell a i).trans (cellsOf_get n f i hi)
theorem Arr.free (a : Arr w g t n f) (i : Nat) : w.frozen? ⟨g, i, none⟩ = false := Blk.frozen a i
theorem Arr.set (a : Arr w g t n f) (i : Nat) (v : Value) : Arr (w.setCell ⟨g, i, none⟩ v) g t n (fun k => if k = i then v else f k) := by
  have := Blk.set_ a i v
  rwa [cellsOf_set] at this
theorem Arr.congr (a : Arr w g t n f) (e : ∀ k, k < n → f k = h k) : Arr w g t n h := by
  unfold Arr at a ⊢
  rwa [cellsOf_congr e] at a
theorem Arr.below {B : Nat} (a : Arr w g t n f) (hb : Below B w w') (hg : g < B) : Arr w' g t n f := Blk.below a hb hg
theorem Arr.alloc (a : Arr w g t n f) (o : Obj) : Arr (w.alloc o) g t n f := Blk.alloc a o
theorem Arr.far (a : Arr w g t n f) {p : Addr} (hp : g ≠ p.block) (u : Value) : Arr (w.setCell p u) g t n f := Blk.far a hp u
theorem Arr.drew (a : Arr w g t n f) : Arr w.drew g t n f := a
theorem Arr.drewN (a : Arr w g t n f) (k : Nat) : Arr (w.drewN k) g t n f := a
theorem Arr.lt (a : Arr w g t n f) : g < w.heap.size := Blk.lt a
end

/-- A whole row stored over itself. -/
theorem Blk.setCells {g : Nat} {t : TypeId} : ∀ (vs : List Value) (o : Nat) {w : World} {cs : Array Value}, Blk w g t cs → (∀ j v, vs[j]? = some v → cs[o + j]? = some v) → Blk (w.setCells g o vs) g t cs
  | [], _, _, _, h, _ => h
  | v :: vs, o, w, cs, h, hv => by
    have h0 : cs[o]? = some v := hv 0 v rfl
    have h1 : cs.setIfInBounds o v = cs := by
      apply Array.ext_getElem?
      intro i
      rw [Array.getElem?_setIfInBounds]
      split
      · rename_i e
        subst e
        rw [h0]
        rcases Nat.lt_or_ge o cs.size with hlt | hge
        · simp [hlt]
        · rw [Array.getElem?_eq_none hge] at h0; cases h0
      · rfl
    have h2 := h.set_ o v
    rw [h1] at h2
    exact Blk.setCells vs (o + 1) h2 (fun j u hu => by rw [show o + 1 + j = o + (j + 1) by omega]; exact hv (j + 1) u (by simpa using hu))
theorem below_setCells {B g : Nat} {a : World} (hg : B ≤ g) : ∀ (vs : List Value) (o : Nat) {w : World}, Below B a w → Below B a (w.setCells g o vs)
  | [], _, _, h => h
  | v :: vs, o, _, h => below_setCells hg vs (o + 1) (h.setCell (p := ⟨g, o, none⟩) hg v)
theorem Blk.there {w : World} {g : Nat} {t : TypeId} {cs : Array Value} (h : Blk w g t cs) : w.there g 0 cs.size := fun j hj => by
  rw [Nat.zero_add, h.cell, h.frozen]
  exact ⟨by rw [Array.getElem?_eq_getElem hj]; rfl, rfl⟩
/-- Only block g has turned. -/
theorem only_set {a w : World} {g : Nat} (h : a.grownBy w (some g)) (i : Nat) (u : Value) : a.grownBy (w.setCell ⟨g, i, none⟩ u) (some g) :=
  ⟨h.os, h.tape, h.output, by simpa [World.setCell] using h.size, fun k hk hne => (Below.heap_setCell w ⟨g, i, none⟩ u k (fun e => hne (by rw [e]))).trans (h.block k hk hne)⟩
theorem only_drew {a w : World} {row : Option Nat} (h : a.grownBy w row) : a.grownBy w.drew row := ⟨h.os, h.tape, h.output, h.size, h.block⟩
theorem only_drewN {a w : World} {row : Option Nat} (h : a.grownBy w row) (n : Nat) : a.grownBy (w.drewN n) row := ⟨h.os, h.tape, h.output, h.size, h.block⟩
theorem only_alloc {a w : World} {row : Option Nat} (h : a.grownBy w row) (o : Obj) : a.grownBy (w.alloc o) row :=
  ⟨h.os, h.tape, h.output, Nat.le_trans h.size (by simp), fun k hk hne => (Below.heap_alloc w o k (Nat.lt_of_lt_of_le hk h.size)).trans (h.block k hk hne)⟩
theorem only_new {a w : World} {row : Option Nat} (h : a.grownBy w row) {p : Addr} (hp : a.heap.size ≤ p.block) (u : Value) : a.grownBy (w.setCell p u) row :=
  ⟨h.os, h.tape, h.output, by simpa [World.setCell] using h.size, fun k hk hne => (Below.heap_setCell w p u k (by omega)).trans (h.block k hk hne)⟩
theorem only_below {a w : World} {g B : Nat} (h : a.grownBy w (some g)) (hB : B ≤ a.heap.size) (hg : B ≤ g) : Below B a w :=
  ⟨h.os, h.tape, h.output, h.size, fun k hk => h.block k (by omega) (fun e => by injection e with e; omega)⟩

/-- A row that stands at the head of a block: loaded whole. -/
theorem load_arr {P : Program} {ops : Array Oper} {rest : List Oper} {o : Oper} {a : Act} {w : World} {Q : Exit → Act → World → Prop} (hgd : o.guard = none) (ty : TypeId) (x : Operand) (ho : o.op = .load ty x)
    {g : Nat} (hx : a.eval x = .pointer (some ⟨g, 0, none⟩)) {t : TypeId} {n : Nat} {f : Nat → Value} {d : TypeDesc} (hA : Arr w g t n f)
    (hu : P.underlying ty = some d) (hd : (match d with | .struct _ | .array _ _ => true | _ => false) = true) (hi : (P.info? ty).map (·.size) = some n)
    (h : wpList P ops Q rest (a.put o.dst (.agg (cellsOf n f))) w) : wpList P ops Q (o :: rest) a w :=
  wpList_load_row hgd ty x ho g hx t (cellsOf n f) (0, 0) d hA hu hd (by rw [hi, cellsOf_size]) h
/-- .. and stored over itself. -/
theorem store_arr {P : Program} {ops : Array Oper} {rest : List Oper} {o : Oper} {a : Act} {w : World} {Q : Exit → Act → World → Prop} (hgd : o.guard = none) (ty : TypeId) (x y : Operand) (ho : o.op = .store ty x y)
    {g : Nat} (hx : a.eval x = .pointer (some ⟨g, 0, none⟩)) {t : TypeId} {n : Nat} {f : Nat → Value} (hy : a.eval y = .agg (cellsOf n f)) (hA : Arr w g t n f)
    (hi : (P.info? ty).map (·.size) = some n) (h1 : ∀ k, k < n → (f k).oneCell' = true) {B : Nat} {w0 : World} (hb : Below B w0 w) (hg : B ≤ g)
    (h : ∀ w', Arr w' g t n f → Below B w0 w' → wpList P ops Q rest (a.put o.dst undef) w') : wpList P ops Q (o :: rest) a w := by
  refine wpList_store_mid hgd ty x y ho g 0 (cellsOf n f) hx hy (Blk.there hA) (by rw [hi, cellsOf_size]) ?_ (h _ (Blk.setCells _ _ hA ?_) (below_setCells hg _ _ hb))
  · apply all_oneCell_toArray
    intro v hv
    obtain ⟨k, hk, rfl⟩ := List.mem_map.1 hv
    exact h1 k (List.mem_range.1 hk)
  · intro j v hv
    rw [cellsOf_list] at hv
    rw [Nat.zero_add, ← hv]
    simp [cellsOf]
/-- A row stored into a new block. -/
theorem store_new {P : Program} {ops : Array Oper} {rest : List Oper} {o : Oper} {a : Act} {W : World} {Q : Exit → Act → World → Prop} (hgd : o.guard = none) (ty : TypeId) (x y : Operand) (ho : o.op = .store ty x y)
    (g : Nat) (cells : Array Value) (hx : a.eval x = .pointer (some ⟨g, 0, none⟩)) (hy : a.eval y = .agg cells) (hgs : g = W.heap.size)
    (t : TypeId) (old : Array Value) (hi : (P.info? ty).map (·.size) = some cells.size)
    (hold : old.size = cells.size) (h1 : cells.all (·.oneCell') = true)
    (h : wpList P ops Q rest (a.put o.dst undef) (W.alloc (.cells cells t))) : wpList P ops Q (o :: rest) a (W.alloc (.cells old t)) := by
  subst hgs
  refine wpList_store_row hgd ty x y ho W.heap.size cells hx hy t old (heap_alloc_last W _) hi hold h1 ?_
  rw [World.setRow_alloc_new]
  exact h
theorem cellsOf_one {n : Nat} {f : Nat → Value} (h : ∀ k, k < n → (f k).oneCell' = true) : (cellsOf n f).all (·.oneCell') = true := by
  apply all_oneCell_toArray
  intro v hv
  obtain ⟨k, hk, rfl⟩ := List.mem_map.1 hv
  exact h k (List.mem_range.1 hk)

/-! ### make, any length; a slice under way beside a block that turns -/
theorem makes {P : Program} {w : World} {ops : Array Oper} {rest : List Oper} {o : Oper} {a : Act} {Q : Exit → Act → World → Prop} {t e : TypeId} {size bytes : Nat} (E : Elem P t e size bytes) {z : Value} (hz : (P.info? e).map (fun i => i.zero) = some (some z))
    (hg : o.guard = none) (l c : Operand) (hop : o.op = Op.makeSlice t l c) (n : Nat) {L : Int} (hl : a.eval l = .int .i64 L) (hc : a.eval c = .int .i64 L) (hL : L = (n : Int)) (hn : n ≤ 1000000000) (hby : bytes ≤ 1000) (xs : List Value) (hxs : (madeCells z.cells (n * size)).toList = xs)
    (h : ∀ w', Builds w w' e size (some ⟨w.heap.size, 0, none⟩) n n xs → wpList P ops Q rest (a.put o.dst (.slice (some ⟨w.heap.size, 0, none⟩) n n)) w') : wpList P ops Q (o :: rest) a w := by
  obtain ⟨i, z', hi, hz', hsize, hbytes, hzs⟩ := E.inf
  have : z' = z := by rw [hi] at hz; simp only [Option.map_some, Option.some.injEq] at hz; rw [hz'] at hz; exact Option.some.inj hz
  subst this
  subst hxs
  refine wpList_make_full w hg l c t hop w.heap.size e i z' size E.und hi hz' hsize .i64 .i64 L L n hl hc hL hL ?_ (by simp only [maxLen]; omega) (Nat.le_refl _) (fun w' h1 h2 => h w' ⟨(Below.refl _ _).grown h2 (Nat.le_refl _) (fun k hk => by cases hk), h1⟩)
  rw [hbytes]
  exact Nat.le_trans (Nat.mul_le_mul hby hn) (by omega)
theorem made_prs {α : Type} {f g : α → Value} (x : α) {z : Value} (hz : z.cells = #[f x, g x]) (n : Nat) : (madeCells z.cells (n * 2)).toList = prs f g (List.replicate n x) := by
  rw [hz]
  apply List.ext_getElem?
  intro j
  rcases Nat.lt_or_ge j (n * 2) with hj | hj
  · have e : (madeCells #[f x, g x] (n * 2)).toList[j]? = some (#[f x, g x][j % 2]!) := by
      simp [madeCells, hj]
    rw [e]
    have hi : j / 2 < n := by omega
    obtain ⟨h1, h2⟩ := prs_get (f := f) (g := g) (List.replicate n x) (j / 2) x (by simp [hi])
    rcases Nat.mod_two_eq_zero_or_one j with hm | hm
    · rw [show j = 2 * (j / 2) by omega, h1, show 2 * (j / 2) % 2 = 0 by omega]; rfl
    · rw [show j = 2 * (j / 2) + 1 by omega, h2, show (2 * (j / 2) + 1) % 2 = 1 by omega]; rfl
  · rw [List.getElem?_eq_none (by simp [madeCells]; omega), List.getElem?_eq_none (by rw [prs_length]; simp; omega)]
theorem prs_set {α : Type} {f g : α → Value} (l : List α) (i : Nat) (x : α) (h : i < l.length) : ((prs f g l).set (i * 2) (f x)).set (i * 2 + 1) (g x) = prs f g (l.set i x) := by
  induction l generalizing i with
  | nil => simp at h
  | cons a l ih =>
    cases i with
    | zero => simp [prs]
    | succ i =>
      have := ih i (by simpa using h)
      rw [show (i + 1) * 2 = i * 2 + 1 + 1 by omega, show i * 2 + 1 + 1 + 1 = (i * 2 + 1) + 1 + 1 by omega]
      simp only [prs, List.flatMap_cons, List.cons_append, List.nil_append, List.set_cons_succ, List.set_cons_succ] at this ⊢
      rw [this]
theorem Builds.only {W w w' : World} {e t : TypeId} {size n c g : Nat} {A : Option Addr} {xs : List Value} {cs : Array Value} (h : Builds W w e size A n c xs) (hg : w.grownBy w' (some g)) (hB : Blk w g t cs) (hne : e ≠ t) (hW : W.heap.size ≤ g) : Builds W w' e size A n c xs := by
  refine ⟨h.1.grown hg h.1.size (fun k hk => by injection hk with hk; omega), h.2.kept hg (.inr ?_)⟩
  exact own_blk_ne h.2 hB hne
theorem Blk.only {w w' : World} {t : TypeId} {g g' : Nat} {cs : Array Value} (h : Blk w g t cs) (hg : w.grownBy w' (some g')) (hne : g ≠ g') : Blk w' g t cs := h.grown hg (fun e => hne (by injection e))
end Go.Proofs.YtfcefhaaphieeaaGreat

/-
  Plain: lengths, what they count together, and their codes. No program in sight.
-/
namespace Go.Proofs.YtfcefhaaphieeaaGreat

/-- What a length counts, of 2^15. -/
def pw (n : Nat) : Nat := 2 ^ (15 - n)
theorem pw_pos (n : Nat) : 1 ≤ pw n := Nat.one_le_two_pow
theorem pw_le (n : Nat) : pw n ≤ 32768 := by
  have := Nat.pow_le_pow_right (n := 2) (by omega) (show 15 - n ≤ 15 by omega)
  exact this
theorem pw_succ {n : Nat} (h : n < 15) : pw n = 2 * pw (n + 1) := by
  unfold pw
  rw [show 15 - n = (15 - (n + 1)) + 1 by omega, Nat.pow_succ, Nat.mul_comm]

/-- How many there are of a length. -/
def cnt (l : List Nat) (n : Nat) : Nat := if n = 0 then 0 else l.count n
theorem cnt_nil (n : Nat) : cnt [] n = 0 := by unfold cnt; split <;> simp
theorem cnt_snoc (l : List Nat) (x n : Nat) : cnt (l ++ [x]) n = if n ≠ 0 ∧ n = x then cnt l n + 1 else cnt l n := by
  unfold cnt
  by_cases h0 : n = 0
  · rw [if_pos h0, if_pos h0]; exact (if_neg (fun h : n ≠ 0 ∧ n = x => h.1 h0)).symm
  · rw [if_neg h0, if_neg h0, List.count_append, List.count_singleton]
    by_cases h1 : n = x
    · subst h1
      rw [beq_self_eq_true]
      rw [if_pos rfl]
      exact (if_pos ⟨h0, rfl⟩).symm
    · have e : (x == n) = false := beq_eq_false_iff_ne.2 (fun h => h1 h.symm)
      rw [e]
      exact (if_neg (fun h : n ≠ 0 ∧ n = x => h1 h.2)).symm
theorem cnt_le (l : List Nat) (n : Nat) : cnt l n ≤ l.length := by
  unfold cnt
  split
  · omega
  · exact List.count_le_length
theorem take_snoc (l : List Nat) (i : Nat) (h : i < l.length) : l.take (i + 1) = l.take i ++ [nth l i] := by
  rw [List.take_succ_eq_append_getElem h]
  simp [nth, List.getElem?_eq_getElem h]
theorem cnt_take_le (l : List Nat) (n i : Nat) : cnt (l.take i) n ≤ cnt l n := by
  unfold cnt
  split
  · omega
  · exact (List.take_sublist i l).count_le n

/-- The first code of each length: of counts. -/
def frF (c : Nat → Nat) : Nat → Nat
  | 0 => 0
  | n + 1 => (frF c n + c n) * 2
/-- What all shorter ones count. -/
def atF (c : Nat → Nat) : Nat → Nat
  | 0 => 0
  | n + 1 => atF c n + c n * pw n
theorem atF_mono (c : Nat → Nat) {a b : Nat} (h : a ≤ b) : atF c a ≤ atF c b := by
  induction h with
  | refl => exact Nat.le_refl _
  | step _ ih => exact Nat.le_trans ih (Nat.le_add_right _ _)
theorem fr_at (c : Nat → Nat) (h0 : c 0 = 0) : ∀ n, n ≤ 15 → frF c n * pw n = atF c n
  | 0, _ => by simp [frF, atF]
  | n + 1, h => by
    have ih := fr_at c h0 n (by omega)
    have hp := pw_succ (n := n) (by omega)
    show (frF c n + c n) * 2 * pw (n + 1) = atF c n + c n * pw n
    rw [← ih, Nat.mul_assoc, ← hp, Nat.add_mul]
/-- What lengths count together; how many there are. -/
def kraft (l : List Nat) : Nat := (l.map fun x => if x = 0 then 0 else pw x).sum
def used (l : List Nat) : Nat := (l.filter fun x => decide (0 < x)).length
theorem kraft_snoc (l : List Nat) (x : Nat) : kraft (l ++ [x]) = kraft l + if x = 0 then 0 else pw x := by simp [kraft]
theorem used_snoc (l : List Nat) (x : Nat) : used (l ++ [x]) = used l + if x = 0 then 0 else 1 := by
  unfold used
  rw [List.filter_append, List.length_append]
  by_cases h : x = 0
  · subst h; simp
  · rw [if_neg h, List.filter_cons, if_pos (by simp; omega)]; rfl
theorem used_le (l : List Nat) : used l ≤ l.length := List.length_filter_le _ _
theorem kraft_le (l : List Nat) : kraft l ≤ l.length * 32768 := by
  induction l with
  | nil => simp [kraft]
  | cons x l ih =>
    have e : kraft (x :: l) = (if x = 0 then 0 else pw x) + kraft l := by simp [kraft]
    have := pw_le x
    rw [e, List.length_cons]
    split <;> omega
theorem kraft_take_le (l : List Nat) (i : Nat) : kraft (l.take i) ≤ i * 32768 :=
  Nat.le_trans (kraft_le (l.take i)) (Nat.mul_le_mul_right _ (List.length_take_le _ _))
theorem atF_snoc (l : List Nat) (x n : Nat) : atF (cnt (l ++ [x])) n = atF (cnt l) n + if x ≠ 0 ∧ x < n then pw x else 0 := by
  induction n with
  | zero => simp [atF]
  | succ n ih =>
    show atF (cnt (l ++ [x])) n + cnt (l ++ [x]) n * pw n = atF (cnt l) n + cnt l n * pw n + _
    rw [ih, cnt_snoc]
    by_cases h1 : n ≠ 0 ∧ n = x
    · have e1 : n = x := h1.2
      rw [if_pos h1, if_neg (by omega), if_pos ⟨by omega, by omega⟩, ← e1, Nat.add_mul]; omega
    · rw [if_neg h1]
      by_cases h2 : x ≠ 0 ∧ x < n
      · rw [if_pos h2, if_pos ⟨h2.1, by omega⟩]; omega
      · rw [if_neg h2, if_neg (by omega)]
        omega
theorem kraft_at (l : List Nat) (h : ∀ x ∈ l, x ≤ 15) : kraft l = atF (cnt l) 16 := by
  have key : ∀ i, i ≤ l.length → kraft (l.take i) = atF (cnt (l.take i)) 16 := by
    intro i
    induction i with
    | zero =>
      intro _
      simp only [List.take_zero]
      have : ∀ n, atF (cnt []) n = 0 := by
        intro n
        induction n with
        | zero => rfl
        | succ n ih => show atF (cnt []) n + cnt [] n * pw n = 0; rw [ih, cnt_nil]; simp
      rw [this]; rfl
    | succ i ih =>
      intro hi
      have hx : nth l i ≤ 15 := by
        have e : nth l i = l[i] := by simp [nth, List.getElem?_eq_getElem (show i < l.length by omega)]
        rw [e]; exact h _ (List.getElem_mem _)
      rw [take_snoc l i (by omega), kraft_snoc, atF_snoc, ih (by omega)]
      by_cases h0 : nth l i = 0
      · rw [if_pos h0, if_neg (fun h => h.1 h0)]
      · rw [if_neg h0, if_pos ⟨h0, by omega⟩]
  have := key l.length (Nat.le_refl _)
  rwa [List.take_length] at this

/-- What is wrong with lengths. -/
def canE (l : List Nat) (m : Int) : Nat :=
  if m < 1 ∨ 15 < m then 2 else if 320 < l.length then 4 else if l.all (fun x => decide ((x : Int) ≤ m)) then
    if 32768 < kraft l then 30 else if kraft l = 32768 ∨ used l = 0 ∨ used l = 1 ∧ kraft l = 16384 then 0 else 31
  else 2
theorem canE_le (l : List Nat) (m : Int) : canE l m ≤ 31 := by
  unfold canE
  generalize kraft l = K
  generalize used l = U
  by_cases h1 : m < 1 ∨ 15 < m
  · rw [if_pos h1]; omega
  · rw [if_neg h1]
    by_cases h2 : 320 < l.length
    · rw [if_pos h2]; omega
    · rw [if_neg h2]
      by_cases h3 : l.all (fun x => decide ((x : Int) ≤ m)) = true
      · rw [if_pos h3]
        split
        · omega
        · split <;> omega
      · rw [if_neg h3]; omega
theorem canE_ok {l : List Nat} {m : Int} (h : canE l m = 0) : 1 ≤ m ∧ m ≤ 15 ∧ l.length ≤ 320 ∧ (∀ x ∈ l, (x : Int) ≤ m) ∧ kraft l ≤ 32768 ∧ (kraft l = 32768 ∨ used l = 0 ∨ used l = 1 ∧ kraft l = 16384) := by
  unfold canE at h
  by_cases h1 : m < 1 ∨ 15 < m
  · rw [if_pos h1] at h; omega
  · rw [if_neg h1] at h
    by_cases h2 : 320 < l.length
    · rw [if_pos h2] at h; omega
    · rw [if_neg h2] at h
      by_cases h3 : l.all (fun x => decide ((x : Int) ≤ m)) = true
      · rw [if_pos h3] at h
        by_cases h4 : 32768 < kraft l
        · rw [if_pos h4] at h; omega
        · rw [if_neg h4] at h
          by_cases h5 : kraft l = 32768 ∨ used l = 0 ∨ used l = 1 ∧ kraft l = 16384
          · exact ⟨by omega, by omega, by omega, fun x hx => of_decide_eq_true (List.all_eq_true.1 h3 x hx), by omega, h5⟩
          · rw [if_neg h5] at h; omega
      · rw [if_neg h3] at h; omega

/-- The code of a place: its bits and their number. -/
def codeAt (l : List Nat) (i : Nat) : Nat × Nat := if nth l i = 0 then (0, 0) else (frF (cnt l) (nth l i) + cnt (l.take i) (nth l i), nth l i)
/-- The codes of lengths. -/
def codesL (l : List Nat) : List (Nat × Nat) := (List.range l.length).map (codeAt l)
theorem codesL_length (l : List Nat) : (codesL l).length = l.length := by simp [codesL]

theorem fr_le {l : List Nat} (h15 : ∀ x ∈ l, x ≤ 15) (hk : kraft l ≤ 32768) {n : Nat} (hn : n ≤ 15) : (frF (cnt l) n + cnt l n) * pw n ≤ 32768 := by
  have h0 : cnt l 0 = 0 := by simp [cnt]
  have h1 := fr_at (cnt l) h0 n hn
  have h2 : atF (cnt l) (n + 1) ≤ atF (cnt l) 16 := atF_mono _ (by omega)
  rw [Nat.add_mul, h1]
  have h3 : atF (cnt l) (n + 1) = atF (cnt l) n + cnt l n * pw n := rfl
  rw [← kraft_at l h15] at h2
  omega
theorem fr_le' {l : List Nat} (h15 : ∀ x ∈ l, x ≤ 15) (hk : kraft l ≤ 32768) {n : Nat} (hn : n ≤ 15) : frF (cnt l) n + cnt l n ≤ 32768 := by
  have h1 := fr_le h15 hk hn
  have h2 := Nat.mul_le_mul_left (frF (cnt l) n + cnt l n) (pw_pos n)
  omega
theorem cnt_0 (l : List Nat) : cnt l 0 = 0 := by simp [cnt]
theorem cnt_16 {l : List Nat} (h15 : ∀ x ∈ l, x ≤ 15) {n : Nat} (hn : 15 < n) : cnt l n = 0 := by
  unfold cnt
  split
  · rfl
  · exact List.count_eq_zero.2 (fun h => by have := h15 n h; omega)
theorem fr_16 {l : List Nat} (h15 : ∀ x ∈ l, x ≤ 15) (hk : kraft l ≤ 32768) {n : Nat} (hn : n ≤ 16) : (frF (cnt l) n + cnt l n) * 2 ≤ 200000 := by
  rcases Nat.lt_or_ge n 16 with h | h
  · have := fr_le' h15 hk (n := n) (by omega); omega
  · obtain rfl : n = 16 := by omega
    rw [cnt_16 h15 (n := 16) (by omega)]
    have := fr_le' h15 hk (n := 15) (by omega)
    show ((frF (cnt l) 15 + cnt l 15) * 2 + 0) * 2 ≤ 200000
    omega
end Go.Proofs.YtfcefhaaphieeaaGreat

/-
  Plain: the lengths of symbols, by their items. No program in sight.
-/
namespace Go.Proofs.YtfcefhaaphieeaaGreat

theorem sum_single (c i : Nat) : ∀ N, sumN (fun j => if i = j then c else 0) N = if i < N then c else 0
  | 0 => rfl
  | N + 1 => by
    rw [sumN, sum_single c i N]
    by_cases e : i = N
    · subst e; rw [if_neg (by omega), if_pos rfl, if_pos (by omega)]; omega
    · rw [if_neg e]
      by_cases h : i < N
      · rw [if_pos h, if_pos (by omega)]; omega
      · rw [if_neg h, if_neg (by omega)]
section
variable {it : Nat → Nat} {n N : Nat} (inj : ∀ j k, j < n → k < n → it j = it k → j = k) (rng : ∀ k, k < n → it k < N)
include inj in
theorem sum_hit (b : Nat → Nat) {k : Nat} (hk : k < n) : sumN (fun j => if it j = it k then b j else 0) n = b k := by
  have : sumN (fun j => if it j = it k then b j else 0) n = sumN (fun j => if k = j then b k else 0) n := by
    refine sumN_congr fun j hj => ?_
    by_cases e : it j = it k
    · have := inj j k hj hk e; subst this; rw [if_pos rfl, if_pos rfl]
    · rw [if_neg e, if_neg (fun e' => e (by rw [e']))]
  rw [this, sum_single, if_pos hk]
theorem sum_miss (b : Nat → Nat) {i : Nat} (h : ∀ k, k < n → it k ≠ i) : sumN (fun j => if it j = i then b j else 0) n = 0 := by
  rw [sumN_congr (h := fun _ => 0) (fun j hj => if_neg (h j hj)), sumN_zero]
include inj rng in
/-- A sum over symbols is one over items, where what is no item counts nothing. -/
theorem reindex (g : Nat → Nat) (h0 : ∀ i, i < N → (∀ k, k < n → it k ≠ i) → g i = 0) : sumN g N = sumN (fun k => g (it k)) n := by
  have e1 : sumN g N = sumN (fun i => sumN (fun k => if it k = i then g (it k) else 0) n) N := by
    refine sumN_congr fun i hi => ?_
    by_cases h : ∃ k, k < n ∧ it k = i
    · obtain ⟨k, hk, rfl⟩ := h
      exact (sum_hit inj (fun j => g (it j)) hk).symm
    · have h' : ∀ k, k < n → it k ≠ i := fun k hk e => h ⟨k, hk, e⟩
      rw [sum_miss (fun j => g (it j)) h', h0 i hi h']
  rw [e1, sumN_swap]
  refine sumN_congr fun k hk => ?_
  rw [sum_single, if_pos (rng k hk)]
end
theorem map_range_kraft (g : Nat → Nat) (N : Nat) : kraft ((List.range N).map g) = sumN (fun i => if g i = 0 then 0 else pw (g i)) N := by
  induction N with
  | zero => rfl
  | succ N ih => rw [List.range_succ, List.map_append, List.map_cons, List.map_nil, kraft_snoc, ih, sumN]
theorem map_range_used (g : Nat → Nat) (N : Nat) : used ((List.range N).map g) = sumN (fun i => if g i = 0 then 0 else 1) N := by
  induction N with
  | zero => rfl
  | succ N ih => rw [List.range_succ, List.map_append, List.map_cons, List.map_nil, used_snoc, ih, sumN]

/-! ### Items of frequencies -/
/-- The symbols above 0, by frequency, then by number. -/
structure Items (fr ys : List Int) : Prop where
  asc : Asc (fun x => nthI fr x.toNat) ys
  mem : ∀ i : Nat, i < fr.length → (0 < nthI fr i ↔ (i : Int) ∈ ys)
  rng : ∀ y ∈ ys, 0 ≤ y ∧ y < fr.length ∧ 0 < nthI fr y.toNat
theorem Asc.nodup {f : Int → Int} {ys : List Int} (h : Asc f ys) {j k : Nat} (hj : j < ys.length) (hk : k < ys.length) (e : nthI ys j = nthI ys k) : j = k := by
  have h' := List.pairwise_iff_getElem.1 h
  rw [nthI_el hj, nthI_el hk] at e
  rcases Nat.lt_trichotomy j k with h1 | h1 | h1
  · have := h' j k hj hk h1; rw [e] at this; exact absurd this LX.irr
  · exact h1
  · have := h' k j hk hj h1; rw [e] at this; exact absurd this LX.irr
theorem Asc.ext {f : Int → Int} : ∀ {ys zs : List Int}, Asc f ys → Asc f zs → (∀ x, x ∈ ys ↔ x ∈ zs) → ys = zs
  | [], [], _, _, _ => rfl
  | [], z :: zs, _, _, h => by have := (h z).2 List.mem_cons_self; simp at this
  | y :: ys, [], _, _, h => by have := (h y).1 List.mem_cons_self; simp at this
  | y :: ys, z :: zs, h1, h2, h => by
    have a1 := List.pairwise_cons.1 h1
    have a2 := List.pairwise_cons.1 h2
    have e : y = z := by
      have m1 := (h y).1 List.mem_cons_self
      have m2 := (h z).2 List.mem_cons_self
      rw [List.mem_cons] at m1 m2
      rcases m1 with m1 | m1
      · exact m1
      · rcases m2 with m2 | m2
        · exact m2.symm
        · exact absurd ((a1.1 z m2).trans (a2.1 y m1)) LX.irr
    subst e
    rw [Asc.ext a1.2 a2.2 fun x => ?_]
    constructor
    · intro hx
      have := (h x).1 (List.mem_cons_of_mem _ hx)
      rw [List.mem_cons] at this
      rcases this with rfl | this
      · exact absurd (a1.1 x hx) LX.irr
      · exact this
    · intro hx
      have := (h x).2 (List.mem_cons_of_mem _ hx)
      rw [List.mem_cons] at this
      rcases this with rfl | this
      · exact absurd (a2.1 x hx) LX.irr
      · exact this
theorem Items.uniq {fr ys zs : List Int} (h : Items fr ys) (k : Items fr zs) : ys = zs := by
  refine Asc.ext h.asc k.asc fun x => ?_
  constructor
  · intro hx
    obtain ⟨r1, r2, r3⟩ := h.rng x hx
    have := (k.mem x.toNat (by omega)).1 r3
    rwa [Int.toNat_of_nonneg r1] at this
  · intro hx
    obtain ⟨r1, r2, r3⟩ := k.rng x hx
    have := (h.mem x.toNat (by omega)).1 r3
    rwa [Int.toNat_of_nonneg r1] at this
def itF (ys : List Int) (k : Nat) : Nat := (nthI ys k).toNat
def wtF (fr ys : List Int) (k : Nat) : Nat := (nthI fr (itF ys k)).toNat
/-- An item's length: of L bits at most. -/
def blF (fr ys : List Int) (L k : Nat) : Nat := if ys.length = 1 then 1 else lenT (wtF fr ys) ys.length (L - 1) (2 * ys.length - 2) k
def outF (fr ys : List Int) (L i : Nat) : Nat := sumN (fun k => if itF ys k = i then blF fr ys L k else 0) ys.length
/-- The lengths of all symbols. -/
def outL (fr ys : List Int) (L : Nat) : List Nat := (List.range fr.length).map (outF fr ys L)

section
variable {fr ys : List Int} {L : Nat} (h : Items fr ys)
include h in
theorem it_inj : ∀ j k, j < ys.length → k < ys.length → itF ys j = itF ys k → j = k := by
  intro j k hj hk e
  have r1 := (h.rng (nthI ys j) (by rw [nthI_el hj]; exact List.getElem_mem hj)).1
  have r2 := (h.rng (nthI ys k) (by rw [nthI_el hk]; exact List.getElem_mem hk)).1
  unfold itF at e
  exact h.asc.nodup hj hk (by omega)
include h in
theorem it_rng : ∀ k, k < ys.length → itF ys k < fr.length ∧ 0 < nthI fr (itF ys k) := by
  intro k hk
  have r := h.rng (nthI ys k) (by rw [nthI_el hk]; exact List.getElem_mem hk)
  unfold itF
  exact ⟨by omega, r.2.2⟩
include h in
theorem wt_rises : ∀ i j, i ≤ j → j < ys.length → wtF fr ys i ≤ wtF fr ys j := by
  intro i j hij hj
  rcases Nat.lt_or_ge i j with e | e
  · have := List.pairwise_iff_getElem.1 h.asc i j (by omega) hj e
    rw [← nthI_el (by omega), ← nthI_el hj] at this
    unfold wtF itF
    unfold LX at this
    dsimp only at this
    omega
  · obtain rfl : i = j := by omega
    exact Nat.le_refl _
include h in
theorem wt_above : ∀ i, i < ys.length → 0 < wtF fr ys i := by
  intro i hi
  have := (it_rng h i hi).2
  unfold wtF; omega
include h in
theorem out_at {k : Nat} (hk : k < ys.length) : outF fr ys L (itF ys k) = blF fr ys L k := sum_hit (it_inj h) _ hk
include h in
theorem out_zero {i : Nat} (_ : i < fr.length) (h0 : nthI fr i ≤ 0) : outF fr ys L i = 0 := by
  refine sum_miss _ fun k hk e => ?_
  have := (it_rng h k hk).2
  rw [e] at this; omega
include h in
theorem item_of {i : Nat} (hi : i < fr.length) (h0 : 0 < nthI fr i) : ∃ k, k < ys.length ∧ itF ys k = i := by
  obtain ⟨k, hk, e⟩ := List.getElem_of_mem ((h.mem i hi).1 h0)
  exact ⟨k, hk, by unfold itF; rw [nthI_el hk, e]; rfl⟩
variable (hL : 1 ≤ L) (hn : ys.length ≤ 2 ^ L)
include h hL hn in
theorem bl_in {k : Nat} (hk : k < ys.length) : 1 ≤ blF fr ys L k ∧ blF fr ys L k ≤ L := by
  unfold blF
  by_cases e : ys.length = 1
  · rw [if_pos e]; omega
  · rw [if_neg e]
    have h1 := len_pos (wt_rises h) (wt_above h) (L - 1) k (by omega) (by rw [show L - 1 + 1 = L by omega]; exact hn) hk
    have h2 := len_le (f := wtF fr ys) (n := ys.length) (L - 1) (2 * ys.length - 2) k
    omega
include h hL hn in
theorem out_le (i : Nat) (hi : i < fr.length) : outF fr ys L i ≤ L := by
  by_cases h0 : 0 < nthI fr i
  · obtain ⟨k, hk, rfl⟩ := item_of h hi h0
    rw [out_at h hk]; exact (bl_in h hL hn hk).2
  · rw [out_zero h hi (by omega)]; omega
theorem outL_length : (outL fr ys L).length = fr.length := by simp [outL]
theorem outL_nth (i : Nat) (hi : i < fr.length) : nth (outL fr ys L) i = outF fr ys L i := by simp [outL, nth, hi]
include h hL hn in
theorem out_pos {i : Nat} (hi : i < fr.length) : (outF fr ys L i = 0 ↔ nthI fr i ≤ 0) := by
  constructor
  · intro e
    rcases Int.lt_or_le 0 (nthI fr i) with h0 | h0
    · obtain ⟨k, hk, rfl⟩ := item_of h hi h0
      rw [out_at h hk] at e
      have := (bl_in h hL hn hk).1; omega
    · exact h0
  · exact out_zero h hi
include h in
theorem out_sum (G : Nat → Nat → Nat) (hG : ∀ i, G i 0 = 0) : sumN (fun i => G i (outF fr ys L i)) fr.length = sumN (fun k => G (itF ys k) (blF fr ys L k)) ys.length := by
  rw [reindex (it_inj h) (fun k hk => (it_rng h k hk).1) (fun i => G i (outF fr ys L i)) (fun i hi hno => by
    have : outF fr ys L i = 0 := sum_miss _ hno
    simp only [this, hG])]
  exact sumN_congr fun k hk => by rw [out_at h hk]
include h hL hn in
/-- They are whole. -/
theorem out_kraft (hL15 : L ≤ 15) : kraft (outL fr ys L) = if ys.length = 0 then 0 else if ys.length = 1 then 16384 else 32768 := by
  unfold outL
  rw [map_range_kraft, out_sum h (fun _ x => if x = 0 then 0 else pw x) (fun _ => rfl)]
  have e : sumN (fun k => if blF fr ys L k = 0 then 0 else pw (blF fr ys L k)) ys.length = sumN (fun k => pw (blF fr ys L k)) ys.length :=
    sumN_congr fun k hk => by rw [if_neg (by have := (bl_in h hL hn hk).1; omega)]
  rw [e]
  by_cases h0 : ys.length = 0
  · rw [if_pos h0, h0]; rfl
  · rw [if_neg h0]
    by_cases h1 : ys.length = 1
    · rw [if_pos h1]
      have : ∀ k, blF fr ys L k = 1 := fun k => by unfold blF; rw [if_pos h1]
      rw [h1]
      simp only [sumN, this]; rfl
    · rw [if_neg h1]
      have hk := len_kraft (wt_rises h) (wt_above h) (L - 1) (by omega) (by rw [show L - 1 + 1 = L by omega]; exact hn)
      have e2 : sumN (fun k => pw (blF fr ys L k)) ys.length = sumN (fun k => 2 ^ (L - 1 + 1 - lenT (wtF fr ys) ys.length (L - 1) (2 * ys.length - 2) k) * 2 ^ (15 - L)) ys.length := by
        refine sumN_congr fun k hk => ?_
        have hb : blF fr ys L k = lenT (wtF fr ys) ys.length (L - 1) (2 * ys.length - 2) k := by unfold blF; rw [if_neg h1]
        have := (bl_in h hL hn hk).2
        rw [hb] at this ⊢
        unfold pw
        rw [← Nat.pow_add]
        congr 1; omega
      rw [e2, sumN_mul, hk, ← Nat.pow_add, show L - 1 + 1 + (15 - L) = 15 by omega]
include h hL hn in
theorem out_used : used (outL fr ys L) = ys.length := by
  unfold outL
  rw [map_range_used, out_sum h (fun _ x => if x = 0 then 0 else 1) (fun _ => rfl), sumN_congr (h := fun _ => 1) (fun k hk => by rw [if_neg (by have := (bl_in h hL hn hk).1; omega)]), sumN_const]; omega
include h hL hn in
/-- They may be. -/
theorem out_can (hL15 : L ≤ 15) (h320 : fr.length ≤ 320) : canE (outL fr ys L) L = 0 := by
  have hk := out_kraft h hL hn hL15
  have hu := out_used h hL hn
  unfold canE
  rw [if_neg (by omega), outL_length, if_neg (by omega), if_pos]
  · rw [hk, hu]
    by_cases h0 : ys.length = 0
    · rw [if_pos h0, if_neg (by omega), if_pos (by omega)]
    · rw [if_neg h0]
      by_cases h1 : ys.length = 1
      · rw [if_pos h1, if_neg (by omega), if_pos (by omega)]
      · rw [if_neg h1, if_neg (by omega), if_pos (by omega)]
  · rw [List.all_eq_true]
    intro x hx
    obtain ⟨i, hi, rfl⟩ := List.mem_map.1 hx
    have := out_le h hL hn i (List.mem_range.1 hi)
    exact decide_eq_true (by omega)
include h hL hn in
/-- No others cost less. -/
theorem out_least (hL15 : L ≤ 15) (o : List Nat) (ho : ∀ i, i < fr.length → nth o i ≤ L ∧ (0 < nthI fr i → nth o i ≠ 0)) (hk : sumN (fun i => if nth o i = 0 then 0 else pw (nth o i)) fr.length ≤ 32768) :
    sumN (fun i => (nthI fr i).toNat * outF fr ys L i) fr.length ≤ sumN (fun i => (nthI fr i).toNat * nth o i) fr.length := by
  rw [out_sum h (fun i x => (nthI fr i).toNat * x) (fun i => Nat.mul_zero _)]
  rw [reindex (it_inj h) (fun k hk => (it_rng h k hk).1) (fun i => (nthI fr i).toNat * nth o i) (fun i hi hno => by
    have : ¬ 0 < nthI fr i := fun h0 => by
      obtain ⟨k, hk, e⟩ := item_of h hi h0
      exact hno k hk e
    rw [show (nthI fr i).toNat = 0 by omega, Nat.zero_mul])]
  by_cases h0 : ys.length = 0
  · rw [h0]; exact Nat.le_refl _
  by_cases h1 : ys.length = 1
  · refine sumN_le fun k hk' => ?_
    have : blF fr ys L k = 1 := by unfold blF; rw [if_pos h1]
    rw [this]
    have r := it_rng h k hk'
    have := (ho (itF ys k) r.1).2 r.2
    exact Nat.mul_le_mul_left _ (by omega)
  · have e1 : sumN (fun k => (nthI fr (itF ys k)).toNat * blF fr ys L k) ys.length = sumN (fun k => lenT (wtF fr ys) ys.length (L - 1) (2 * ys.length - 2) k * wtF fr ys k) ys.length :=
      sumN_congr fun k _ => by unfold blF; rw [if_neg h1, Nat.mul_comm]; rfl
    have e2 : sumN (fun k => (nthI fr (itF ys k)).toNat * nth o (itF ys k)) ys.length = sumN (fun k => nth o (itF ys k) * wtF fr ys k) ys.length :=
      sumN_congr fun k _ => by rw [Nat.mul_comm]; rfl
    rw [e1, e2]
    refine len_least (wt_rises h) (L - 1) (fun k => nth o (itF ys k)) (by omega) (by rw [show L - 1 + 1 = L by omega]; exact hn) (fun k hk' => by have := (ho (itF ys k) (it_rng h k hk').1).1; omega) ?_
    have hle : sumN (fun k => pw (nth o (itF ys k))) ys.length ≤ 32768 := by
      refine Nat.le_trans ?_ hk
      have := reindex (it_inj h) (fun k hk => (it_rng h k hk).1) (fun i => if 0 < nthI fr i then (if nth o i = 0 then 0 else pw (nth o i)) else 0) (fun i hi hno => by
        have : ¬ 0 < nthI fr i := fun h0 => by
          obtain ⟨k, hk, e⟩ := item_of h hi h0
          exact hno k hk e
        exact if_neg this)
      have e3 : sumN (fun k => pw (nth o (itF ys k))) ys.length = sumN (fun k => if 0 < nthI fr (itF ys k) then (if nth o (itF ys k) = 0 then 0 else pw (nth o (itF ys k))) else 0) ys.length :=
        sumN_congr fun k hk' => by
          have r := it_rng h k hk'
          rw [if_pos r.2, if_neg ((ho (itF ys k) r.1).2 r.2)]
      rw [e3, ← this]
      exact sumN_le fun i _ => by split <;> omega
    have e4 : sumN (fun k => pw (nth o (itF ys k))) ys.length = sumN (fun k => 2 ^ (L - 1 + 1 - nth o (itF ys k))) ys.length * 2 ^ (15 - L) := by
      rw [← sumN_mul]
      refine sumN_congr fun k hk' => ?_
      have := (ho (itF ys k) (it_rng h k hk').1).1
      unfold pw
      rw [← Nat.pow_add]
      congr 1; omega
    rw [e4] at hle
    have e5 : (32768 : Nat) = 2 ^ (L - 1 + 1) * 2 ^ (15 - L) := by
      rw [← Nat.pow_add, show L - 1 + 1 + (15 - L) = 15 by omega]
    rw [e5] at hle
    exact Nat.le_of_mul_le_mul_right hle (Nat.two_pow_pos _)
end

/-! ### All frequencies times a number -/
theorem wt_scale (c : Nat) (f : Nat → Nat) : ∀ x, wtT (fun k => c * f k) x = c * wtT f x
  | .leaf _ => rfl
  | .node a b => by rw [wtT, wtT, wt_scale c f a, wt_scale c f b, Nat.mul_add]
theorem le_scale {c : Nat} (hc : 0 < c) (f : Nat → Nat) : leT (fun k => c * f k) = leT f := by
  funext a b
  unfold leT
  rw [wt_scale, wt_scale, Bool.eq_iff_iff, decide_eq_true_iff, decide_eq_true_iff]
  exact ⟨fun h => Nat.le_of_mul_le_mul_left h hc, fun h => Nat.mul_le_mul_left c h⟩
theorem row_scale {c : Nat} (hc : 0 < c) (f : Nat → Nat) (n : Nat) : ∀ t, rowTr (fun k => c * f k) n t = rowTr f n t
  | 0 => rfl
  | t + 1 => by rw [rowTr, rowTr, le_scale hc, row_scale hc f n t]
theorem sel_scale {c : Nat} (hc : 0 < c) (f : Nat → Nat) (n : Nat) : ∀ t m, selT (fun k => c * f k) n t m = selT f n t m
  | 0, m => by simp only [selT, prT, row_scale hc]
  | t + 1, m => by
    have e : prT (fun k => c * f k) n (t + 1) m = prT f n (t + 1) m := by simp only [prT, row_scale hc]
    rw [selT, selT, e, sel_scale hc f n t]
theorem out_scale {c : Nat} (hc : 0 < c) {fr gr ys : List Int} (h : ∀ i, (nthI gr i).toNat = c * (nthI fr i).toNat) (hlen : gr.length = fr.length) (L : Nat) : outL gr ys L = outL fr ys L := by
  have e : wtF gr ys = fun k => c * wtF fr ys k := by funext k; exact h _
  unfold outL
  rw [hlen]
  congr 1
  funext i
  unfold outF
  congr 1
  funext k
  unfold blF lenT
  rw [e, sel_scale hc]
theorem Items.scale {c : Int} (hc : 0 < c) {fr gr ys : List Int} (h : ∀ i, nthI gr i = c * nthI fr i) (hlen : gr.length = fr.length) (hi : Items fr ys) : Items gr ys := by
  have pos : ∀ i, 0 < nthI gr i ↔ 0 < nthI fr i := fun i => by
    rw [h]
    refine ⟨fun h0 => ?_, fun h0 => Int.mul_pos hc h0⟩
    rcases Int.lt_or_le 0 (nthI fr i) with h1 | h1
    · exact h1
    · have := Int.mul_nonpos_of_nonneg_of_nonpos (Int.le_of_lt hc) h1
      omega
  refine ⟨hi.asc.imp ?_, fun i hl => by rw [pos]; exact hi.mem i (by omega), fun y hy => ?_⟩
  · intro a b hab
    unfold LX at hab ⊢
    dsimp only at hab ⊢
    rw [h, h]
    rcases hab with hab | hab
    · exact .inl (Int.mul_lt_mul_of_pos_left hab hc)
    · exact .inr ⟨by rw [hab.1], hab.2⟩
  · obtain ⟨r1, r2, r3⟩ := hi.rng y hy
    exact ⟨r1, by omega, by rw [pos]; exact r3⟩
end Go.Proofs.YtfcefhaaphieeaaGreat

/-
  Plain: items put in order one by one; items collected, then put in order. No program in sight.
-/
namespace Go.Proofs.YtfcefhaaphieeaaGreat

/-- The items among the first i symbols, in order. -/
structure ItemsN (fr : List Int) (i : Nat) (out : List Int) : Prop where
  asc : Asc (fun x => nthI fr x.toNat) out
  mem : ∀ j : Nat, j < i → j < fr.length → (0 < nthI fr j ↔ (j : Int) ∈ out)
  rng : ∀ y ∈ out, 0 ≤ y ∧ y < i ∧ y < fr.length ∧ 0 < nthI fr y.toNat
theorem ItemsN.zero (fr : List Int) : ItemsN fr 0 [] := ⟨List.Pairwise.nil, fun j h => by omega, fun y h => by simp at h⟩
theorem ItemsN.full {fr out : List Int} (h : ItemsN fr fr.length out) : Items fr out :=
  ⟨h.asc, fun i hi => h.mem i hi hi, fun y hy => by obtain ⟨a, b, c, d⟩ := h.rng y hy; exact ⟨a, c, d⟩⟩
theorem ItemsN.skip {fr out : List Int} {i : Nat} (h : ItemsN fr i out) (h0 : ¬ 0 < nthI fr i) : ItemsN fr (i + 1) out :=
  ⟨h.asc, fun j hj hl => by
    by_cases e : j = i
    · subst e
      refine ⟨fun h1 => absurd h1 h0, fun h1 => ?_⟩
      have := (h.rng _ h1).2.1; omega
    · exact h.mem j (by omega) hl, fun y hy => by obtain ⟨a, b, c, d⟩ := h.rng y hy; exact ⟨a, by omega, c, d⟩⟩
theorem ItemsN.put {fr out : List Int} {i at_ : Nat} (h : ItemsN fr i out) (hi : i < fr.length) (h0 : 0 < nthI fr i) (ha : at_ ≤ out.length)
    (hlo : 0 < at_ → nthI fr (nthI out (at_ - 1)).toNat ≤ nthI fr i) (hup : ∀ t, at_ ≤ t → t < out.length → nthI fr i < nthI fr (nthI out t).toNat) : ItemsN fr (i + 1) (out.take at_ ++ (i : Int) :: out.drop at_) := by
  have hmem : ∀ x, x ∈ out.take at_ ++ (i : Int) :: out.drop at_ ↔ x = i ∨ x ∈ out := by
    intro x
    have e : x ∈ out ↔ x ∈ out.take at_ ∨ x ∈ out.drop at_ := by rw [← List.mem_append, List.take_append_drop]
    rw [List.mem_append, List.mem_cons, e]
    constructor
    · rintro (h | h | h) <;> simp [h]
    · rintro (h | h | h) <;> simp [h]
  have hout := List.pairwise_iff_getElem.1 h.asc
  refine ⟨?_, fun j hj hl => ?_, fun y hy => ?_⟩
  · unfold Asc
    rw [List.pairwise_append]
    refine ⟨h.asc.sublist (List.take_sublist _ _), List.pairwise_cons.2 ⟨fun y hy => ?_, h.asc.sublist (List.drop_sublist _ _)⟩, fun x hx y hy => ?_⟩
    · obtain ⟨t, ht, e⟩ := List.getElem_of_mem hy
      rw [List.getElem_drop] at e
      rw [List.length_drop] at ht
      have := hup (at_ + t) (by omega) (by omega)
      rw [nthI_el (ys := out) (i := at_ + t) (by omega), e] at this
      exact .inl (by simpa using this)
    · obtain ⟨t, ht, e⟩ := List.getElem_of_mem hx
      rw [List.getElem_take] at e
      rw [List.length_take] at ht
      rw [List.mem_cons] at hy
      rcases hy with rfl | hy
      · have h1 := hlo (by omega)
        have h2 : nthI fr x.toNat ≤ nthI fr (nthI out (at_ - 1)).toNat := by
          by_cases e2 : t = at_ - 1
          · subst e2; rw [nthI_el (ys := out) (i := at_ - 1) (by omega), e]; exact Int.le_refl _
          · have := hout t (at_ - 1) (by omega) (by omega) (by omega)
            rw [e] at this
            rw [nthI_el (ys := out) (i := at_ - 1) (by omega)]
            unfold LX at this
            dsimp only at this
            omega
        have h3 := (h.rng x (List.mem_of_mem_take hx)).2.1
        unfold LX
        dsimp only
        rw [Int.toNat_natCast]
        omega
      · obtain ⟨u, hu, e2⟩ := List.getElem_of_mem hy
        rw [List.getElem_drop] at e2
        rw [List.length_drop] at hu
        have := hout t (at_ + u) (by omega) (by omega) (by omega)
        rwa [e, e2] at this
  · rw [hmem]
    by_cases e : j = i
    · subst e; exact ⟨fun _ => .inl rfl, fun _ => h0⟩
    · rw [h.mem j (by omega) hl]
      exact ⟨fun h1 => .inr h1, fun h1 => h1.resolve_left (by omega)⟩
  · rw [hmem] at hy
    rcases hy with rfl | hy
    · exact ⟨by omega, by omega, by omega, by rw [Int.toNat_natCast]; exact h0⟩
    · obtain ⟨a, b, c, d⟩ := h.rng y hy; exact ⟨a, by omega, c, d⟩
/-- The items among the first i symbols, by number. -/
structure PosN (fr : List Int) (i : Nat) (out : List Int) : Prop where
  up : out.Pairwise (· < ·)
  mem : ∀ j : Nat, j < i → j < fr.length → (0 < nthI fr j ↔ (j : Int) ∈ out)
  rng : ∀ y ∈ out, 0 ≤ y ∧ y < i ∧ y < fr.length ∧ 0 < nthI fr y.toNat
theorem PosN.zero (fr : List Int) : PosN fr 0 [] := ⟨List.Pairwise.nil, fun j h => by omega, fun y h => by simp at h⟩
theorem PosN.skip {fr out : List Int} {i : Nat} (h : PosN fr i out) (h0 : ¬ 0 < nthI fr i) : PosN fr (i + 1) out :=
  ⟨h.up, fun j hj hl => by
    by_cases e : j = i
    · subst e
      refine ⟨fun h1 => absurd h1 h0, fun h1 => ?_⟩
      have := (h.rng _ h1).2.1; omega
    · exact h.mem j (by omega) hl, fun y hy => by obtain ⟨a, b, c, d⟩ := h.rng y hy; exact ⟨a, by omega, c, d⟩⟩
theorem PosN.put {fr out : List Int} {i : Nat} (h : PosN fr i out) (hi : i < fr.length) (h0 : 0 < nthI fr i) : PosN fr (i + 1) (out ++ [(i : Int)]) := by
  refine ⟨List.pairwise_append.2 ⟨h.up, by simp, fun x hx y hy => ?_⟩, fun j hj hl => ?_, fun y hy => ?_⟩
  · simp only [List.mem_cons, List.not_mem_nil, or_false] at hy
    subst hy; exact (h.rng x hx).2.1
  · rw [List.mem_append, List.mem_singleton]
    by_cases e : j = i
    · subst e; exact ⟨fun _ => .inr rfl, fun _ => h0⟩
    · rw [h.mem j (by omega) hl]
      exact ⟨fun h1 => .inl h1, fun h1 => h1.resolve_right (by omega)⟩
  · rw [List.mem_append, List.mem_singleton] at hy
    rcases hy with hy | rfl
    · obtain ⟨a, b, c, d⟩ := h.rng y hy; exact ⟨a, by omega, c, d⟩
    · exact ⟨by omega, by omega, by omega, by rw [Int.toNat_natCast]; exact h0⟩
theorem PosN.len {fr out : List Int} {i : Nat} (h : PosN fr i out) : out.length ≤ i := by
  -- each stands above as many as are ahead of it
  have key : ∀ t, (ht : t < out.length) → (t : Int) ≤ out[t] := by
    intro t
    induction t with
    | zero => intro ht; exact (h.rng _ (List.getElem_mem ht)).1
    | succ t ih =>
      intro ht
      have := List.pairwise_iff_getElem.1 h.up t (t + 1) (by omega) ht (by omega)
      have := ih (by omega)
      omega
  rcases Nat.eq_zero_or_pos out.length with h0 | h0
  · omega
  · have h1 := key (out.length - 1) (by omega)
    have h2 := (h.rng _ (List.getElem_mem (show out.length - 1 < out.length by omega))).2.1
    omega
theorem PosN.sorted {fr out ys : List Int} (h : PosN fr fr.length out) (hp : List.Perm ys out) (ha : Asc (fun x => nthI fr x.toNat) ys) : Items fr ys :=
  ⟨ha, fun i hi => by rw [hp.mem_iff]; exact h.mem i hi hi, fun y hy => by obtain ⟨a, b, c, d⟩ := h.rng y (hp.subset hy); exact ⟨a, c, d⟩⟩
theorem PosN.rises {fr out : List Int} {i : Nat} (h : PosN fr i out) : ∀ p q, p < q → q < out.length → nthI out p < nthI out q := fun p q h1 h2 => by
  have := List.pairwise_iff_getElem.1 h.up p q (by omega) h2 h1
  rwa [nthI_el (by omega), nthI_el h2]
end Go.Proofs.YtfcefhaaphieeaaGreat

/-
  Plain: rows as the program keeps them: weights, and which are pairs. No program in sight.
-/
namespace Go.Proofs.YtfcefhaaphieeaaGreat

def pairP : List (Nat × Bool) → List (Nat × Bool)
  | a :: b :: r => (a.1 + b.1, true) :: pairP r
  | _ => []
def leP (a b : Nat × Bool) : Bool := decide (a.1 ≤ b.1)
def itP (ws : List Nat) : List (Nat × Bool) := ws.map fun w => (w, false)
/-- The row behind a row. -/
def behL (row : List (Nat × Bool)) (ws : List Nat) : List (Nat × Bool) := mrg leP (itP ws) (pairP row)
def gP (f : Nat → Nat) (t : Tr) : Nat × Bool := (wtT f t, isPair t)
theorem pairP_map (f : Nat → Nat) : ∀ l : List Tr, (pairT l).map (gP f) = pairP (l.map (gP f))
  | [] => rfl
  | [_] => rfl
  | a :: b :: r => by rw [pairT, List.map_cons, pairP_map f r]; rfl
theorem itP_map (f : Nat → Nat) (n : Nat) : (itemsT n).map (gP f) = itP ((List.range n).map f) := by
  unfold itemsT itP
  rw [List.map_map, List.map_map]; rfl
theorem row_beh (f : Nat → Nat) (n t : Nat) : (rowTr f n (t + 1)).map (gP f) = behL ((rowTr f n t).map (gP f)) ((List.range n).map f) := by
  show (mrg (leT f) (itemsT n) (pairT (rowTr f n t))).map (gP f) = _
  rw [mrg_map (leT f) leP (gP f) (fun _ _ => rfl), itP_map, pairP_map]; rfl
theorem row_beh0 (f : Nat → Nat) (n : Nat) : (rowTr f n 0).map (gP f) = behL [] ((List.range n).map f) := by
  show (itemsT n).map (gP f) = _
  rw [itP_map]
  unfold behL
  rw [show pairP [] = [] from rfl, mrg_right_nil]
/-- Weights as a list. -/
def nthP (row : List (Nat × Bool)) (i : Nat) : Nat × Bool := row[i]?.getD (0, false)
theorem pairP_drop {row : List (Nat × Bool)} {i : Nat} (h : i + 1 < row.length) : pairP (row.drop i) = ((nthP row i).1 + (nthP row (i + 1)).1, true) :: pairP (row.drop (i + 2)) := by
  rw [List.drop_eq_getElem_cons (by omega : i < row.length), List.drop_eq_getElem_cons h, pairP]
  simp [nthP, List.getElem?_eq_getElem h, List.getElem?_eq_getElem (show i < row.length by omega)]
theorem pairP_end {row : List (Nat × Bool)} {i : Nat} (h : row.length ≤ i + 1) : pairP (row.drop i) = [] := by
  rcases Nat.lt_or_ge i row.length with h1 | h1
  · rw [List.drop_eq_getElem_cons h1, List.drop_eq_nil_of_le (by omega)]; rfl
  · rw [List.drop_eq_nil_of_le h1]; rfl
theorem itP_drop {ws : List Nat} {a : Nat} (h : a < ws.length) : itP (ws.drop a) = (nth ws a, false) :: itP (ws.drop (a + 1)) := by
  have e : nth ws a = ws[a] := by simp [nth, List.getElem?_eq_getElem h]
  unfold itP
  rw [List.drop_eq_getElem_cons h, List.map_cons, e]
theorem itP_end (ws : List Nat) : itP (ws.drop ws.length) = [] := by rw [List.drop_length]; rfl
/-- One more of the merged row: an item. -/
theorem beh_item {ws : List Nat} {row : List (Nat × Bool)} {a i : Nat} (h : a < ws.length) (hi : i + 1 < row.length) (hle : nth ws a ≤ (nthP row i).1 + (nthP row (i + 1)).1) :
    mrg leP (itP (ws.drop a)) (pairP (row.drop i)) = (nth ws a, false) :: mrg leP (itP (ws.drop (a + 1))) (pairP (row.drop i)) := by
  rw [itP_drop h, pairP_drop hi, mrg_cons, if_pos (show leP _ _ = true from decide_eq_true hle)]
/-- A pair. -/
theorem beh_pair {ws : List Nat} {row : List (Nat × Bool)} {a i : Nat} (hi : i + 1 < row.length) (hle : a < ws.length → (nthP row i).1 + (nthP row (i + 1)).1 < nth ws a) (ha : a ≤ ws.length) :
    mrg leP (itP (ws.drop a)) (pairP (row.drop i)) = ((nthP row i).1 + (nthP row (i + 1)).1, true) :: mrg leP (itP (ws.drop a)) (pairP (row.drop (i + 2))) := by
  rw [pairP_drop hi]
  rcases Nat.lt_or_ge a ws.length with h | h
  · rw [itP_drop h, mrg_cons, if_neg]
    have := hle h
    simp only [leP, decide_eq_true_eq]; omega
  · obtain rfl : a = ws.length := by omega
    rw [itP_end]; rfl
/-- The items that are left. -/
theorem beh_rest {ws : List Nat} {row : List (Nat × Bool)} {a i : Nat} (hi : row.length ≤ i + 1) : mrg leP (itP (ws.drop a)) (pairP (row.drop i)) = itP (ws.drop a) := by
  rw [pairP_end hi, mrg_right_nil]

/-- How many are pairs. -/
def prP (row : List (Nat × Bool)) (m : Nat) : Nat := ((row.take m).filter (·.2)).length
theorem prP_succ {row : List (Nat × Bool)} {m : Nat} (h : m < row.length) : prP row (m + 1) = prP row m + if (nthP row m).2 then 1 else 0 := by
  unfold prP
  rw [List.take_succ_eq_append_getElem h, List.filter_append, List.length_append]
  congr 1
  have : nthP row m = row[m] := by simp [nthP, List.getElem?_eq_getElem h]
  rw [this, List.filter_cons]
  cases (row[m]).2 <;> simp
theorem prP_row (f : Nat → Nat) (n t m : Nat) : prP ((rowTr f n t).map (gP f)) m = prT f n t m := by
  unfold prP prT
  rw [← List.map_take, List.filter_map, List.length_map]
  rfl
end Go.Proofs.YtfcefhaaphieeaaGreat

/-
  Plain: the rows taken from the last one down; counts per item. No program in sight.
-/
namespace Go.Proofs.YtfcefhaaphieeaaGreat

section
variable (f : Nat → Nat) (n L : Nat)
/-- How many of the row that comes after j rows are taken. -/
def mJ : Nat → Nat
  | 0 => 2 * n - 2
  | j + 1 => 2 * prT f n (L - 1 - j) (mJ j)
/-- How many items that row gives. -/
def aJ (j : Nat) : Nat := mJ f n L j - prT f n (L - 1 - j) (mJ f n L j)
/-- How often item k was given by j rows. -/
def dJ : Nat → Nat → Nat
  | 0, _ => 0
  | j + 1, k => dJ j k + if k < aJ f n L j then 1 else 0
end
section
variable {f : Nat → Nat} {n L : Nat} (hL : 1 ≤ L) (hn : n ≤ 2 ^ L)
include hL hn in
theorem mJ_ok : ∀ j, j < L → mJ f n L j ≤ (rowTr f n (L - 1 - j)).length
  | 0, _ => by
    have := row_enough (f := f) (n := n) (L - 1) (by rw [show L - 1 + 1 = L by omega]; exact hn)
    exact this
  | j + 1, hj => by
    have h1 := mJ_ok j (by omega)
    rw [show L - 1 - j = (L - 1 - (j + 1)) + 1 by omega] at h1
    have := sel_ok _ _ h1
    unfold mJ
    rw [show L - 1 - j = (L - 1 - (j + 1)) + 1 by omega]
    exact this
include hL hn in
theorem aJ_le (j : Nat) (hj : j < L) : prT f n (L - 1 - j) (mJ f n L j) ≤ mJ f n L j ∧ aJ f n L j ≤ n := by
  have := row_items _ _ (mJ_ok (f := f) hL hn j hj)
  exact ⟨this.1, this.2.1⟩
theorem dJ_le (k : Nat) : ∀ j, dJ f n L j k ≤ j
  | 0 => Nat.le_refl _
  | j + 1 => by
    have := dJ_le k j
    unfold dJ
    split <;> omega
theorem lenT_succ (t m k : Nat) : lenT f n (t + 1) m k = (if k < m - prT f n (t + 1) m then 1 else 0) + lenT f n t (2 * prT f n (t + 1) m) k := by
  unfold lenT
  rw [selT, List.filter_cons]
  by_cases h : k < m - prT f n (t + 1) m
  · simp [h]; omega
  · simp [h]
theorem lenT_zero (m k : Nat) : lenT f n 0 m k = if k < m - prT f n 0 m then 1 else 0 := by
  unfold lenT
  rw [selT, List.filter_cons]
  by_cases h : k < m - prT f n 0 m
  · simp [h]
  · simp [h]
theorem dJ_len (k : Nat) : ∀ j, j < L → dJ f n L j k + lenT f n (L - 1 - j) (mJ f n L j) k = lenT f n (L - 1) (2 * n - 2) k
  | 0, _ => by
    show 0 + lenT f n (L - 1) (2 * n - 2) k = _
    omega
  | j + 1, hj => by
    have h1 := dJ_len k j (by omega)
    rw [show L - 1 - j = (L - 1 - (j + 1)) + 1 by omega, lenT_succ] at h1
    have e : mJ f n L (j + 1) = 2 * prT f n (L - 1 - (j + 1) + 1) (mJ f n L j) := by rw [mJ, show L - 1 - j = (L - 1 - (j + 1)) + 1 by omega]
    have e2 : aJ f n L j = mJ f n L j - prT f n (L - 1 - (j + 1) + 1) (mJ f n L j) := by rw [aJ, show L - 1 - j = (L - 1 - (j + 1)) + 1 by omega]
    rw [e, dJ, e2]
    omega
include hL in
theorem dJ_full (k : Nat) : dJ f n L L k = lenT f n (L - 1) (2 * n - 2) k := by
  obtain ⟨j, rfl⟩ : ∃ j, L = j + 1 := ⟨L - 1, by omega⟩
  have h1 := dJ_len (f := f) (n := n) (L := j + 1) k j (by omega)
  rw [show j + 1 - 1 - j = 0 by omega, lenT_zero] at h1
  rw [dJ, aJ, show j + 1 - 1 - j = 0 by omega]
  exact h1
end
theorem row_le (f : Nat → Nat) (n : Nat) : ∀ t, (rowTr f n t).length ≤ 2 * n
  | 0 => by rw [rowTr, itemsT_length]; omega
  | t + 1 => by rw [rowT_succ_length]; have := row_le f n t; omega

/-! ### Weights of rows -/
theorem mem_nthP {row : List (Nat × Bool)} {i : Nat} (h : i < row.length) : nthP row i ∈ row := by
  have : nthP row i = row[i] := by simp [nthP, List.getElem?_eq_getElem h]
  rw [this]; exact List.getElem_mem h
theorem pairP_mem : ∀ (row : List (Nat × Bool)) (M : Nat), (∀ x ∈ row, x.1 ≤ M) → ∀ x ∈ pairP row, x.1 ≤ 2 * M
  | [], _, _, x, hx => by simp [pairP] at hx
  | [_], _, _, x, hx => by simp [pairP] at hx
  | a :: b :: r, M, h, x, hx => by
    rw [pairP, List.mem_cons] at hx
    rcases hx with rfl | hx
    · have h1 := h a (by simp)
      have h2 := h b (by simp)
      show a.1 + b.1 ≤ 2 * M
      omega
    · exact pairP_mem r M (fun y hy => h y (by simp [hy])) x hx
theorem rowP_le (f : Nat → Nat) (n B : Nat) (hf : ∀ k, k < n → f k ≤ B) : ∀ t, ∀ x ∈ (rowTr f n t).map (gP f), x.1 ≤ B * 2 ^ t
  | 0, x, hx => by
    rw [show rowTr f n 0 = itemsT n from rfl, itP_map] at hx
    unfold itP at hx
    simp only [List.map_map, List.mem_map, List.mem_range, Function.comp] at hx
    obtain ⟨k, hk, rfl⟩ := hx
    simpa using hf k hk
  | t + 1, x, hx => by
    rw [row_beh] at hx
    unfold behL at hx
    rw [mrg_mem] at hx
    rcases hx with hx | hx
    · unfold itP at hx
      simp only [List.map_map, List.mem_map, List.mem_range, Function.comp] at hx
      obtain ⟨k, hk, rfl⟩ := hx
      have h1 := hf k hk
      have h2 : B * 1 ≤ B * 2 ^ (t + 1) := Nat.mul_le_mul_left _ (Nat.one_le_two_pow)
      show f k ≤ _
      omega
    · have := pairP_mem _ _ (rowP_le f n B hf t) x hx
      rw [Nat.pow_succ]
      have e : B * (2 ^ t * 2) = 2 * (B * 2 ^ t) := by rw [← Nat.mul_assoc, Nat.mul_comm]
      omega

/-! ### What all symbols have come to -/
def outE (ys : List Int) (e : Nat → Nat) (i : Nat) : Nat := sumN (fun k => if itF ys k = i then e k else 0) ys.length
theorem outE_at {fr ys : List Int} (h : Items fr ys) (e : Nat → Nat) {k : Nat} (hk : k < ys.length) : outE ys e (itF ys k) = e k := sum_hit (it_inj h) _ hk
theorem outE_congr {ys : List Int} {e e' : Nat → Nat} (h : ∀ k, k < ys.length → e k = e' k) (i : Nat) : outE ys e i = outE ys e' i := by
  unfold outE
  refine sumN_congr fun k hk => ?_
  rw [h k hk]
theorem outE_step {fr ys : List Int} (h : Items fr ys) (e : Nat → Nat) {q : Nat} (hq : q < ys.length) (i : Nat) : outE ys (fun k => if k = q then e k + 1 else e k) i = if i = itF ys q then outE ys e i + 1 else outE ys e i := by
  by_cases hi : i = itF ys q
  · subst hi
    rw [if_pos rfl, outE_at h _ hq, outE_at h _ hq, if_pos rfl]
  · rw [if_neg hi]
    unfold outE
    refine sumN_congr fun k hk => ?_
    by_cases e1 : itF ys k = i
    · rw [if_pos e1, if_pos e1]
      exact if_neg fun e2 => hi (by rw [← e2]; exact e1.symm)
    · rw [if_neg e1, if_neg e1]
theorem outE_zero (ys : List Int) (i : Nat) : outE ys (fun _ => 0) i = 0 := by
  unfold outE
  rw [sumN_congr (h := fun _ => 0) (fun k _ => by split <;> rfl), sumN_zero]
/-- j rows given, q items of the next one. -/
def eX (f : Nat → Nat) (n L j q k : Nat) : Nat := dJ f n L j k + if k < q then 1 else 0
theorem eX_step (f : Nat → Nat) (n L j q : Nat) : eX f n L j (q + 1) = fun k => if k = q then eX f n L j q k + 1 else eX f n L j q k := by
  funext k
  unfold eX
  by_cases h : k = q
  · subst h; rw [if_pos (by omega), if_pos rfl, if_neg (by omega)]
  · rw [if_neg h]
    by_cases h2 : k < q
    · rw [if_pos h2, if_pos (by omega)]
    · rw [if_neg h2, if_neg (by omega)]
theorem eX_zero (f : Nat → Nat) (n L j : Nat) : eX f n L j 0 = dJ f n L j := by funext k; simp [eX]
theorem eX_full (f : Nat → Nat) (n L j : Nat) : eX f n L j (aJ f n L j) = dJ f n L (j + 1) := by funext k; rfl
theorem eX_le (f : Nat → Nat) (n L j q k : Nat) : eX f n L j q k ≤ j + 1 := by
  have := dJ_le (f := f) (n := n) (L := L) k j
  unfold eX
  split <;> omega
/-- All the rows given: the lengths. -/
theorem out_done {fr ys : List Int} {L : Nat} (hL : 1 ≤ L) (h2 : ys.length ≠ 1) : (List.range fr.length).map (outE ys (dJ (wtF fr ys) ys.length L L)) = outL fr ys L := by
  unfold outL
  refine List.map_congr_left fun i _ => ?_
  unfold outF
  refine sumN_congr fun k _ => ?_
  rw [dJ_full hL, blF, if_neg h2]
end Go.Proofs.YtfcefhaaphieeaaGreat

/-
  s[k:] at any k; a cell of an array held as a value. No program in sight.
-/
namespace Go.Proofs.YtfcefhaaphieeaaGreat
open Go.RowKit

/-- What s[k:] hands on: what could be read. -/
def Tails (size k : Nat) (A A' : Option Addr) (n : Nat) : Prop := ∀ (w : World) (xs : List Value), Rd w A xs → xs.length = n * size → Rd w A' (xs.drop (k * size))

section
variable {P : Program}
theorem run_tail {t e : TypeId} {size : Nat} (ht : P.underlying t = some (.slice e)) (hs : (P.info? e).map (·.size) = some size) {A : Option Addr} {n c : Nat} {j : IntKind} {i : Int} (k : Nat) (hk : i = (k : Int)) (hkn : k ≤ n) (hnc : n ≤ c) (w : World) :
    ∃ A', (Instr.slice t (.slice A n c) (some (.int j i)) none none).run P w = .ok (.slice A' (n - k) (c - k)) w ∧ Tails size k A A' n := by
  subst hk
  have hsz : (sizeOf e).run P w = .ok size w := by
    cases hq : P.info? e with
    | none => simp [hq] at hs
    | some ti =>
      have : ti.size = size := by simpa [hq] using hs
      simp [sizeOf, typeInfo, hq, this]
  by_cases hc : c = k
  · refine ⟨A, ?_, ?_⟩
    · have hnk : n = k := by omega
      subst hc hnk
      simp [Instr.slice, run_underlying ht, Instr.sliceBounds, run_sliceBound, hsz]
    · intro w xs hr hl
      have : xs.drop (k * size) = [] := List.drop_eq_nil_of_le (by rw [hl]; exact Nat.mul_le_mul_right _ (by omega))
      rw [this]
      exact ⟨fun hn => by simp at hn, fun _ => rfl⟩
  · refine ⟨A.map (fun x => x.add (k * size)), ?_, fun w xs hr _ => hr.drop _⟩
    simp [Instr.slice, run_underlying ht, Instr.sliceBounds, run_sliceBound, hsz, hkn]
    intro h
    omega
/-- 's[k:]' in a plain region. -/
theorem tails {ops : Array Oper} {rest : List Oper} {o : Oper} {a : Act} {w : World} {Q : Exit → Act → World → Prop} (hgd : o.guard = none) (x lo : Operand) {t e : TypeId} (ho : o.op = .slice t x (some lo) none none)
    {size : Nat} (ht : P.underlying t = some (.slice e)) (hs : (P.info? e).map (·.size) = some size) {A : Option Addr} {n c : Nat} (hx : a.eval x = .slice A n c) {i : Int} (hlo : a.eval lo = .int .i64 i) (k : Nat) (hk : i = (k : Int)) (hkn : k ≤ n) (hnc : n ≤ c)
    (h : ∀ A', Tails size k A A' n → wpList P ops Q rest (a.put o.dst (.slice A' (n - k) (c - k))) w) : wpList P ops Q (o :: rest) a w :=
  wpList_plain hgd fun _ hK => by
    obtain ⟨A', h1, h2⟩ := run_tail (P := P) ht hs (A := A) (n := n) (c := c) (j := .i64) k hk hkn hnc w
    unfold Oper.wp execOp
    simp only [ho, hx, hlo, Option.map_some, Option.map_none, Instr.sliceAt, run_underlying ht, h1, Sem.run_bind, Sem.run_pure, Result.andThen_ok]
    exact hK _ _ (h A' h2)
/-- An array's cell, the array held as a value. -/
theorem run_index_cells {t e : TypeId} {n : Nat} {f : Nat → Value} (ht : P.underlying t = some (.array n e)) {d : TypeDesc} (he : P.underlying e = some d) (hd : d.isRow = false) (hs : (P.info? e).map (·.size) = some 1) {j : IntKind} {i : Int} (k : Nat) (hk : i = (k : Int)) (hkn : k < n) (w : World) :
    (Instr.index t (.agg (cellsOf n f)) (.int j i)).run P w = .ok (f k) w := by
  subst hk
  have hsz : (sizeOf e).run P w = .ok 1 w := by
    cases hq : P.info? e with
    | none => simp [hq] at hs
    | some ti =>
      have : ti.size = 1 := by simpa [hq] using hs
      simp [sizeOf, typeInfo, hq, this]
  have hagg : (isAgg e).run P w = .ok false w := by
    unfold isAgg
    rw [Sem.run_bind, run_underlying he w]
    cases d <;> simp_all
  have hk2 : ((k : Nat) : Int) < (n : Int) := by omega
  simp [Instr.index, asIntOf, run_underlying ht, hsz, hkn, Go.part, hagg, cellsOf_get n f k hkn]
theorem index_cells {ops : Array Oper} {rest : List Oper} {o : Oper} {a : Act} {w : World} {Q : Exit → Act → World → Prop} (hgd : o.guard = none) (x i : Operand) {t e : TypeId} (ho : o.op = .index t x i) {n : Nat} {f : Nat → Value} (ht : P.underlying t = some (.array n e))
    {d : TypeDesc} (he : P.underlying e = some d) (hd : d.isRow = false) (hs : (P.info? e).map (·.size) = some 1) (hx : a.eval x = .agg (cellsOf n f)) {j : IntKind} {z : Int} (hi : a.eval i = .int j z) (k : Nat) (hk : z = (k : Int)) (hkn : k < n)
    (h : wpList P ops Q rest (a.put o.dst (f k)) w) : wpList P ops Q (o :: rest) a w :=
  wpList_plain hgd fun _ hK => by
    have h1 := run_index_cells (P := P) (f := f) ht he hd hs (j := j) k hk hkn w
    unfold Oper.wp execOp
    simp only [ho, hx, hi, h1, Sem.run_bind, Sem.run_pure, Result.andThen_ok]
    exact hK _ _ h
end
end Go.Proofs.YtfcefhaaphieeaaGreat
