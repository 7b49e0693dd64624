/-
  Arrays that are known whole: cells by a function. No program in sight.
-/
import Derived.Deep.MidRow
import Derived.Deep.WholeRow
import Derived.Laws.Rows
import Derived.Test.YtahboomghjdjhaaGreatG03
namespace Go.Proofs.YtahboomghjdjhaaGreat
open Go.RowKit

/-- n cells, by a function. -/
def cellsOf (n : Nat) (f : Nat → Value) : Array Value := ((List.range n).map f).toArray
theorem cellsOf_size (n : Nat) (f : Nat → Value) : (cellsOf n f).size = n := by simp [cellsOf]
theorem cellsOf_get (n : Nat) (f : Nat → Value) (i : Nat) (h : i < n) : (cellsOf n f)[i]? = some (f i) := by simp [cellsOf, h]
theorem cellsOf_out (n : Nat) (f : Nat → Value) (i : Nat) (h : n ≤ i) : (cellsOf n f)[i]? = none := Array.getElem?_eq_none (by rw [cellsOf_size]; exact h)
theorem cellsOf_set (n : Nat) (f : Nat → Value) (i : Nat) (v : Value) : (cellsOf n f).setIfInBounds i v = cellsOf n (fun k => if k = i then v else f k) := by
  apply Array.ext_getElem?
  intro j
  rw [Array.getElem?_setIfInBounds, cellsOf_size]
  rcases Nat.lt_or_ge j n with hj | hj
  · rw [cellsOf_get n _ j hj, cellsOf_get n _ j hj]
    by_cases h : i = j
    · subst h; rw [if_pos rfl, if_pos hj, if_pos rfl]
    · rw [if_neg h, if_neg (fun e => h e.symm)]
  · rw [cellsOf_out n _ j hj, cellsOf_out n _ j hj]
    by_cases h : i = j
    · subst h; rw [if_pos rfl, if_neg (by omega)]
    · rw [if_neg h]
theorem cellsOf_congr {n : Nat} {f g : Nat → Value} (h : ∀ k, k < n → f k = g k) : cellsOf n f = cellsOf n g := by
  unfold cellsOf
  congr 1
  apply List.map_congr_left
  intro k hk
  exact h k (List.mem_range.1 hk)
theorem cellsOf_list (n : Nat) (f : Nat → Value) : (cellsOf n f).toList = (List.range n).map f := by simp [cellsOf]

/-- 32-bit words. -/
def w32 (f : Nat → Nat) (k : Nat) : Value := .int .u32 ((f k : Nat) : Int)
/-- An array of words in a block. -/
def Arr (w : World) (g : Nat) (t : TypeId) (n : Nat) (f : Nat → Value) : Prop := Blk w g t (cellsOf n f)
section
variable {w w' : World} {g n : Nat} {t : TypeId} {f h : Nat → Value}
theorem Arr.cell (a : Arr w g t n f) (i : Nat) (hi : i < n) : w.cell? ⟨g, i, none⟩ = some (f i) := (Blk.cell a i).trans (cellsOf_get n f i hi)
theorem Arr.free (a : Arr w g t n f) (i : Nat) : w.frozen? ⟨g, i, none⟩ = false := Blk.frozen a i
theorem Arr.set (a : Arr w g t n f) (i : Nat) (v : Value) : Arr (w.setCell ⟨g, i, none⟩ v) g t n (fun k => if k = i then v else f k) := by
  have := Blk.set_ a i v
  rwa [cellsOf_set] at this
theorem Arr.congr (a : Arr w g t n f) (e : ∀ k, k < n → f k = h k) : Arr w g t n h := by
  unfold Arr at a ⊢
  rwa [cellsOf_congr e] at a
theorem Arr.below {B : Nat} (a : Arr w g t n f) (hb : Below B w w') (hg : g < B) : Arr w' g t n f := Blk.below a hb hg
theorem Arr.alloc (a : Arr w g t n f) (o : Obj) : Arr (w.alloc o) g t n f := Blk.alloc a o
theorem Arr.far (a : Arr w g t n f) {p : Addr} (hp : g ≠ p.block) (u : Value) : Arr (w.setCell p u) g t n f := Blk.far a hp u
theorem Arr.drew (a : Arr w g t n f) : Arr w.drew g t n f := a
theorem Arr.drewN (a : Arr w g t n f) (k : Nat) : Arr (w.drewN k) g t n f := a
end

/-- A whole row stored over itself. -/
theorem Blk.setCells {g : Nat} {t : TypeId} : ∀ (vs : List Value) (o : Nat) {w : World} {cs : Array Value}, Blk w g t cs → (∀ j v, vs[j]? = some v → cs[o + j]? = some v) → Blk (w.setCells g o vs) g t cs
  | [], _, _, _, h, _ => h
  | v :: vs, o, w, cs, h, hv => by
    have h0 : cs[o]? = some v := hv 0 v rfl
    have h1 : cs.setIfInBounds o v = cs := by
      apply Array.ext_getElem?
      intro i
      rw [Array.getElem?_setIfInBounds]
      split
      · rename_i e
        subst e
        rw [h0]
        rcases Nat.lt_or_ge o cs.size with hlt | hge
        · simp [hlt]
        · rw [Array.getElem?_eq_none hge] at h0; cases h0
      · rfl
    have h2 := h.set_ o v
    rw [h1] at h2
    exact Blk.setCells vs (o + 1) h2 (fun j u hu => by rw [show o + 1 + j = o + (j + 1) by omega]; exact hv (j + 1) u (by simpa using hu))
theorem Blk.there {w : World} {g : Nat} {t : TypeId} {cs : Array Value} (h : Blk w g t cs) : w.there g 0 cs.size := fun j hj => by
  rw [Nat.zero_add, h.cell, h.frozen]
  exact ⟨by rw [Array.getElem?_eq_getElem hj]; rfl, rfl⟩
/-- Only block g has turned. -/
theorem only_set {a w : World} {g : Nat} (h : a.grownBy w (some g)) (i : Nat) (u : Value) : a.grownBy (w.setCell ⟨g, i, none⟩ u) (some g) :=
  ⟨h.os, h.tape, h.output, by simpa [World.setCell] using h.size, fun k hk hne => (Below.heap_setCell w ⟨g, i, none⟩ u k (fun e => hne (by rw [e]))).trans (h.block k hk hne)⟩
theorem only_drew {a w : World} {row : Option Nat} (h : a.grownBy w row) : a.grownBy w.drew row := ⟨h.os, h.tape, h.output, h.size, h.block⟩
theorem only_drewN {a w : World} {row : Option Nat} (h : a.grownBy w row) (n : Nat) : a.grownBy (w.drewN n) row := ⟨h.os, h.tape, h.output, h.size, h.block⟩
theorem only_below {a w : World} {g B : Nat} (h : a.grownBy w (some g)) (hB : B ≤ a.heap.size) (hg : B ≤ g) : Below B a w :=
  ⟨h.os, h.tape, h.output, h.size, fun k hk => h.block k (by omega) (fun e => by injection e with e; omega)⟩

/-- A row that stands at the head of a block: loaded whole. -/
theorem load_arr {P : Program} {ops : Array Oper} {rest : List Oper} {o : Oper} {a : Act} {w : World} {Q : Exit → Act → World → Prop} (hgd : o.guard = none) (ty : TypeId) (x : Operand) (ho : o.op = .load ty x)
    {g : Nat} (hx : a.eval x = .pointer (some ⟨g, 0, none⟩)) {t : TypeId} {n : Nat} {f : Nat → Value} {d : TypeDesc} (hA : Arr w g t n f)
    (hu : P.underlying ty = some d) (hd : (match d with | .struct _ | .array _ _ => true | _ => false) = true) (hi : (P.info? ty).map (·.size) = some n)
    (h : wpList P ops Q rest (a.put o.dst (.agg (cellsOf n f))) w) : wpList P ops Q (o :: rest) a w :=
  wpList_load_row hgd ty x ho g hx t (cellsOf n f) (0, 0) d hA hu hd (by rw [hi, cellsOf_size]) h
/-- A row stored into a new block. -/
theorem store_new {P : Program} {ops : Array Oper} {rest : List Oper} {o : Oper} {a : Act} {W : World} {Q : Exit → Act → World → Prop} (hgd : o.guard = none) (ty : TypeId) (x y : Operand) (ho : o.op = .store ty x y)
    (g : Nat) (cells : Array Value) (hx : a.eval x = .pointer (some ⟨g, 0, none⟩)) (hy : a.eval y = .agg cells) (hgs : g = W.heap.size)
    (t : TypeId) (old : Array Value) (hi : (P.info? ty).map (·.size) = some cells.size)
    (hold : old.size = cells.size) (h1 : cells.all (·.oneCell') = true)
    (h : wpList P ops Q rest (a.put o.dst undef) (W.alloc (.cells cells t))) : wpList P ops Q (o :: rest) a (W.alloc (.cells old t)) := by
  subst hgs
  refine wpList_store_row hgd ty x y ho W.heap.size cells hx hy t old (heap_alloc_last W _) hi hold h1 ?_
  rw [World.setRow_alloc_new]
  exact h
theorem cellsOf_one {n : Nat} {f : Nat → Value} (h : ∀ k, k < n → (f k).oneCell' = true) : (cellsOf n f).all (·.oneCell') = true := by
  apply all_oneCell_toArray
  intro v hv
  obtain ⟨k, hk, rfl⟩ := List.mem_map.1 hv
  exact h k (List.mem_range.1 hk)

/-! ### make, any length; a slice under way beside a block that turns -/
theorem makes {P : Program} {w : World} {ops : Array Oper} {rest : List Oper} {o : Oper} {a : Act} {Q : Exit → Act → World → Prop} {t e : TypeId} {size bytes : Nat} (E : Elem P t e size bytes) {z : Value} (hz : (P.info? e).map (fun i => i.zero) = some (some z))
    (hg : o.guard = none) (l c : Operand) (hop : o.op = Op.makeSlice t l c) (n : Nat) {L : Int} (hl : a.eval l = .int .i64 L) (hc : a.eval c = .int .i64 L) (hL : L = (n : Int)) (hn : n ≤ 1000000000) (hby : bytes ≤ 1000) (xs : List Value) (hxs : (madeCells z.cells (n * size)).toList = xs)
    (h : ∀ w', Builds w w' e size (some ⟨w.heap.size, 0, none⟩) n n xs → wpList P ops Q rest (a.put o.dst (.slice (some ⟨w.heap.size, 0, none⟩) n n)) w') : wpList P ops Q (o :: rest) a w := by
  obtain ⟨i, z', hi, hz', hsize, hbytes, hzs⟩ := E.inf
  have : z' = z := by rw [hi] at hz; simp only [Option.map_some, Option.some.injEq] at hz; rw [hz'] at hz; exact Option.some.inj hz
  subst this
  subst hxs
  refine wpList_make_full w hg l c t hop w.heap.size e i z' size E.und hi hz' hsize .i64 .i64 L L n hl hc hL hL ?_ (by simp only [maxLen]; omega) (Nat.le_refl _) (fun w' h1 h2 => h w' ⟨(Below.refl _ _).grown h2 (Nat.le_refl _) (fun k hk => by cases hk), h1⟩)
  rw [hbytes]
  exact Nat.le_trans (Nat.mul_le_mul hby hn) (by omega)
theorem made_prs {α : Type} {f g : α → Value} (x : α) {z : Value} (hz : z.cells = #[f x, g x]) (n : Nat) : (madeCells z.cells (n * 2)).toList = prs f g (List.replicate n x) := by
  rw [hz]
  apply List.ext_getElem?
  intro j
  rcases Nat.lt_or_ge j (n * 2) with hj | hj
  · have e : (madeCells #[f x, g x] (n * 2)).toList[j]? = some (#[f x, g x][j % 2]!) := by
      simp [madeCells, hj]
    rw [e]
    have hi : j / 2 < n := by omega
    obtain ⟨h1, h2⟩ := prs_get (f := f) (g := g) (List.replicate n x) (j / 2) x (by simp [hi])
    rcases Nat.mod_two_eq_zero_or_one j with hm | hm
    · rw [show j = 2 * (j / 2) by omega, h1, show 2 * (j / 2) % 2 = 0 by omega]; rfl
    · rw [show j = 2 * (j / 2) + 1 by omega, h2, show (2 * (j / 2) + 1) % 2 = 1 by omega]; rfl
  · rw [List.getElem?_eq_none (by simp [madeCells]; omega), List.getElem?_eq_none (by rw [prs_length]; simp; omega)]
theorem prs_set {α : Type} {f g : α → Value} (l : List α) (i : Nat) (x : α) (h : i < l.length) : ((prs f g l).set (i * 2) (f x)).set (i * 2 + 1) (g x) = prs f g (l.set i x) := by
  induction l generalizing i with
  | nil => simp at h
  | cons a l ih =>
    cases i with
    | zero => simp [prs]
    | succ i =>
      have := ih i (by simpa using h)
      rw [show (i + 1) * 2 = i * 2 + 1 + 1 by omega, show i * 2 + 1 + 1 + 1 = (i * 2 + 1) + 1 + 1 by omega]
      simp only [prs, List.flatMap_cons, List.cons_append, List.nil_append, List.set_cons_succ, List.set_cons_succ] at this ⊢
      rw [this]
theorem Blk.only {w w' : World} {t : TypeId} {g g' : Nat} {cs : Array Value} (h : Blk w g t cs) (hg : w.grownBy w' (some g')) (hne : g ≠ g') : Blk w' g t cs := h.grown hg (fun e => hne (by injection e))
end Go.Proofs.YtahboomghjdjhaaGreat

/-
  Plain: lengths, what they count together, and their codes. No program in sight.
-/
namespace Go.Proofs.YtahboomghjdjhaaGreat

/-- What a length counts, of 2^15. -/
def pw (n : Nat) : Nat := 2 ^ (15 - n)
theorem pw_pos (n : Nat) : 1 ≤ pw n := Nat.one_le_two_pow
theorem pw_le (n : Nat) : pw n ≤ 32768 := by
  have := Nat.pow_le_pow_right (n := 2) (by omega) (show 15 - n ≤ 15 by omega)
  exact this
theorem pw_succ {n : Nat} (h : n < 15) : pw n = 2 * pw (n + 1) := by
  unfold pw
  rw [show 15 - n = (15 - (n + 1)) + 1 by omega, Nat.pow_succ, Nat.mul_comm]

/-- How many there are of a length. -/
def cnt (l : List Nat) (n : Nat) : Nat := if n = 0 then 0 else l.count n
theorem cnt_nil (n : Nat) : cnt [] n = 0 := by unfold cnt; split <;> simp
theorem cnt_snoc (l : List Nat) (x n : Nat) : cnt (l ++ [x]) n = if n ≠ 0 ∧ n = x then cnt l n + 1 else cnt l n := by
  unfold cnt
  by_cases h0 : n = 0
  · rw [if_pos h0, if_pos h0]; exact (if_neg (fun h : n ≠ 0 ∧ n = x => h.1 h0)).symm
  · rw [if_neg h0, if_neg h0, List.count_append, List.count_singleton]
    by_cases h1 : n = x
    · subst h1
      rw [beq_self_eq_true]
      rw [if_pos rfl]
      exact (if_pos ⟨h0, rfl⟩).symm
    · have e : (x == n) = false := beq_eq_false_iff_ne.2 (fun h => h1 h.symm)
      rw [e]
      exact (if_neg (fun h : n ≠ 0 ∧ n = x => h1 h.2)).symm
theorem cnt_le (l : List Nat) (n : Nat) : cnt l n ≤ l.length := by
  unfold cnt
  split
  · omega
  · exact List.count_le_length
theorem take_snoc (l : List Nat) (i : Nat) (h : i < l.length) : l.take (i + 1) = l.take i ++ [nth l i] := by
  rw [List.take_succ_eq_append_getElem h]
  simp [nth, List.getElem?_eq_getElem h]
theorem cnt_take_le (l : List Nat) (n i : Nat) : cnt (l.take i) n ≤ cnt l n := by
  unfold cnt
  split
  · omega
  · exact (List.take_sublist i l).count_le n

/-- The first code of each length: of counts. -/
def frF (c : Nat → Nat) : Nat → Nat
  | 0 => 0
  | n + 1 => (frF c n + c n) * 2
/-- What all shorter ones count. -/
def atF (c : Nat → Nat) : Nat → Nat
  | 0 => 0
  | n + 1 => atF c n + c n * pw n
theorem atF_mono (c : Nat → Nat) {a b : Nat} (h : a ≤ b) : atF c a ≤ atF c b := by
  induction h with
  | refl => exact Nat.le_refl _
  | step _ ih => exact Nat.le_trans ih (Nat.le_add_right _ _)
theorem fr_at (c : Nat → Nat) (h0 : c 0 = 0) : ∀ n, n ≤ 15 → frF c n * pw n = atF c n
  | 0, _ => by simp [frF, atF]
  | n + 1, h => by
    have ih := fr_at c h0 n (by omega)
    have hp := pw_succ (n := n) (by omega)
    show (frF c n + c n) * 2 * pw (n + 1) = atF c n + c n * pw n
    rw [← ih, Nat.mul_assoc, ← hp, Nat.add_mul]
/-- What lengths count together; how many there are. -/
def kraft (l : List Nat) : Nat := (l.map fun x => if x = 0 then 0 else pw x).sum
def used (l : List Nat) : Nat := (l.filter fun x => decide (0 < x)).length
theorem kraft_snoc (l : List Nat) (x : Nat) : kraft (l ++ [x]) = kraft l + if x = 0 then 0 else pw x := by simp [kraft]
theorem used_snoc (l : List Nat) (x : Nat) : used (l ++ [x]) = used l + if x = 0 then 0 else 1 := by
  unfold used
  rw [List.filter_append, List.length_append]
  by_cases h : x = 0
  · subst h; simp
  · rw [if_neg h, List.filter_cons, if_pos (by simp; omega)]; rfl
theorem used_le (l : List Nat) : used l ≤ l.length := List.length_filter_le _ _
theorem kraft_le (l : List Nat) : kraft l ≤ l.length * 32768 := by
  induction l with
  | nil => simp [kraft]
  | cons x l ih =>
    have e : kraft (x :: l) = (if x = 0 then 0 else pw x) + kraft l := by simp [kraft]
    have := pw_le x
    rw [e, List.length_cons]
    split <;> omega
theorem kraft_take_le (l : List Nat) (i : Nat) : kraft (l.take i) ≤ i * 32768 :=
  Nat.le_trans (kraft_le (l.take i)) (Nat.mul_le_mul_right _ (List.length_take_le _ _))
theorem atF_snoc (l : List Nat) (x n : Nat) : atF (cnt (l ++ [x])) n = atF (cnt l) n + if x ≠ 0 ∧ x < n then pw x else 0 := by
  induction n with
  | zero => simp [atF]
  | succ n ih =>
    show atF (cnt (l ++ [x])) n + cnt (l ++ [x]) n * pw n = atF (cnt l) n + cnt l n * pw n + _
    rw [ih, cnt_snoc]
    by_cases h1 : n ≠ 0 ∧ n = x
    · have e1 : n = x := h1.2
      rw [if_pos h1, if_neg (by omega), if_pos ⟨by omega, by omega⟩, ← e1, Nat.add_mul]; omega
    · rw [if_neg h1]
      by_cases h2 : x ≠ 0 ∧ x < n
      · rw [if_pos h2, if_pos ⟨h2.1, by omega⟩]; omega
      · rw [if_neg h2, if_neg (by omega)]
        omega
theorem kraft_at (l : List Nat) (h : ∀ x ∈ l, x ≤ 15) : kraft l = atF (cnt l) 16 := by
  have key : ∀ i, i ≤ l.length → kraft (l.take i) = atF (cnt (l.take i)) 16 := by
    intro i
    induction i with
    | zero =>
      intro _
      simp only [List.take_zero]
      have : ∀ n, atF (cnt []) n = 0 := by
        intro n
        induction n with
        | zero => rfl
        | succ n ih => show atF (cnt []) n + cnt [] n * pw n = 0; rw [ih, cnt_nil]; simp
      rw [this]; rfl
    | succ i ih =>
      intro hi
      have hx : nth l i ≤ 15 := by
        have e : nth l i = l[i] := by simp [nth, List.getElem?_eq_getElem (show i < l.length by omega)]
        rw [e]; exact h _ (List.getElem_mem _)
      rw [take_snoc l i (by omega), kraft_snoc, atF_snoc, ih (by omega)]
      by_cases h0 : nth l i = 0
      · rw [if_pos h0, if_neg (fun h => h.1 h0)]
      · rw [if_neg h0, if_pos ⟨h0, by omega⟩]
  have := key l.length (Nat.le_refl _)
  rwa [List.take_length] at this

/-- What is wrong with lengths. -/
def canE (l : List Nat) (m : Int) : Nat :=
  if m < 1 ∨ 15 < m then 2 else if 320 < l.length then 4 else if l.all (fun x => decide ((x : Int) ≤ m)) then
    if 32768 < kraft l then 30 else if kraft l = 32768 ∨ used l = 0 ∨ used l = 1 ∧ kraft l = 16384 then 0 else 31
  else 2
theorem canE_le (l : List Nat) (m : Int) : canE l m ≤ 31 := by
  unfold canE
  generalize kraft l = K
  generalize used l = U
  by_cases h1 : m < 1 ∨ 15 < m
  · rw [if_pos h1]; omega
  · rw [if_neg h1]
    by_cases h2 : 320 < l.length
    · rw [if_pos h2]; omega
    · rw [if_neg h2]
      by_cases h3 : l.all (fun x => decide ((x : Int) ≤ m)) = true
      · rw [if_pos h3]
        split
        · omega
        · split <;> omega
      · rw [if_neg h3]; omega
theorem canE_ok {l : List Nat} {m : Int} (h : canE l m = 0) : 1 ≤ m ∧ m ≤ 15 ∧ l.length ≤ 320 ∧ (∀ x ∈ l, (x : Int) ≤ m) ∧ kraft l ≤ 32768 ∧ (kraft l = 32768 ∨ used l = 0 ∨ used l = 1 ∧ kraft l = 16384) := by
  unfold canE at h
  by_cases h1 : m < 1 ∨ 15 < m
  · rw [if_pos h1] at h; omega
  · rw [if_neg h1] at h
    by_cases h2 : 320 < l.length
    · rw [if_pos h2] at h; omega
    · rw [if_neg h2] at h
      by_cases h3 : l.all (fun x => decide ((x : Int) ≤ m)) = true
      · rw [if_pos h3] at h
        by_cases h4 : 32768 < kraft l
        · rw [if_pos h4] at h; omega
        · rw [if_neg h4] at h
          by_cases h5 : kraft l = 32768 ∨ used l = 0 ∨ used l = 1 ∧ kraft l = 16384
          · exact ⟨by omega, by omega, by omega, fun x hx => of_decide_eq_true (List.all_eq_true.1 h3 x hx), by omega, h5⟩
          · rw [if_neg h5] at h; omega
      · rw [if_neg h3] at h; omega

/-- The code of a place: its bits and their number. -/
def codeAt (l : List Nat) (i : Nat) : Nat × Nat := if nth l i = 0 then (0, 0) else (frF (cnt l) (nth l i) + cnt (l.take i) (nth l i), nth l i)
/-- The codes of lengths. -/
def codesL (l : List Nat) : List (Nat × Nat) := (List.range l.length).map (codeAt l)
theorem codesL_length (l : List Nat) : (codesL l).length = l.length := by simp [codesL]

theorem cnt_0 (l : List Nat) : cnt l 0 = 0 := by simp [cnt]
end Go.Proofs.YtahboomghjdjhaaGreat

/-
  Plain facts on trees: the symbols by their lengths. No program in sight.
-/
namespace Go.Proofs.YtahboomghjdjhaaGreat

/-- The symbols below j that have the length k. -/
def rowP (l : List Nat) (k : Nat) : Nat → List (Nat × Nat)
  | 0 => []
  | j + 1 => rowP l k j ++ if nth l j = k then [(k, j)] else []
/-- Those of the lengths above 0 and below k. -/
def allP (l : List Nat) : Nat → List (Nat × Nat)
  | 0 => []
  | k + 1 => allP l k ++ if k = 0 then [] else rowP l k l.length
def part (l : List Nat) (k j : Nat) : List (Nat × Nat) := allP l k ++ if k = 0 then [] else rowP l k j

theorem part_zero (l : List Nat) (k : Nat) : part l k 0 = allP l k := by unfold part; split <;> simp [rowP]
theorem part_full (l : List Nat) (k : Nat) : part l k l.length = allP l (k + 1) := rfl
theorem part_hit {l : List Nat} {k j : Nat} (h : nth l j = k) (hk : k ≠ 0) : part l k (j + 1) = part l k j ++ [(k, j)] := by
  unfold part; rw [if_neg hk, if_neg hk, rowP, if_pos h, List.append_assoc]
theorem part_miss {l : List Nat} {k j : Nat} (h : ¬ (nth l j = k ∧ k ≠ 0)) : part l k (j + 1) = part l k j := by
  unfold part
  by_cases hk : k = 0
  · rw [if_pos hk, if_pos hk]
  · rw [if_neg hk, if_neg hk, rowP, if_neg (fun e => h ⟨e, hk⟩), List.append_nil]
theorem rowPt_len (l : List Nat) (k j : Nat) : (rowP l k j).length ≤ j := by
  induction j with
  | zero => simp [rowP]
  | succ j ih =>
    rw [rowP, List.length_append]
    have : (if nth l j = k then [(k, j)] else []).length ≤ 1 := by split <;> simp
    omega
theorem allP_len (l : List Nat) (k : Nat) : (allP l k).length ≤ k * l.length := by
  induction k with
  | zero => simp [allP]
  | succ k ih =>
    rw [allP, List.length_append, Nat.succ_mul]
    have : (if k = 0 then [] else rowP l k l.length).length ≤ l.length := by
      split
      · simp
      · exact rowPt_len l k _
    omega
theorem part_len {l : List Nat} {k j : Nat} (hk : k < 16) (hj : j < l.length) : (part l k j).length < 16 * l.length := by
  have h1 := allP_len l k
  have h2 : (if k = 0 then [] else rowP l k j).length ≤ j := by
    split
    · simp
    · exact rowPt_len l k _
  unfold part
  rw [List.length_append]
  have h3 : k * l.length ≤ 15 * l.length := Nat.mul_le_mul_right _ (by omega)
  omega
end Go.Proofs.YtahboomghjdjhaaGreat

/-
  Plain: codes as pieces of 2^15 that do not meet. No program in sight.
-/
namespace Go.Proofs.YtahboomghjdjhaaGreat

/-- Where a place's piece begins. -/
def S0 (l : List Nat) (i : Nat) : Nat := (codeAt l i).1 * pw (codeAt l i).2

section
variable {l : List Nat} (h15 : ∀ x ∈ l, x ≤ 15) (hk : kraft l ≤ 32768)
theorem nth_15 (h15 : ∀ x ∈ l, x ≤ 15) (i : Nat) : nth l i ≤ 15 := by
  unfold nth
  rcases Nat.lt_or_ge i l.length with hi | hi
  · rw [List.getElem?_eq_getElem hi]; exact h15 _ (List.getElem_mem hi)
  · rw [List.getElem?_eq_none hi]; exact Nat.zero_le _
theorem code_two (i : Nat) : (codeAt l i).2 = nth l i := by
  unfold codeAt
  split
  · rename_i h; exact h.symm
  · rfl
include h15 in
theorem S0_eq {i : Nat} (h0 : nth l i ≠ 0) : S0 l i = atF (cnt l) (nth l i) + cnt (l.take i) (nth l i) * pw (nth l i) := by
  unfold S0
  rw [code_two]
  unfold codeAt
  rw [if_neg h0]
  show (frF (cnt l) (nth l i) + cnt (l.take i) (nth l i)) * pw (nth l i) = _
  rw [Nat.add_mul, fr_at (cnt l) (cnt_0 l) _ (nth_15 h15 i)]
theorem cnt_up {i k n : Nat} (hik : i < k) (hkl : k ≤ l.length) (hi : nth l i = n) (hn : n ≠ 0) : cnt (l.take i) n + 1 ≤ cnt (l.take k) n := by
  have h1 : cnt (l.take (i + 1)) n = cnt (l.take i) n + 1 := by
    rw [take_snoc l i (by omega), cnt_snoc, if_pos ⟨hn, hi.symm⟩]
  have h2 : cnt (l.take (i + 1)) n ≤ cnt (l.take k) n := by
    have := cnt_take_le (l.take k) n (i + 1)
    rwa [List.take_take, Nat.min_eq_left (by omega)] at this
  omega
include h15 in
/-- Pieces stand one behind the other: by length, then by place. -/
theorem S0_lt {i k : Nat} (hi : i < l.length) (hkl : k < l.length) (hi0 : nth l i ≠ 0) (hk0 : nth l k ≠ 0) (h : nth l i < nth l k ∨ nth l i = nth l k ∧ i < k) : S0 l i + pw (nth l i) ≤ S0 l k := by
  rw [S0_eq h15 hi0, S0_eq h15 hk0]
  rcases h with h | ⟨h1, h2⟩
  · have h3 := cnt_up (l := l) (i := i) (k := l.length) hi (Nat.le_refl _) rfl hi0
    rw [List.take_length] at h3
    have h4 : atF (cnt l) (nth l i + 1) ≤ atF (cnt l) (nth l k) := atF_mono _ (by omega)
    have h5 : atF (cnt l) (nth l i + 1) = atF (cnt l) (nth l i) + cnt l (nth l i) * pw (nth l i) := rfl
    have h6 := Nat.mul_le_mul_right (pw (nth l i)) h3
    rw [Nat.add_mul] at h6
    omega
  · have h3 := cnt_up (l := l) h2 (by omega) rfl hi0
    rw [← h1]
    have h6 := Nat.mul_le_mul_right (pw (nth l i)) h3
    rw [Nat.add_mul] at h6
    omega
include h15 hk in
theorem S0_top {i : Nat} (hi : i < l.length) (hi0 : nth l i ≠ 0) : S0 l i + pw (nth l i) ≤ 32768 := by
  rw [S0_eq h15 hi0]
  have h3 := cnt_up (l := l) (i := i) (k := l.length) hi (Nat.le_refl _) rfl hi0
  rw [List.take_length] at h3
  have h5 : atF (cnt l) (nth l i + 1) = atF (cnt l) (nth l i) + cnt l (nth l i) * pw (nth l i) := rfl
  have h4 : atF (cnt l) (nth l i + 1) ≤ atF (cnt l) 16 := atF_mono _ (by have := nth_15 h15 i; omega)
  have h6 := Nat.mul_le_mul_right (pw (nth l i)) h3
  rw [Nat.add_mul] at h6
  rw [← kraft_at l h15] at h4
  omega
theorem pw_split {n : Nat} (h : n ≤ 15) : 2 ^ n * pw n = 32768 := by
  unfold pw
  rw [← Nat.pow_add, show n + (15 - n) = 15 by omega]
theorem pw_split2 {a b : Nat} (h : a ≤ b) (hb : b ≤ 15) : 2 ^ (b - a) * pw b = pw a := by
  unfold pw
  rw [← Nat.pow_add, show b - a + (15 - b) = 15 - a by omega]
include h15 hk in
/-- A code fits its length. -/
theorem code_fits {i : Nat} (hi : i < l.length) : (codeAt l i).1 < 2 ^ nth l i := by
  by_cases h0 : nth l i = 0
  · have : codeAt l i = (0, 0) := by unfold codeAt; rw [if_pos h0]
    rw [this, h0]; decide
  · have h1 := S0_top h15 hk hi h0
    unfold S0 at h1
    rw [code_two] at h1
    have h2 := pw_split (nth_15 h15 i)
    have h3 := pw_pos (nth l i)
    have h4 : ((codeAt l i).1 + 1) * pw (nth l i) ≤ 2 ^ nth l i * pw (nth l i) := by rw [Nat.add_mul]; omega
    have := Nat.le_of_mul_le_mul_right h4 (by omega)
    omega
include h15 hk in
theorem code_le {i : Nat} (hi : i < l.length) : (codeAt l i).1 ≤ 32768 := by
  have h1 := code_fits h15 hk hi
  have h2 : 2 ^ nth l i ≤ 2 ^ 15 := Nat.pow_le_pow_right (by omega) (nth_15 h15 i)
  have : (2 : Nat) ^ 15 = 32768 := by decide
  omega

/-- Does a code begin another one? -/
def begB (a b : Nat × Nat) : Bool := decide (0 < a.2 ∧ a.2 ≤ b.2 ∧ b.1 / 2 ^ (b.2 - a.2) = a.1)
/-- A code begins another one: then the other's piece lies in its own. -/
theorem beg_in {i : Nat} {b : Nat × Nat} (hb : b.2 ≤ 15) (h : begB (codeAt l i) b = true) : S0 l i ≤ b.1 * pw b.2 ∧ b.1 * pw b.2 < S0 l i + pw (nth l i) := by
  obtain ⟨h1, h2, h3⟩ := of_decide_eq_true h
  have hp := pw_split2 h2 hb
  have hpos : 0 < 2 ^ (b.2 - (codeAt l i).2) := Nat.two_pow_pos _
  have hpp := pw_pos b.2
  have d1 := Nat.div_add_mod b.1 (2 ^ (b.2 - (codeAt l i).2))
  have d2 := Nat.mod_lt b.1 hpos
  unfold S0
  rw [← code_two]
  rw [h3] at d1
  generalize 2 ^ (b.2 - (codeAt l i).2) = P at *
  generalize pw b.2 = q at *
  generalize (codeAt l i).1 = x at *
  generalize b.1 % P = r at *
  rw [← hp, ← d1]
  have e1 : x * (P * q) = P * x * q := by rw [Nat.mul_comm P x, Nat.mul_assoc]
  have e2 := Nat.add_mul (P * x) r q
  have e3 : r * q + q ≤ P * q := by
    have := Nat.mul_le_mul_right q (show r + 1 ≤ P by omega)
    rw [Nat.add_mul] at this; omega
  omega
theorem in_beg {i : Nat} {b : Nat × Nat} (hb : b.2 ≤ 15) (h0 : nth l i ≠ 0) (hn : nth l i ≤ b.2) (h1 : S0 l i ≤ b.1 * pw b.2) (h2 : b.1 * pw b.2 < S0 l i + pw (nth l i)) : begB (codeAt l i) b = true := by
  unfold begB
  rw [code_two]
  refine decide_eq_true ⟨by omega, hn, ?_⟩
  have hp := pw_split2 hn hb
  have hpos : 0 < 2 ^ (b.2 - nth l i) := Nat.two_pow_pos _
  have hpp := pw_pos b.2
  unfold S0 at h1 h2
  rw [code_two] at h1 h2
  generalize 2 ^ (b.2 - nth l i) = P at *
  rw [← hp] at h1 h2
  generalize pw b.2 = q at *
  generalize (codeAt l i).1 = x at *
  have e1 : x * (P * q) = x * P * q := by rw [Nat.mul_assoc]
  rw [e1] at h1 h2
  have e2 : x * P * q + P * q = (x * P + P) * q := by rw [Nat.add_mul]
  rw [e2] at h2
  have g1 := Nat.le_of_mul_le_mul_right h1 (by omega)
  have g2 := Nat.lt_of_mul_lt_mul_right h2
  rw [Nat.div_eq_of_lt_le]
  · exact g1
  · rw [Nat.add_mul, Nat.one_mul]; exact g2
include h15 in
/-- No code begins another one. -/
theorem apart {i k : Nat} (hi : i < l.length) (hkl : k < l.length) (hne : i ≠ k) : begB (codeAt l i) (codeAt l k) = false := by
  rw [Bool.eq_false_iff]
  intro h
  have hb : (codeAt l k).2 ≤ 15 := by rw [code_two]; exact nth_15 h15 k
  obtain ⟨h1, h2⟩ := beg_in hb h
  obtain ⟨g1, g2, _⟩ := of_decide_eq_true h
  rw [code_two] at g1
  rw [code_two, code_two] at g2
  change S0 l i ≤ S0 l k at h1
  change S0 l k < _ at h2
  have hp := pw_pos (nth l k)
  rcases Nat.lt_trichotomy (nth l i) (nth l k) with h | h | h
  · have := S0_lt h15 hi hkl (by omega) (by omega) (.inl h); omega
  · rcases Nat.lt_or_ge i k with h' | h'
    · have := S0_lt h15 hi hkl (by omega) (by omega) (.inr ⟨h, h'⟩); omega
    · have := S0_lt h15 hkl hi (by omega) (by omega) (.inr ⟨h.symm, by omega⟩); omega
  · omega
/-- Somewhere a length stands with so many of it ahead. -/
theorem find_cnt (n : Nat) (hn : n ≠ 0) : ∀ (m q : Nat), m ≤ l.length → q < cnt (l.take m) n → ∃ i, i < m ∧ nth l i = n ∧ cnt (l.take i) n = q
  | 0, q, _, h => by rw [List.take_zero, cnt_nil] at h; omega
  | m + 1, q, hm, h => by
    rw [take_snoc l m (by omega), cnt_snoc] at h
    by_cases hx : n ≠ 0 ∧ n = nth l m
    · rw [if_pos hx] at h
      rcases Nat.lt_or_ge q (cnt (l.take m) n) with h' | h'
      · obtain ⟨i, h1, h2, h3⟩ := find_cnt n hn m q (by omega) h'
        exact ⟨i, by omega, h2, h3⟩
      · exact ⟨m, by omega, hx.2.symm, by omega⟩
    · rw [if_neg hx] at h
      obtain ⟨i, h1, h2, h3⟩ := find_cnt n hn m q (by omega) h
      exact ⟨i, by omega, h2, h3⟩
theorem find_at (c : Nat → Nat) (row : Nat) : ∀ m, row < atF c m → ∃ n, n < m ∧ atF c n ≤ row ∧ row < atF c (n + 1)
  | 0, h => by simp [atF] at h
  | m + 1, h => by
    rcases Nat.lt_or_ge row (atF c m) with h' | h'
    · obtain ⟨n, h1, h2, h3⟩ := find_at c row m h'
      exact ⟨n, by omega, h2, h3⟩
    · exact ⟨m, by omega, h', h⟩
include h15 in
/-- Each row that is less than what all count lies in a piece. -/
theorem cover {row : Nat} (h : row < kraft l) : ∃ i, i < l.length ∧ begB (codeAt l i) (row, 15) = true := by
  rw [kraft_at l h15] at h
  obtain ⟨n, hn, h1, h2⟩ := find_at _ row _ h
  have h3 : atF (cnt l) (n + 1) = atF (cnt l) n + cnt l n * pw n := rfl
  have hn0 : n ≠ 0 := by
    rintro rfl
    rw [cnt_0] at h3; omega
  have hp := pw_pos n
  have hq : (row - atF (cnt l) n) / pw n < cnt l n := by
    rw [Nat.div_lt_iff_lt_mul (by omega)]; omega
  rw [← List.take_length (l := l)] at hq
  obtain ⟨i, hi, g1, g2⟩ := find_cnt (l := l) n hn0 l.length _ (Nat.le_refl _) hq
  refine ⟨i, hi, in_beg (b := (row, 15)) (Nat.le_refl _) (by omega) (by rw [g1]; show n ≤ 15; omega) ?_ ?_⟩
  all_goals
    rw [S0_eq h15 (by omega), g1, g2]
    rw [List.take_length]
    have e : pw 15 = 1 := rfl
    show _
    simp only [e, Nat.mul_one]
    have d1 := Nat.div_add_mod (row - atF (cnt l) n) (pw n)
    have d2 := Nat.mod_lt (row - atF (cnt l) n) (show 0 < pw n by omega)
    rw [Nat.mul_comm] at d1
    omega
end

/-- How many codes begin a row, among the first m. -/
def hits (l : List Nat) (row m : Nat) : Nat := ((List.range m).filter fun i => begB (codeAt l i) (row, 15)).length
end Go.Proofs.YtahboomghjdjhaaGreat

/-
  s[k:] at any k; a cell of an array held as a value. No program in sight.
-/
namespace Go.Proofs.YtahboomghjdjhaaGreat
open Go.RowKit

/-- What s[k:] hands on: what could be read. -/
def Tails (size k : Nat) (A A' : Option Addr) (n : Nat) : Prop := ∀ (w : World) (xs : List Value), Rd w A xs → xs.length = n * size → Rd w A' (xs.drop (k * size))

section
variable {P : Program}
theorem run_tail {t e : TypeId} {size : Nat} (ht : P.underlying t = some (.slice e)) (hs : (P.info? e).map (·.size) = some size) {A : Option Addr} {n c : Nat} {j : IntKind} {i : Int} (k : Nat) (hk : i = (k : Int)) (hkn : k ≤ n) (hnc : n ≤ c) (w : World) :
    ∃ A', (Instr.slice t (.slice A n c) (some (.int j i)) none none).run P w = .ok (.slice A' (n - k) (c - k)) w ∧ Tails size k A A' n := by
  subst hk
  have hsz : (sizeOf e).run P w = .ok size w := by
    cases hq : P.info? e with
    | none => simp [hq] at hs
    | some ti =>
      have : ti.size = size := by simpa [hq] using hs
      simp [sizeOf, typeInfo, hq, this]
  by_cases hc : c = k
  · refine ⟨A, ?_, ?_⟩
    · have hnk : n = k := by omega
      subst hc hnk
      simp [Instr.slice, run_underlying ht, Instr.sliceBounds, run_sliceBound, hsz]
    · intro w xs hr hl
      have : xs.drop (k * size) = [] := List.drop_eq_nil_of_le (by rw [hl]; exact Nat.mul_le_mul_right _ (by omega))
      rw [this]
      exact ⟨fun hn => by simp at hn, fun _ => rfl⟩
  · refine ⟨A.map (fun x => x.add (k * size)), ?_, fun w xs hr _ => hr.drop _⟩
    simp [Instr.slice, run_underlying ht, Instr.sliceBounds, run_sliceBound, hsz, hkn]
    intro h
    omega
/-- 's[k:]' in a plain region. -/
theorem tails {ops : Array Oper} {rest : List Oper} {o : Oper} {a : Act} {w : World} {Q : Exit → Act → World → Prop} (hgd : o.guard = none) (x lo : Operand) {t e : TypeId} (ho : o.op = .slice t x (some lo) none none)
    {size : Nat} (ht : P.underlying t = some (.slice e)) (hs : (P.info? e).map (·.size) = some size) {A : Option Addr} {n c : Nat} (hx : a.eval x = .slice A n c) {i : Int} (hlo : a.eval lo = .int .i64 i) (k : Nat) (hk : i = (k : Int)) (hkn : k ≤ n) (hnc : n ≤ c)
    (h : ∀ A', Tails size k A A' n → wpList P ops Q rest (a.put o.dst (.slice A' (n - k) (c - k))) w) : wpList P ops Q (o :: rest) a w :=
  wpList_plain hgd fun _ hK => by
    obtain ⟨A', h1, h2⟩ := run_tail (P := P) ht hs (A := A) (n := n) (c := c) (j := .i64) k hk hkn hnc w
    unfold Oper.wp execOp
    simp only [ho, hx, hlo, Option.map_some, Option.map_none, Instr.sliceAt, run_underlying ht, h1, Sem.run_bind, Sem.run_pure, Result.andThen_ok]
    exact hK _ _ (h A' h2)
/-- An array's cell, the array held as a value. -/
theorem run_index_cells {t e : TypeId} {n : Nat} {f : Nat → Value} (ht : P.underlying t = some (.array n e)) {d : TypeDesc} (he : P.underlying e = some d) (hd : d.isRow = false) (hs : (P.info? e).map (·.size) = some 1) {j : IntKind} {i : Int} (k : Nat) (hk : i = (k : Int)) (hkn : k < n) (w : World) :
    (Instr.index t (.agg (cellsOf n f)) (.int j i)).run P w = .ok (f k) w := by
  subst hk
  have hsz : (sizeOf e).run P w = .ok 1 w := by
    cases hq : P.info? e with
    | none => simp [hq] at hs
    | some ti =>
      have : ti.size = 1 := by simpa [hq] using hs
      simp [sizeOf, typeInfo, hq, this]
  have hagg : (isAgg e).run P w = .ok false w := by
    unfold isAgg
    rw [Sem.run_bind, run_underlying he w]
    cases d <;> simp_all
  have hk2 : ((k : Nat) : Int) < (n : Int) := by omega
  simp [Instr.index, asIntOf, run_underlying ht, hsz, hkn, Go.part, hagg, cellsOf_get n f k hkn]
theorem index_cells {ops : Array Oper} {rest : List Oper} {o : Oper} {a : Act} {w : World} {Q : Exit → Act → World → Prop} (hgd : o.guard = none) (x i : Operand) {t e : TypeId} (ho : o.op = .index t x i) {n : Nat} {f : Nat → Value} (ht : P.underlying t = some (.array n e))
    {d : TypeDesc} (he : P.underlying e = some d) (hd : d.isRow = false) (hs : (P.info? e).map (·.size) = some 1) (hx : a.eval x = .agg (cellsOf n f)) {j : IntKind} {z : Int} (hi : a.eval i = .int j z) (k : Nat) (hk : z = (k : Int)) (hkn : k < n)
    (h : wpList P ops Q rest (a.put o.dst (f k)) w) : wpList P ops Q (o :: rest) a w :=
  wpList_plain hgd fun _ hK => by
    have h1 := run_index_cells (P := P) (f := f) ht he hd hs (j := j) k hk hkn w
    unfold Oper.wp execOp
    simp only [ho, hx, hi, h1, Sem.run_bind, Sem.run_pure, Result.andThen_ok]
    exact hK _ _ h
end
end Go.Proofs.YtahboomghjdjhaaGreat
