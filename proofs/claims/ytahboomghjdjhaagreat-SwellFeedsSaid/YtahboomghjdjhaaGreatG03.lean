/-
  Frames: slices that may be read, slices under way, transport over calls and loops. No program in sight.
-/
import Derived.Deep.Upon
import Derived.Test.YtahboomghjdjhaaGreatGMem
namespace Go.Proofs.YtahboomghjdjhaaGreat
open Go.RowKit

/-- An element type's facts. -/
structure Elem (P : Program) (t e : TypeId) (size bytes : Nat) : Prop where
  und : P.underlying t = some (.slice e)
  inf : ∃ i z, P.info? e = some i ∧ i.zero = some z ∧ i.size = size ∧ i.bytes = bytes ∧ z.cells.size = size
  pos : 0 < size

theorem Elem.mk' {P : Program} {t e : TypeId} {size bytes : Nat} {z : Value} (hu : P.underlying t = some (.slice e)) (hi : (P.info? e).map (fun i => (i.zero, i.size, i.bytes)) = some (some z, size, bytes)) (hz : z.cells.size = size) (hp : 0 < size) : Elem P t e size bytes := by
  obtain ⟨i0, h0, h1, h2, h3⟩ := info_parts hi
  exact ⟨hu, ⟨i0, z, h0, h1, h2, h3, hz⟩, hp⟩

/-- A slice that may be read. -/
def Rd (w : World) (A : Option Addr) (xs : List Value) : Prop := Sl w A xs ∧ (A = none → xs = [])

section
variable {w w' : World} {A : Option Addr} {xs : List Value}
theorem Rd.nil_ : Rd w none [] := ⟨Sl.nil_, fun _ => rfl⟩
theorem Rd.below (h : Rd w A xs) (hb : Below w.heap.size w w') : Rd w' A xs := ⟨h.1.below hb, h.2⟩
theorem Rd.alloc (h : Rd w A xs) (o : Obj) : Rd (w.alloc o) A xs := ⟨h.1.alloc o, h.2⟩
theorem Rd.drew (h : Rd w A xs) : Rd w.drew A xs := h
theorem Rd.drewN (h : Rd w A xs) (n : Nat) : Rd (w.drewN n) A xs := h
theorem Rd.drop (h : Rd w A xs) (k : Nat) : Rd w (A.map fun x => x.add k) (xs.drop k) := by
  refine ⟨fun hn => ?_, fun e => ?_⟩
  · rw [List.length_drop] at hn
    obtain ⟨b, off, e, hc⟩ := h.1 (by omega)
    subst e
    refine ⟨b, off + k, by simp [add_plain], fun i u hu => ?_⟩
    rw [List.getElem?_drop] at hu
    rw [Nat.add_assoc]
    exact hc _ _ hu
  · have : A = none := by simpa using e
    rw [h.2 this]; simp
theorem Rd.take (h : Rd w A xs) (k : Nat) : Rd w A (xs.take k) := by
  refine ⟨fun hn => ?_, fun e => by rw [h.2 e]; simp⟩
  rw [List.length_take] at hn
  obtain ⟨b, off, e, hc⟩ := h.1 (by omega)
  refine ⟨b, off, e, fun i u hu => hc i u ?_⟩
  rw [List.getElem?_take] at hu
  split at hu
  · exact hu
  · cases hu
/-- The place of a slice that has something, and its cells. -/
theorem Rd.at_ (h : Rd w A xs) (hn : 0 < xs.length) : ∃ b off, A = some ⟨b, off, none⟩ ∧ ∀ i u, xs[i]? = some u → w.cell? ⟨b, off + i, none⟩ = some u := h.1 hn
theorem Rd.new (w : World) (cs : Array Value) (t : TypeId) (xs : List Value) (h : cs.toList = xs) : Rd (w.alloc (.cells cs t)) (some ⟨w.heap.size, 0, none⟩) xs := ⟨Sl.new w cs t xs h, fun e => by cases e⟩
theorem Rd.new' (w : World) (cs : Array Value) (t : TypeId) (xs : List Value) (g : Nat) (hg : g = w.heap.size) (h : cs.toList = xs) : Rd (w.alloc (.cells cs t)) (some ⟨g, 0, none⟩) xs := by
  subst hg; exact Rd.new w cs t xs h
end

/-- A slice under way: of the call's own (from W on), and nothing that was there at W has turned. -/
def Builds (W w : World) (e : TypeId) (size : Nat) (A : Option Addr) (n c : Nat) (xs : List Value) : Prop := Below W.heap.size W w ∧ w.ownsRow W.heap.size e size (.slice A n c) n xs

section
variable {W w w' : World} {e : TypeId} {size n c : Nat} {A : Option Addr} {xs : List Value}
theorem Builds.nil_ (W : World) (e : TypeId) (size : Nat) : Builds W W e size none 0 0 [] := ⟨Below.refl _ _, World.ownsRow_nil _ _ _ _⟩
theorem Builds.nil' {W w : World} (hb : Below W.heap.size W w) (e : TypeId) (size : Nat) : Builds W w e size none 0 0 [] := ⟨hb, World.ownsRow_nil _ _ _ _⟩
theorem Builds.len (h : Builds W w e size A n c xs) : xs.length = n * size := h.2.1
theorem below_drewN' {B : Nat} {a w : World} (h : Below B a w) (n : Nat) : Below B a (w.drewN n) := ⟨h.os, h.tape, h.output, h.size, h.block⟩
theorem Builds.drewN (h : Builds W w e size A n c xs) (k : Nat) : Builds W (w.drewN k) e size A n c xs := ⟨below_drewN' h.1 k, h.2⟩
theorem Builds.alloc (h : Builds W w e size A n c xs) (o : Obj) : Builds W (w.alloc o) e size A n c xs := ⟨h.1.alloc h.1.size o, h.2.alloc o⟩
theorem own_below {base : Nat} {v : Value} (h : w.ownsRow base e size v n xs) (hb : Below w.heap.size w w') : w'.ownsRow base e size v n xs := by
  refine ⟨h.1, ?_⟩
  rcases h.2 with h2 | ⟨g, cap, cur, hv, hg, hh, r⟩
  · exact .inl h2
  · refine .inr ⟨g, cap, cur, hv, hg, ?_, r⟩
    rw [hb.block g ?_]
    · exact hh
    · rcases Nat.lt_or_ge g w.heap.size with hlt | hge
      · exact hlt
      · rw [Array.getElem?_eq_none hge] at hh; cases hh
theorem Builds.below (h : Builds W w e size A n c xs) (hb : Below w.heap.size w w') : Builds W w' e size A n c xs := ⟨h.1.trans (hb.mono h.1.size), own_below h.2 hb⟩
theorem own_rd {base : Nat} (h : w.ownsRow base e size (.slice A n c) n xs) : Rd w A xs := by
  refine ⟨fun hn => ?_, ?_⟩
  · rcases h.2 with ⟨h1, h2⟩ | ⟨g, cap, cur, hv, hb, hh, hc1, hc2, hs, ht⟩
    · have := h.1; subst h2; simp at this; subst this; simp at hn
    · have hA : A = some ⟨g, 0, none⟩ := by injection hv
      subst hA
      refine ⟨g, 0, rfl, fun i u hu => ?_⟩
      have := h.cells (g := g) rfl i u hu
      rwa [add_plain] at this
  · rintro rfl
    rcases h.2 with ⟨_, h2⟩ | ⟨g, cap, cur, hv, _⟩
    · have := h.1; subst h2; exact List.eq_nil_of_length_eq_zero (by simpa using this)
    · cases hv
theorem Builds.rd (h : Builds W w e size A n c xs) : Rd w A xs := own_rd h.2
theorem Builds.cap (h : Builds W w e size A n c xs) : n ≤ c := own_cap h.2
theorem Builds.at_ (h : Builds W w e size A n c xs) (hn : 0 < n) : ∃ g, A = some ⟨g, 0, none⟩ ∧ W.heap.size ≤ g ∧ g < w.heap.size := by
  obtain ⟨g, hg, hb⟩ := own_at h.2 hn
  exact ⟨g, hg, hb, (h.2.lt g (by rw [hg]; rfl)).2⟩
theorem Builds.cell {g : Nat} (h : Builds W w e size (some ⟨g, 0, none⟩) n c xs) (i : Nat) (hi : i < n * size) : w.cell? ⟨g, i, none⟩ = xs[i]? := by
  have hl : i < xs.length := by rw [h.len]; exact hi
  have := h.2.cells (g := g) rfl i xs[i] (List.getElem?_eq_getElem hl)
  rw [add_plain, Nat.zero_add] at this
  rw [this, List.getElem?_eq_getElem hl]
theorem Builds.free {g : Nat} (h : Builds W w e size (some ⟨g, 0, none⟩) n c xs) (i : Nat) : w.frozen? ⟨g, i, none⟩ = false := by
  rcases h.2.2 with ⟨h1, _⟩ | ⟨g', cap, cur, hv, _, hh, _⟩
  · cases h1
  · injection hv with hv
    injection hv with hv
    injection hv with hv
    subst hv
    simp [World.frozen?, hh]
/-- A store into a slice under way. -/
theorem Builds.set {g : Nat} (h : Builds W w e size (some ⟨g, 0, none⟩) n c xs) (i : Nat) (_ : i < n * size) (u : Value) : Builds W (w.setCell ⟨g, i, none⟩ u) e size (some ⟨g, 0, none⟩) n c (xs.set i u) := by
  have hg : W.heap.size ≤ g := (h.2.lt g rfl).1
  refine ⟨h.1.setCell hg u, ?_⟩
  refine ⟨by rw [List.length_set]; exact h.2.1, ?_⟩
  rcases h.2.2 with ⟨h1, _⟩ | ⟨g', cap, cur, hv, hb, hh, h2, h3, h4, h5⟩
  · cases h1
  · simp only [Value.slice.injEq, Option.some.injEq, Addr.mk.injEq] at hv
    obtain ⟨⟨rfl, _⟩, _, rfl⟩ := hv
    refine .inr ⟨g, c, cur.setIfInBounds i u, rfl, hb, ?_, h2, h3, by simpa using h4, ?_⟩
    · simp [World.setCell, Array.getElem?_modify, hh]
    · rw [Array.toList_setIfInBounds, ← h5, List.take_set]
/-- The base may be taken earlier. -/
theorem Builds.rebase {W0 : World} (h : Builds W w e size A n c xs) (hb : Below W0.heap.size W0 W) : Builds W0 w e size A n c xs := ⟨hb.trans (h.1.mono hb.size), own_far_base h.2 hb.size⟩
end

theorem grown_trans' {a b c : World} {row row' : Option Nat} (h : a.grownBy b row) (k : b.grownBy c row') (hr : row' = row ∨ ∀ g, row' = some g → a.heap.size ≤ g) : a.grownBy c row :=
  ⟨k.os.trans h.os, k.tape.trans h.tape, k.output.trans h.output, Nat.le_trans h.size k.size, fun i hi hne => by
    rw [k.block i (Nat.lt_of_lt_of_le hi h.size) ?_]
    · exact h.block i hi hne
    · rcases hr with rfl | hr
      · exact hne
      · intro e; have := hr i e.symm; omega⟩

section
variable {P : Program} {w : World}
theorem run_grow {t e : TypeId} {size bytes : Nat} (E : Elem P t e size bytes) (ty : TypeId) {W : World} {A : Option Addr} {n c : Nat} {xs : List Value} (hs : Builds W w e size A n c xs)
    {B : Option Addr} {m : Nat} (d : Nat) {news : List Value} (hr : Rd w B news) (hlen : news.length = m * size) (h1 : ∀ u ∈ news, u.oneCell' = true) (h63 : n + m ≤ 1000000000) (hby : bytes ≤ 1000) :
    ∃ A' c' w', (Builtin.append_ #[t, t] ty #[.slice A n c, .slice B m d]).run P w = .ok (.slice A' (n + m) c') w' ∧ Builds W w' e size A' (n + m) c' (xs ++ news) ∧ w.grownBy w' (Value.slice A n c).ownBlock := by
  obtain ⟨i, z, hi, hz, hsize, hbytes, hzs⟩ := E.inf
  have hm : B = none → m = 0 := fun h => by
    have h0 := hr.2 h
    rw [h0] at hlen
    have := E.pos
    rcases Nat.eq_zero_or_pos m with h | h
    · exact h
    · have := Nat.mul_pos h E.pos; simp at hlen; omega
  have hb2 : (n + m) * bytes ≤ 140737488355328 := Nat.le_trans (Nat.mul_le_mul h63 hby) (by omega)
  obtain ⟨v', w', hrun, h2, h3, _⟩ := run_app (P := P) w W.heap.size t ty e i z size bytes E.und hi hz hsize hbytes hzs E.pos (.slice A n c) n xs hs.2 B m d news hlen hr.1 hm h1 (by simp only [maxLen]; omega) hb2 hs.1.size
  obtain ⟨A', c', rfl⟩ := own_slice h2
  exact ⟨A', c', w', hrun, ⟨hs.1.grown h3 hs.1.size (own_row_ge hs.2), h2⟩, h3⟩

theorem wp_grow {o : Oper} {a : Act} {K : Act → World → Prop} {Q : Exit → Act → World → Prop} {t e : TypeId} {size bytes : Nat} (E : Elem P t e size bytes) (s x : Operand)
    (ho : o.op = .call { callee := .builtin .append, args := #[s, x], argTypes := #[t, t] })
    {W : World} {A : Option Addr} {n c : Nat} {xs : List Value} (hs : a.eval s = .slice A n c) (hown : Builds W w e size A n c xs)
    {B : Option Addr} {m d : Nat} {news : List Value} (hx : a.eval x = .slice B m d) (hr : Rd w B news) (hlen : news.length = m * size) (h1 : ∀ u ∈ news, u.oneCell' = true)
    (k : Nat) (hk : n + m = k) (ys : List Value) (hys : xs ++ news = ys) (h63 : k ≤ 1000000000) (hby : bytes ≤ 1000)
    (h : ∀ A' c' w', Builds W w' e size A' k c' ys → w.grownBy w' (Value.slice A n c).ownBlock → K (a.put o.dst (.slice A' k c')) w') : o.wp P a w K Q := by
  subst hk hys
  obtain ⟨A', c', w', hrun, h2, h3⟩ := run_grow E o.type hown d hr hlen h1 h63 hby
  unfold Oper.wp execOp
  simp only [ho, resolve, invoke, builtin, Sem.run_bind, Sem.run_pure, Result.andThen_ok, List.map_toArray, List.map_cons, List.map_nil, hs, hx, hrun]
  exact h A' c' w' h2 h3

/-- 'append(s, x...)', s under way, x any slice: in a plain region. -/
theorem grow {ops : Array Oper} {rest : List Oper} {o : Oper} {a : Act} {Q : Exit → Act → World → Prop} {t e : TypeId} {size bytes : Nat} (E : Elem P t e size bytes) (hgd : o.guard = none) (s x : Operand)
    (ho : o.op = .call { callee := .builtin .append, args := #[s, x], argTypes := #[t, t] })
    {W : World} {A : Option Addr} {n c : Nat} {xs : List Value} (hs : a.eval s = .slice A n c) (hown : Builds W w e size A n c xs)
    {B : Option Addr} {m d : Nat} {news : List Value} (hx : a.eval x = .slice B m d) (hr : Rd w B news) (hlen : news.length = m * size) (h1 : ∀ u ∈ news, u.oneCell' = true)
    (k : Nat) (hk : n + m = k) (ys : List Value) (hys : xs ++ news = ys) (h63 : k ≤ 1000000000) (hby : bytes ≤ 1000)
    (h : ∀ A' c' w', Builds W w' e size A' k c' ys → w.grownBy w' (Value.slice A n c).ownBlock → wpList P ops Q rest (a.put o.dst (.slice A' k c')) w') : wpList P ops Q (o :: rest) a w :=
  wpList_plain hgd fun _ hK => wp_grow E s x ho hs hown hx hr hlen h1 k hk ys hys h63 hby fun A' c' w' h2 h3 => hK _ _ (h A' c' w' h2 h3)

/-- The same as one step of a region that draws its order. -/
theorem step_grow {ops : Array Oper} {o : Oper} {a : Act} {K : Act → World → Prop} {Q : Exit → Act → World → Prop} {D : Prop} {t e : TypeId} {size bytes : Nat} (E : Elem P t e size bytes) (hgd : o.guard = none) (s x : Operand)
    (ho : o.op = .call { callee := .builtin .append, args := #[s, x], argTypes := #[t, t] })
    {W : World} {A : Option Addr} {n c : Nat} {xs : List Value} (hs : a.eval s = .slice A n c) (hown : Builds W w e size A n c xs)
    {B : Option Addr} {m d : Nat} {news : List Value} (hx : a.eval x = .slice B m d) (hr : Rd w B news) (hlen : news.length = m * size) (h1 : ∀ u ∈ news, u.oneCell' = true)
    (k : Nat) (hk : n + m = k) (ys : List Value) (hys : xs ++ news = ys) (h63 : k ≤ 1000000000) (hby : bytes ≤ 1000)
    (h : ∀ A' c' w', Builds W w' e size A' k c' ys → w.grownBy w' (Value.slice A n c).ownBlock → K (a.put o.dst (.slice A' k c')) w') :
    if Region.wanted o (yielded ops a.tmps) = true then Oper.wp P o a w K Q else D := by
  have hw : Region.wanted o (yielded ops a.tmps) = true := by simp [Region.wanted, hgd]
  rw [if_pos hw]
  exact wp_grow E s x ho hs hown hx hr hlen h1 k hk ys hys h63 hby h
end

/-! ### make -/
/-- n zeros. -/
def zeros (z : Value) (n : Nat) : Array Value := (List.replicate n z).toArray
theorem zeros_list (z : Value) (n : Nat) : (zeros z n).toList = List.replicate n z := by simp [zeros]
theorem made_zeros (z : Value) (hz : z.cells = #[z]) (n : Nat) : madeCells z.cells n = zeros z n := by
  rw [hz]
  apply Array.ext
  · simp [madeCells, zeros]
  · intro i h1 h2
    simp [madeCells, zeros, Nat.mod_one]
theorem u8s_zeros (n : Nat) : List.replicate n (Value.int .u8 0) = u8s (List.replicate n 0) := by simp [u8s]

/-! ### Element kinds -/
theorem rd_u8 {w : World} {A : Option Addr} {l : List Nat} (h : Rd w A (u8s l)) (hl : ∀ x ∈ l, x < 256) : Bs w A l := ⟨h.1, hl⟩
theorem Bs.rd {w : World} {A : Option Addr} {l : List Nat} (h : Bs w A l) (hA : A = none → l = []) : Rd w A (u8s l) := ⟨h.1, fun e => by rw [hA e]; rfl⟩
theorem u8s_get (l : List Nat) (i : Nat) (hi : i < l.length) : (u8s l)[i]? = some (.int .u8 ((nth l i : Nat) : Int)) := by simp [u8s, nth, List.getElem?_eq_getElem hi]
/-- Numbers. -/
def ints (l : List Int) : List Value := l.map (Value.int .i64)
theorem ints_length (l : List Int) : (ints l).length = l.length := by simp [ints]
theorem ints_append (l m : List Int) : ints (l ++ m) = ints l ++ ints m := by simp [ints]
theorem ints_one (l : List Int) : ∀ u ∈ ints l, u.oneCell' = true := by
  intro u hu
  obtain ⟨x, _, rfl⟩ := List.mem_map.1 hu
  rfl
/-- The number at a place, or 0. -/
def nthI (l : List Int) (i : Nat) : Int := l[i]?.getD 0
theorem ints_get (l : List Int) (i : Nat) (hi : i < l.length) : (ints l)[i]? = some (.int .i64 (nthI l i)) := by simp [ints, nthI, List.getElem?_eq_getElem hi]
/-- Pairs of cells. -/
def prs {α : Type} (f g : α → Value) (l : List α) : List Value := l.flatMap fun x => [f x, g x]
section
variable {α : Type} {f g : α → Value}
theorem prs_length (l : List α) : (prs f g l).length = l.length * 2 := by
  unfold prs
  induction l with
  | nil => rfl
  | cons a l ih => simp only [List.flatMap_cons, List.length_append, ih, List.length_cons, List.length_nil]; omega
theorem prs_append (l m : List α) : prs f g (l ++ m) = prs f g l ++ prs f g m := by simp [prs]
theorem prs_one (hf : ∀ x, (f x).oneCell' = true) (hg : ∀ x, (g x).oneCell' = true) (l : List α) : ∀ u ∈ prs f g l, u.oneCell' = true := by
  intro u hu
  obtain ⟨x, _, h⟩ := List.mem_flatMap.1 hu
  simp only [List.mem_cons, List.not_mem_nil, or_false] at h
  rcases h with rfl | rfl
  · exact hf x
  · exact hg x
theorem prs_get (l : List α) (i : Nat) (x : α) (h : l[i]? = some x) : (prs f g l)[2 * i]? = some (f x) ∧ (prs f g l)[2 * i + 1]? = some (g x) := by
  induction l generalizing i with
  | nil => simp at h
  | cons a l ih =>
    cases i with
    | zero => simp only [List.getElem?_cons_zero, Option.some.injEq] at h; subst h; simp [prs]
    | succ i =>
      simp only [List.getElem?_cons_succ] at h
      have := ih i h
      rw [show 2 * (i + 1) = 2 * i + 2 by omega, show 2 * i + 2 + 1 = (2 * i + 1) + 2 by omega]
      simpa [prs] using this
end
end Go.Proofs.YtahboomghjdjhaaGreat

/-
  Plain: the runs of lengths, and the lengths of runs. No program in sight.
-/
namespace Go.Proofs.YtahboomghjdjhaaGreat

/-- How many stand from a place on that are as it. -/
def sameN (l : List Nat) (a : Nat) : Nat := ((l.drop a).takeWhile (fun x => x == nth l a)).length

/-- The run at a place: its symbol, its extra, how many lengths it is. -/
def stepOf (l : List Nat) (a : Nat) : (Int × Int) × Nat :=
  if nth l a = 0 ∧ 11 ≤ sameN l a then ((18, ((min (sameN l a) 138 - 11 : Nat) : Int)), min (sameN l a) 138)
  else if nth l a = 0 ∧ 3 ≤ sameN l a then ((17, ((sameN l a - 3 : Nat) : Int)), sameN l a)
  else if nth l a ≠ 0 ∧ 0 < a ∧ nth l (a - 1) = nth l a ∧ 3 ≤ sameN l a then ((16, ((min (sameN l a) 6 - 3 : Nat) : Int)), min (sameN l a) 6)
  else (((nth l a : Nat), 0), 1)

/-- The runs from a place on. -/
def runsF : Nat → List Nat → Nat → List (Int × Int)
  | 0, _, _ => []
  | k + 1, l, a => if a < l.length then (stepOf l a).1 :: runsF k l (a + (stepOf l a).2) else []
def runsFrom (l : List Nat) (a : Nat) : List (Int × Int) := runsF (l.length - a) l a
/-- What is wrong with lengths. -/
def sqE (l : List Nat) : Nat := if 320 < l.length then 4 else if l.all (fun x => decide (x ≤ 15)) then 0 else 2
/-- The runs of lengths. -/
def sq (l : List Nat) : List (Int × Int) := if sqE l = 0 then runsFrom l 0 else []

/-- A symbol's extra bits; the error. -/
def symBits (s : Int) : Nat := if s = 16 then 2 else if s = 17 then 3 else if s = 18 then 7 else 0
def symE (s : Int) : Nat := if s < 0 ∨ 18 < s then 2 else 0
/-- May a run be? -/
def runOk (r : Int × Int) : Bool := decide (0 ≤ r.1 ∧ r.1 ≤ 18 ∧ 0 ≤ r.2 ∧ r.2 < 2 ^ symBits r.1)
/-- How often a run is a length. -/
def timesOf (r : Int × Int) : Nat := if r.1 = 16 ∨ r.1 = 17 then r.2.toNat + 3 else if r.1 = 18 then r.2.toNat + 11 else 1
/-- Which length a run is, behind some. -/
def whatOf (r : Int × Int) (out : List Nat) : Nat := if r.1 = 16 then nth out (out.length - 1) else if r.1 = 17 ∨ r.1 = 18 then 0 else r.1.toNat
/-- One run's lengths put behind others: none, if that may not be; the error then. -/
def runsputE (n : Nat) (r : Int × Int) (out : List Nat) : Nat := if runOk r = true then if r.1 = 16 ∧ out = [] ∨ n < out.length + timesOf r then 100 else 0 else 8
def putR (r : Int × Int) (out : List Nat) : List Nat := out ++ List.replicate (timesOf r) (whatOf r out)
/-- Lengths of runs, behind some: the lengths and the error. -/
def strF (n : Nat) : List (Int × Int) → List Nat → List Nat × Nat
  | [], out => if out.length = n then (out, 0) else ([], 100)
  | r :: l, out => if runsputE n r out = 0 then strF n l (putR r out) else ([], runsputE n r out)
/-- Lengths of runs: any number. -/
def strL (l : List (Int × Int)) (n : Int) : List Nat × Nat := if n < 0 ∨ 320 < n then ([], 2) else strF n.toNat l []

theorem runOk_bounds {r : Int × Int} (h : runOk r = true) : 0 ≤ r.1 ∧ r.1 ≤ 18 ∧ 0 ≤ r.2 ∧ r.2 < 128 := by
  have h' := of_decide_eq_true h
  refine ⟨h'.1, h'.2.1, h'.2.2.1, ?_⟩
  have : symBits r.1 ≤ 7 := by unfold symBits; split <;> (try split) <;> (try split) <;> omega
  have h2 : (2 : Int) ^ symBits r.1 ≤ 2 ^ 7 := by
    have := Nat.pow_le_pow_right (n := 2) (by omega) this
    exact_mod_cast this
  have := h'.2.2.2
  omega
theorem whatOf_lt {r : Int × Int} {out : List Nat} (h : runOk r = true) (hb : ∀ x ∈ out, x < 256) : whatOf r out < 256 := by
  have := runOk_bounds h
  unfold whatOf
  split
  · exact nth_lt hb (by omega) _
  · split <;> omega
theorem putR_lt {r : Int × Int} {out : List Nat} (h : runOk r = true) (hb : ∀ x ∈ out, x < 256) : ∀ x ∈ putR r out, x < 256 := by
  intro x hx
  rcases List.mem_append.1 hx with hx | hx
  · exact hb x hx
  · rw [List.eq_of_mem_replicate hx]; exact whatOf_lt h hb
theorem putR_length (r : Int × Int) (out : List Nat) : (putR r out).length = out.length + timesOf r := by simp [putR]

/-- The runs as they lie in memory. -/
def runV (l : List (Int × Int)) : List Value := prs (fun r => .int .i64 r.1) (fun r => .int .i64 r.2) l
theorem runV_one (l : List (Int × Int)) : ∀ u ∈ runV l, u.oneCell' = true := prs_one (fun _ => rfl) (fun _ => rfl) l
theorem runV_length (l : List (Int × Int)) : (runV l).length = l.length * 2 := prs_length l
theorem runV_append (l m : List (Int × Int)) : runV (l ++ m) = runV l ++ runV m := prs_append l m
end Go.Proofs.YtahboomghjdjhaaGreat

/-
  Plain: a stable order: places, exchanges, insertion, merging in place. No program in sight.
-/
namespace Go.Proofs.YtahboomghjdjhaaGreat

/-- By a key, then by number. -/
def LX (f : Int → Int) (x y : Int) : Prop := f x < f y ∨ f x = f y ∧ x < y
/-- A stretch in order; two stretches, of one the numbers less. -/
def SG (f : Int → Int) (ys : List Int) (lo hi : Nat) : Prop := ∀ i j, lo ≤ i → i < j → j < hi → LX f (nthI ys i) (nthI ys j)
def SP (ys : List Int) (lo m hi : Nat) : Prop := ∀ i j, lo ≤ i → i < m → m ≤ j → j < hi → nthI ys i < nthI ys j
/-- A stretch rearranged. -/
structure RA (xs ys : List Int) (lo hi : Nat) : Prop where
  perm : List.Perm ys xs
  out : ∀ i, i < lo ∨ hi ≤ i → nthI ys i = nthI xs i
  mem : ∀ i, lo ≤ i → i < hi → ∃ j, lo ≤ j ∧ j < hi ∧ nthI ys i = nthI xs j
/-- Two exchanged. -/
def swapI (ys : List Int) (i j : Nat) : List Int := (ys.set i (nthI ys j)).set j (nthI ys i)
/-! ### Insertion: e, from place i, has come to place j -/
structure InsAt (f : Int → Int) (zs : List Int) (a j i : Nat) (e : Int) : Prop where
  at_ : nthI zs j = e
  ord : ∀ p q, a ≤ p → p < q → q ≤ i → p ≠ j → q ≠ j → LX f (nthI zs p) (nthI zs q)
  up : ∀ q, j < q → q ≤ i → LX f e (nthI zs q)
end Go.Proofs.YtahboomghjdjhaaGreat

/-
  Plain: merging in place: a turn of a stretch, and where it parts. No program in sight.
-/
namespace Go.Proofs.YtahboomghjdjhaaGreat

/-- The first i of two stretches have been exchanged. -/
structure SwR (us vs : List Int) (a b n : Nat) : Prop where
  one : ∀ k, a ≤ k → k < a + n → nthI vs k = nthI us (k + (b - a))
  two : ∀ k, b ≤ k → k < b + n → nthI vs k = nthI us (k - (b - a))
  out : ∀ k, (k < a ∨ a + n ≤ k) → (k < b ∨ b + n ≤ k) → nthI vs k = nthI us k
/-- What a turn of [a, b) about m makes. -/
structure Rot (us zs : List Int) (a m b : Nat) : Prop where
  one : ∀ k, a ≤ k → k < a + (b - m) → nthI zs k = nthI us (k + (m - a))
  two : ∀ k, a + (b - m) ≤ k → k < b → nthI zs k = nthI us (k - (b - m))
  out : ∀ k, k < a ∨ b ≤ k → nthI zs k = nthI us k
/-- e goes up from place a to place i - 1. -/
structure InsR (f : Int → Int) (zs : List Int) (a k i b : Nat) (e : Int) : Prop where
  at_ : nthI zs k = e
  ord : ∀ p q, a ≤ p → p < q → q < b → p ≠ k → q ≠ k → LX f (nthI zs p) (nthI zs q)
  lo : ∀ p, a ≤ p → p < i → p ≠ k → LX f (nthI zs p) e
  up : ∀ q, i ≤ q → q < b → LX f e (nthI zs q)
/-! ### Where two stretches part -/
section
variable {f : Int → Int} {ys zs : List Int} {a m b : Nat}
/-- What the search finds: s, of n = mid + m. -/
structure Found (f : Int → Int) (ys : List Int) (a m b mid s : Nat) : Prop where
  lo : (if m > mid then mid + m - b else a) ≤ s
  hi : s ≤ (if m > mid then mid else m)
  no : ∀ c, (if m > mid then mid + m - b else a) ≤ c → c < s → ¬ f (nthI ys (mid + m - 1 - c)) < f (nthI ys c)
  yes : ∀ c, s ≤ c → c < (if m > mid then mid else m) → f (nthI ys (mid + m - 1 - c)) < f (nthI ys c)
variable (h1 : SG f ys a m) (h2 : SG f ys m b) (h3 : SP ys a m b) {mid s : Nat} (hmid : mid = (a + b) / 2) (hF : Found f ys a m b mid s) (hR : Rot ys zs s m (mid + m - s))
end
end Go.Proofs.YtahboomghjdjhaaGreat

/-
  Plain: blocks in order, twice as long each time; a list in order is known by what it holds. No program in sight.
-/
namespace Go.Proofs.YtahboomghjdjhaaGreat

/-- Blocks of B ahead of a, blocks of b behind it: each in order, and of earlier ones the numbers less. -/
structure MX (f : Int → Int) (ys : List Int) (n a B b : Nat) : Prop where
  o1 : ∀ i j, i < j → j < a → j < n → i / B = j / B → LX f (nthI ys i) (nthI ys j)
  s1 : ∀ i j, i < j → j < a → j < n → i / B < j / B → nthI ys i < nthI ys j
  x : ∀ i j, i < a → a ≤ j → j < n → nthI ys i < nthI ys j
  o2 : ∀ i j, a ≤ i → i < j → j < n → i / b = j / b → LX f (nthI ys i) (nthI ys j)
  s2 : ∀ i j, a ≤ i → i < j → j < n → i / b < j / b → nthI ys i < nthI ys j
structure BL (f : Int → Int) (ys : List Int) (n b : Nat) : Prop where
  o : ∀ i j, i < j → j < n → i / b = j / b → LX f (nthI ys i) (nthI ys j)
  s : ∀ i j, i < j → j < n → i / b < j / b → nthI ys i < nthI ys j
section
variable {f : Int → Int} {ys zs : List Int} {n a B b q c : Nat}
end

/-! ### Lists in order -/
def Asc (f : Int → Int) (ys : List Int) : Prop := ys.Pairwise (LX f)
end Go.Proofs.YtahboomghjdjhaaGreat

/-
  Plain: the runs of lengths make these lengths; runs make as many as they tell. No program in sight.
-/
namespace Go.Proofs.YtahboomghjdjhaaGreat

/-- How many lengths runs tell together. -/
def sumR (l : List (Int × Int)) : Nat := (l.map timesOf).sum
end Go.Proofs.YtahboomghjdjhaaGreat

/-
  append onto a full slice that is not the call's own: always new memory, or nothing appended. No program in sight.
-/
namespace Go.Proofs.YtahboomghjdjhaaGreat
open Go.RowKit

section
variable {P : Program} (w : World)
theorem src_any {size : Nat} {tx e' : TypeId} (hk : P.underlying tx = some (.slice e')) (B : Option Addr) (m d : Nat) (news : List Value) (hlen : news.length = m * size) (hr : Sl w B news) (hB : B = none → m = 0) (h1 : ∀ u ∈ news, u.oneCell' = true) :
    Src P size tx (.slice B m d) m news w := by
  rcases B with _ | ad
  · have hm := hB rfl
    subst hm
    have hn : news = [] := List.eq_nil_of_length_eq_zero (by simpa using hlen)
    subst hn
    exact Src.ofNil w hk d
  · refine Src.ofSlice w hk ad m d news hlen (fun j u hu => ?_) h1
    have hj : j < news.length := by
      rcases Nat.lt_or_ge j news.length with h | h
      · exact h
      · rw [List.getElem?_eq_none h] at hu; cases hu
    obtain ⟨b, off, e1, hc⟩ := hr (by omega)
    injection e1 with e1
    subst e1
    rw [add_plain]
    exact hc j u hu

theorem run_full (t ty e : TypeId) (i : TypeInfo) (z : Value) (size bytes : Nat) (ht : P.underlying t = some (.slice e)) (hi : P.info? e = some i) (hz : i.zero = some z)
    (hsize : i.size = size) (hby : i.bytes = bytes) (hzs : z.cells.size = size) (hsz : 0 < size)
    (A : Option Addr) (n : Nat) (xs : List Value) (hlo : xs.length = n * size) (hs : Sl w A xs) (hA : A = none → n = 0)
    (B : Option Addr) (m d : Nat) (news : List Value) (hlen : news.length = m * size) (hr : Sl w B news) (hB : B = none → m = 0) (h1 : ∀ u ∈ news, u.oneCell' = true)
    (h63 : n + m ≤ maxLen) (hbytes : (n + m) * bytes ≤ 140737488355328) :
    ∃ A' c' w', (Builtin.append_ #[t, t] ty #[.slice A n n, .slice B m d]).run P w = .ok (.slice A' (n + m) c') w' ∧ Sl w' A' (xs ++ news) ∧ (A' = none → n + m = 0) ∧ n + m ≤ c' ∧ w.grownBy w' none := by
  rcases Nat.eq_zero_or_pos m with rfl | hm
  · have hn : news = [] := List.eq_nil_of_length_eq_zero (by simpa using hlen)
    subst hn
    have hsrc := src_any (P := P) w (size := size) ht B 0 d [] (by simp) hr hB (by simp)
    subst hsize
    exact ⟨A, n, w, Go.run_append_nothing w t t ty e i ht hi A n n (Nat.le_refl _) _ hsrc, by simpa using hs, hA, Nat.le_refl _, World.grownBy.refl w _⟩
  · rcases B with _ | ad
    · have := hB rfl; omega
    have hcells : ∀ j u, news[j]? = some u → w.cell? (ad.add j) = some u := by
      intro j u hu
      have hj : j < news.length := by
        rcases Nat.lt_or_ge j news.length with h | h
        · exact h
        · rw [List.getElem?_eq_none h] at hu; cases hu
      obtain ⟨b, off, e1, hc⟩ := hr (by omega)
      injection e1 with e1
      subst e1
      rw [add_plain]
      exact hc j u hu
    rcases A with _ | a
    · have := hA rfl
      subst this
      have hx : xs = [] := List.eq_nil_of_length_eq_zero (by simpa using hlo)
      subst hx
      obtain ⟨v', w', hrun, r1, r2, _⟩ := run_append_own (P := P) w w.heap.size t ty e i z size bytes ht hi hz hsize hby hzs hsz (.slice none 0 0) 0 [] (World.ownsRow_nil w _ e size) ad m d news hlen hcells h1 h63 hbytes (Nat.le_refl _)
      obtain ⟨A', c', rfl⟩ := own_slice r1
      refine ⟨A', c', w', hrun, Sl.of_own r1, ?_, own_cap r1, r2⟩
      rintro rfl
      rcases r1.2 with ⟨_, h2⟩ | ⟨g, cap, cur, hv, _⟩
      · exact h2
      · cases hv
    · obtain ⟨v', w', hrun, r1, r2⟩ := run_append_arg_grows (P := P) w t ty e i z size bytes ht hi hz hsize hby hzs hsz a n n xs hlo (fun j u hu => by
        have hj : j < xs.length := by
          rcases Nat.lt_or_ge j xs.length with h | h
          · exact h
          · rw [List.getElem?_eq_none h] at hu; cases hu
        obtain ⟨b, off, e1, hc⟩ := hs (by omega)
        injection e1 with e1
        subst e1
        rw [add_plain]
        exact hc j u hu) ad m d news hlen hcells (by omega) h63 hbytes
      obtain ⟨A', c', rfl⟩ := own_slice r1
      refine ⟨A', c', w', hrun, Sl.of_own r1, ?_, own_cap r1, r2⟩
      rintro rfl
      rcases r1.2 with ⟨_, h2⟩ | ⟨g, cap, cur, hv, _⟩
      · exact h2
      · cases hv

theorem wp_full {o : Oper} {a : Act} {K : Act → World → Prop} {Q : Exit → Act → World → Prop} (s x : Operand) (t : TypeId)
    (ho : o.op = .call { callee := .builtin .append, args := #[s, x], argTypes := #[t, t] })
    (e : TypeId) (i : TypeInfo) (z : Value) (size bytes : Nat) (ht : P.underlying t = some (.slice e)) (hi : P.info? e = some i) (hz : i.zero = some z)
    (hsize : i.size = size) (hby : i.bytes = bytes) (hzs : z.cells.size = size) (hsz : 0 < size)
    (A : Option Addr) (n : Nat) (xs : List Value) (hse : a.eval s = .slice A n n) (hlo : xs.length = n * size) (hs : Sl w A xs) (hA : A = none → n = 0)
    (B : Option Addr) (m d : Nat) (news : List Value) (hx : a.eval x = .slice B m d) (hlen : news.length = m * size) (hr : Sl w B news) (hB : B = none → m = 0) (h1 : ∀ u ∈ news, u.oneCell' = true)
    (k : Nat) (hk : k = n + m) (ys : List Value) (hys : ys = xs ++ news)
    (h63 : n + m ≤ maxLen) (hbytes : (n + m) * bytes ≤ 140737488355328)
    (h : ∀ A' c' w', Sl w' A' ys → (A' = none → k = 0) → k ≤ c' → w.grownBy w' none → K (a.put o.dst (.slice A' k c')) w') : o.wp P a w K Q := by
  obtain ⟨A', c', w', hrun, h2, h3, h5, h4⟩ := run_full (P := P) w t o.type e i z size bytes ht hi hz hsize hby hzs hsz A n xs hlo hs hA B m d news hlen hr hB h1 h63 hbytes
  subst hk hys
  unfold Oper.wp execOp
  simp only [ho, resolve, invoke, builtin, Sem.run_bind, Sem.run_pure, Result.andThen_ok, List.map_toArray, List.map_cons, List.map_nil, hse, hx, hrun]
  exact h A' c' w' h2 h3 h5 h4

theorem step_full {ops : Array Oper} {o : Oper} {a : Act} {K : Act → World → Prop} {Q : Exit → Act → World → Prop} {E : Prop} (hgd : o.guard = none) (s x : Operand) (t : TypeId)
    (ho : o.op = .call { callee := .builtin .append, args := #[s, x], argTypes := #[t, t] })
    (e : TypeId) (i : TypeInfo) (z : Value) (size bytes : Nat) (ht : P.underlying t = some (.slice e)) (hi : P.info? e = some i) (hz : i.zero = some z)
    (hsize : i.size = size) (hby : i.bytes = bytes) (hzs : z.cells.size = size) (hsz : 0 < size)
    (A : Option Addr) (n : Nat) (xs : List Value) (hse : a.eval s = .slice A n n) (hlo : xs.length = n * size) (hs : Sl w A xs) (hA : A = none → n = 0)
    (B : Option Addr) (m d : Nat) (news : List Value) (hx : a.eval x = .slice B m d) (hlen : news.length = m * size) (hr : Sl w B news) (hB : B = none → m = 0) (h1 : ∀ u ∈ news, u.oneCell' = true)
    (k : Nat) (hk : k = n + m) (ys : List Value) (hys : ys = xs ++ news)
    (h63 : n + m ≤ maxLen) (hbytes : (n + m) * bytes ≤ 140737488355328)
    (h : ∀ A' c' w', Sl w' A' ys → (A' = none → k = 0) → k ≤ c' → w.grownBy w' none → K (a.put o.dst (.slice A' k c')) w') :
    if Region.wanted o (yielded ops a.tmps) = true then Oper.wp P o a w K Q else E := by
  have hw : Region.wanted o (yielded ops a.tmps) = true := by simp [Region.wanted, hgd]
  rw [if_pos hw]
  exact wp_full w s x t ho e i z size bytes ht hi hz hsize hby hzs hsz A n xs hse hlo hs hA B m d news hx hlen hr hB h1 k hk ys hys h63 hbytes h
end
end Go.Proofs.YtahboomghjdjhaaGreat
