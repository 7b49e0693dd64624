/-
  Frames: slices that may be read, slices under way, transport over calls and loops. No program in sight.
-/
import Derived.Deep.Upon
import Derived.Test.YtahboomghjdjhaaGMem
namespace Go.Proofs.Ytahboomghjdjhaa
open Go.RowKit

/-- An element type's facts. -/
structure Elem (P : Program) (t e : TypeId) (size bytes : Nat) : Prop where
  und : P.underlying t = some (.slice e)
  inf : ∃ i z, P.info? e = some i ∧ i.zero = some z ∧ i.size = size ∧ i.bytes = bytes ∧ z.cells.size = size
  pos : 0 < size

theorem Elem.mk' {P : Program} {t e : TypeId} {size bytes : Nat} {z : Value} (hu : P.underlying t = some (.slice e)) (hi : (P.info? e).map (fun i => (i.zero, i.size, i.bytes)) = some (some z, size, bytes)) (hz : z.cells.size = size) (hp : 0 < size) : Elem P t e size bytes := by
  obtain ⟨i0, h0, h1, h2, h3⟩ := info_parts hi
  exact ⟨hu, ⟨i0, z, h0, h1, h2, h3, hz⟩, hp⟩

/-- A slice that may be read. -/
def Rd (w : World) (A : Option Addr) (xs : List Value) : Prop := Sl w A xs ∧ (A = none → xs = [])

section
variable {w w' : World} {A : Option Addr} {xs : List Value}
theorem Rd.nil_ : Rd w none [] := ⟨Sl.nil_, fun _ => rfl⟩
theorem Rd.below (h : Rd w A xs) (hb : Below w.heap.size w w') : Rd w' A xs := ⟨h.1.below hb, h.2⟩
theorem Rd.alloc (h : Rd w A xs) (o : Obj) : Rd (w.alloc o) A xs := ⟨h.1.alloc o, h.2⟩
theorem Rd.alloc2 (h : Rd w A xs) (o o' : Obj) : Rd ((w.alloc o).alloc o') A xs := (h.alloc o).alloc o'
theorem Rd.drew (h : Rd w A xs) : Rd w.drew A xs := h
theorem Rd.drewN (h : Rd w A xs) (n : Nat) : Rd (w.drewN n) A xs := h
theorem Rd.drop (h : Rd w A xs) (k : Nat) : Rd w (A.map fun x => x.add k) (xs.drop k) := by
  refine ⟨fun hn => ?_, fun e => ?_⟩
  · rw [List.length_drop] at hn
    obtain ⟨b, off, e, hc⟩ := h.1 (by omega)
    subst e
    refine ⟨b, off + k, by simp [add_plain], fun i u hu => ?_⟩
    rw [List.getElem?_drop] at hu
    rw [Nat.add_assoc]
    exact hc _ _ hu
  · have : A = none := by simpa using e
    rw [h.2 this]; simp
theorem Rd.take (h : Rd w A xs) (k : Nat) : Rd w A (xs.take k) := by
  refine ⟨fun hn => ?_, fun e => by rw [h.2 e]; simp⟩
  rw [List.length_take] at hn
  obtain ⟨b, off, e, hc⟩ := h.1 (by omega)
  refine ⟨b, off, e, fun i u hu => hc i u ?_⟩
  rw [List.getElem?_take] at hu
  split at hu
  · exact hu
  · cases hu
/-- The place of a slice that has something, and its cells. -/
theorem Rd.at_ (h : Rd w A xs) (hn : 0 < xs.length) : ∃ b off, A = some ⟨b, off, none⟩ ∧ ∀ i u, xs[i]? = some u → w.cell? ⟨b, off + i, none⟩ = some u := h.1 hn
theorem Rd.new (w : World) (cs : Array Value) (t : TypeId) (xs : List Value) (h : cs.toList = xs) : Rd (w.alloc (.cells cs t)) (some ⟨w.heap.size, 0, none⟩) xs := ⟨Sl.new w cs t xs h, fun e => by cases e⟩
theorem Rd.new' (w : World) (cs : Array Value) (t : TypeId) (xs : List Value) (g : Nat) (hg : g = w.heap.size) (h : cs.toList = xs) : Rd (w.alloc (.cells cs t)) (some ⟨g, 0, none⟩) xs := by
  subst hg; exact Rd.new w cs t xs h
end

/-- A slice under way: of the call's own (from W on), and nothing that was there at W has turned. -/
def Builds (W w : World) (e : TypeId) (size : Nat) (A : Option Addr) (n c : Nat) (xs : List Value) : Prop := Below W.heap.size W w ∧ w.ownsRow W.heap.size e size (.slice A n c) n xs

section
variable {W w w' : World} {e : TypeId} {size n c : Nat} {A : Option Addr} {xs : List Value}
theorem Builds.nil_ (W : World) (e : TypeId) (size : Nat) : Builds W W e size none 0 0 [] := ⟨Below.refl _ _, World.ownsRow_nil _ _ _ _⟩
theorem Builds.nil' {W w : World} (hb : Below W.heap.size W w) (e : TypeId) (size : Nat) : Builds W w e size none 0 0 [] := ⟨hb, World.ownsRow_nil _ _ _ _⟩
theorem Builds.size_le (h : Builds W w e size A n c xs) : W.heap.size ≤ w.heap.size := h.1.size
theorem Builds.len (h : Builds W w e size A n c xs) : xs.length = n * size := h.2.1
theorem Builds.drew (h : Builds W w e size A n c xs) : Builds W w.drew e size A n c xs := ⟨h.1.drew, h.2⟩
theorem below_drewN' {B : Nat} {a w : World} (h : Below B a w) (n : Nat) : Below B a (w.drewN n) := ⟨h.os, h.tape, h.output, h.size, h.block⟩
theorem Builds.drewN (h : Builds W w e size A n c xs) (k : Nat) : Builds W (w.drewN k) e size A n c xs := ⟨below_drewN' h.1 k, h.2⟩
theorem Builds.alloc (h : Builds W w e size A n c xs) (o : Obj) : Builds W (w.alloc o) e size A n c xs := ⟨h.1.alloc h.1.size o, h.2.alloc o⟩
theorem own_below {base : Nat} {v : Value} (h : w.ownsRow base e size v n xs) (hb : Below w.heap.size w w') : w'.ownsRow base e size v n xs := by
  refine ⟨h.1, ?_⟩
  rcases h.2 with h2 | ⟨g, cap, cur, hv, hg, hh, r⟩
  · exact .inl h2
  · refine .inr ⟨g, cap, cur, hv, hg, ?_, r⟩
    rw [hb.block g ?_]
    · exact hh
    · rcases Nat.lt_or_ge g w.heap.size with hlt | hge
      · exact hlt
      · rw [Array.getElem?_eq_none hge] at hh; cases hh
theorem Builds.below (h : Builds W w e size A n c xs) (hb : Below w.heap.size w w') : Builds W w' e size A n c xs := ⟨h.1.trans (hb.mono h.1.size), own_below h.2 hb⟩
theorem own_rd {base : Nat} (h : w.ownsRow base e size (.slice A n c) n xs) : Rd w A xs := by
  refine ⟨fun hn => ?_, ?_⟩
  · rcases h.2 with ⟨h1, h2⟩ | ⟨g, cap, cur, hv, hb, hh, hc1, hc2, hs, ht⟩
    · have := h.1; subst h2; simp at this; subst this; simp at hn
    · have hA : A = some ⟨g, 0, none⟩ := by injection hv
      subst hA
      refine ⟨g, 0, rfl, fun i u hu => ?_⟩
      have := h.cells (g := g) rfl i u hu
      rwa [add_plain] at this
  · rintro rfl
    rcases h.2 with ⟨_, h2⟩ | ⟨g, cap, cur, hv, _⟩
    · have := h.1; subst h2; exact List.eq_nil_of_length_eq_zero (by simpa using this)
    · cases hv
theorem Builds.rd (h : Builds W w e size A n c xs) : Rd w A xs := own_rd h.2
theorem Builds.cap (h : Builds W w e size A n c xs) : n ≤ c := own_cap h.2
theorem Builds.at_ (h : Builds W w e size A n c xs) (hn : 0 < n) : ∃ g, A = some ⟨g, 0, none⟩ ∧ W.heap.size ≤ g ∧ g < w.heap.size := by
  obtain ⟨g, hg, hb⟩ := own_at h.2 hn
  exact ⟨g, hg, hb, (h.2.lt g (by rw [hg]; rfl)).2⟩
theorem Builds.cell {g : Nat} (h : Builds W w e size (some ⟨g, 0, none⟩) n c xs) (i : Nat) (hi : i < n * size) : w.cell? ⟨g, i, none⟩ = xs[i]? := by
  have hl : i < xs.length := by rw [h.len]; exact hi
  have := h.2.cells (g := g) rfl i xs[i] (List.getElem?_eq_getElem hl)
  rw [add_plain, Nat.zero_add] at this
  rw [this, List.getElem?_eq_getElem hl]
theorem Builds.free {g : Nat} (h : Builds W w e size (some ⟨g, 0, none⟩) n c xs) (i : Nat) : w.frozen? ⟨g, i, none⟩ = false := by
  rcases h.2.2 with ⟨h1, _⟩ | ⟨g', cap, cur, hv, _, hh, _⟩
  · cases h1
  · injection hv with hv
    injection hv with hv
    injection hv with hv
    subst hv
    simp [World.frozen?, hh]
/-- A store into a slice under way. -/
theorem Builds.set {g : Nat} (h : Builds W w e size (some ⟨g, 0, none⟩) n c xs) (i : Nat) (_ : i < n * size) (u : Value) : Builds W (w.setCell ⟨g, i, none⟩ u) e size (some ⟨g, 0, none⟩) n c (xs.set i u) := by
  have hg : W.heap.size ≤ g := (h.2.lt g rfl).1
  refine ⟨h.1.setCell hg u, ?_⟩
  refine ⟨by rw [List.length_set]; exact h.2.1, ?_⟩
  rcases h.2.2 with ⟨h1, _⟩ | ⟨g', cap, cur, hv, hb, hh, h2, h3, h4, h5⟩
  · cases h1
  · simp only [Value.slice.injEq, Option.some.injEq, Addr.mk.injEq] at hv
    obtain ⟨⟨rfl, _⟩, _, rfl⟩ := hv
    refine .inr ⟨g, c, cur.setIfInBounds i u, rfl, hb, ?_, h2, h3, by simpa using h4, ?_⟩
    · simp [World.setCell, Array.getElem?_modify, hh]
    · rw [Array.toList_setIfInBounds, ← h5, List.take_set]
/-- The base may be taken earlier. -/
theorem Builds.rebase {W0 : World} (h : Builds W w e size A n c xs) (hb : Below W0.heap.size W0 W) : Builds W0 w e size A n c xs := ⟨hb.trans (h.1.mono hb.size), own_far_base h.2 hb.size⟩
end

theorem grown_trans' {a b c : World} {row row' : Option Nat} (h : a.grownBy b row) (k : b.grownBy c row') (hr : row' = row ∨ ∀ g, row' = some g → a.heap.size ≤ g) : a.grownBy c row :=
  ⟨k.os.trans h.os, k.tape.trans h.tape, k.output.trans h.output, Nat.le_trans h.size k.size, fun i hi hne => by
    rw [k.block i (Nat.lt_of_lt_of_le hi h.size) ?_]
    · exact h.block i hi hne
    · rcases hr with rfl | hr
      · exact hne
      · intro e; have := hr i e.symm; omega⟩

section
variable {P : Program} {w : World}
theorem run_grow {t e : TypeId} {size bytes : Nat} (E : Elem P t e size bytes) (ty : TypeId) {W : World} {A : Option Addr} {n c : Nat} {xs : List Value} (hs : Builds W w e size A n c xs)
    {B : Option Addr} {m : Nat} (d : Nat) {news : List Value} (hr : Rd w B news) (hlen : news.length = m * size) (h1 : ∀ u ∈ news, u.oneCell' = true) (h63 : n + m ≤ 1000000000) (hby : bytes ≤ 1000) :
    ∃ A' c' w', (Builtin.append_ #[t, t] ty #[.slice A n c, .slice B m d]).run P w = .ok (.slice A' (n + m) c') w' ∧ Builds W w' e size A' (n + m) c' (xs ++ news) ∧ w.grownBy w' (Value.slice A n c).ownBlock := by
  obtain ⟨i, z, hi, hz, hsize, hbytes, hzs⟩ := E.inf
  have hm : B = none → m = 0 := fun h => by
    have h0 := hr.2 h
    rw [h0] at hlen
    have := E.pos
    rcases Nat.eq_zero_or_pos m with h | h
    · exact h
    · have := Nat.mul_pos h E.pos; simp at hlen; omega
  have hb2 : (n + m) * bytes ≤ 140737488355328 := Nat.le_trans (Nat.mul_le_mul h63 hby) (by omega)
  obtain ⟨v', w', hrun, h2, h3, _⟩ := run_app (P := P) w W.heap.size t ty e i z size bytes E.und hi hz hsize hbytes hzs E.pos (.slice A n c) n xs hs.2 B m d news hlen hr.1 hm h1 (by simp only [maxLen]; omega) hb2 hs.1.size
  obtain ⟨A', c', rfl⟩ := own_slice h2
  exact ⟨A', c', w', hrun, ⟨hs.1.grown h3 hs.1.size (own_row_ge hs.2), h2⟩, h3⟩

theorem wp_grow {o : Oper} {a : Act} {K : Act → World → Prop} {Q : Exit → Act → World → Prop} {t e : TypeId} {size bytes : Nat} (E : Elem P t e size bytes) (s x : Operand)
    (ho : o.op = .call { callee := .builtin .append, args := #[s, x], argTypes := #[t, t] })
    {W : World} {A : Option Addr} {n c : Nat} {xs : List Value} (hs : a.eval s = .slice A n c) (hown : Builds W w e size A n c xs)
    {B : Option Addr} {m d : Nat} {news : List Value} (hx : a.eval x = .slice B m d) (hr : Rd w B news) (hlen : news.length = m * size) (h1 : ∀ u ∈ news, u.oneCell' = true)
    (k : Nat) (hk : n + m = k) (ys : List Value) (hys : xs ++ news = ys) (h63 : k ≤ 1000000000) (hby : bytes ≤ 1000)
    (h : ∀ A' c' w', Builds W w' e size A' k c' ys → w.grownBy w' (Value.slice A n c).ownBlock → K (a.put o.dst (.slice A' k c')) w') : o.wp P a w K Q := by
  subst hk hys
  obtain ⟨A', c', w', hrun, h2, h3⟩ := run_grow E o.type hown d hr hlen h1 h63 hby
  unfold Oper.wp execOp
  simp only [ho, resolve, invoke, builtin, Sem.run_bind, Sem.run_pure, Result.andThen_ok, List.map_toArray, List.map_cons, List.map_nil, hs, hx, hrun]
  exact h A' c' w' h2 h3

/-- 'append(s, x...)', s under way, x any slice: in a plain region. -/
theorem grow {ops : Array Oper} {rest : List Oper} {o : Oper} {a : Act} {Q : Exit → Act → World → Prop} {t e : TypeId} {size bytes : Nat} (E : Elem P t e size bytes) (hgd : o.guard = none) (s x : Operand)
    (ho : o.op = .call { callee := .builtin .append, args := #[s, x], argTypes := #[t, t] })
    {W : World} {A : Option Addr} {n c : Nat} {xs : List Value} (hs : a.eval s = .slice A n c) (hown : Builds W w e size A n c xs)
    {B : Option Addr} {m d : Nat} {news : List Value} (hx : a.eval x = .slice B m d) (hr : Rd w B news) (hlen : news.length = m * size) (h1 : ∀ u ∈ news, u.oneCell' = true)
    (k : Nat) (hk : n + m = k) (ys : List Value) (hys : xs ++ news = ys) (h63 : k ≤ 1000000000) (hby : bytes ≤ 1000)
    (h : ∀ A' c' w', Builds W w' e size A' k c' ys → w.grownBy w' (Value.slice A n c).ownBlock → wpList P ops Q rest (a.put o.dst (.slice A' k c')) w') : wpList P ops Q (o :: rest) a w :=
  wpList_plain hgd fun _ hK => wp_grow E s x ho hs hown hx hr hlen h1 k hk ys hys h63 hby fun A' c' w' h2 h3 => hK _ _ (h A' c' w' h2 h3)

/-- The same as one step of a region that draws its order. -/
theorem step_grow {ops : Array Oper} {o : Oper} {a : Act} {K : Act → World → Prop} {Q : Exit → Act → World → Prop} {D : Prop} {t e : TypeId} {size bytes : Nat} (E : Elem P t e size bytes) (hgd : o.guard = none) (s x : Operand)
    (ho : o.op = .call { callee := .builtin .append, args := #[s, x], argTypes := #[t, t] })
    {W : World} {A : Option Addr} {n c : Nat} {xs : List Value} (hs : a.eval s = .slice A n c) (hown : Builds W w e size A n c xs)
    {B : Option Addr} {m d : Nat} {news : List Value} (hx : a.eval x = .slice B m d) (hr : Rd w B news) (hlen : news.length = m * size) (h1 : ∀ u ∈ news, u.oneCell' = true)
    (k : Nat) (hk : n + m = k) (ys : List Value) (hys : xs ++ news = ys) (h63 : k ≤ 1000000000) (hby : bytes ≤ 1000)
    (h : ∀ A' c' w', Builds W w' e size A' k c' ys → w.grownBy w' (Value.slice A n c).ownBlock → K (a.put o.dst (.slice A' k c')) w') :
    if Region.wanted o (yielded ops a.tmps) = true then Oper.wp P o a w K Q else D := by
  have hw : Region.wanted o (yielded ops a.tmps) = true := by simp [Region.wanted, hgd]
  rw [if_pos hw]
  exact wp_grow E s x ho hs hown hx hr hlen h1 k hk ys hys h63 hby h
end

/-! ### make -/
/-- n zeros. -/
def zeros (z : Value) (n : Nat) : Array Value := (List.replicate n z).toArray
theorem zeros_list (z : Value) (n : Nat) : (zeros z n).toList = List.replicate n z := by simp [zeros]
theorem made_zeros (z : Value) (hz : z.cells = #[z]) (n : Nat) : madeCells z.cells n = zeros z n := by
  rw [hz]
  apply Array.ext
  · simp [madeCells, zeros]
  · intro i h1 h2
    simp [madeCells, zeros, Nat.mod_one]
theorem run_make1 {P : Program} {t e : TypeId} {bytes : Nat} (E : Elem P t e 1 bytes) {z : Value} (hz : (P.info? e).map (fun i => i.zero) = some (some z)) (hc : z.cells = #[z]) (n : Nat) (L : Int) (hL : L = (n : Int)) (hn : n ≤ 1000000000) (hby : bytes ≤ 1000) (w : World) :
    (Instr.makeSlice t (.int .i64 L) (.int .i64 L)).run P w = .ok (.slice (some ⟨w.heap.size, 0, none⟩) n n) (w.alloc (.cells (zeros z n) e)) := by
  subst hL
  obtain ⟨i, z', hi, hz', hsize, hbytes, hzs⟩ := E.inf
  have : z' = z := by rw [hi] at hz; simp only [Option.map_some, Option.some.injEq] at hz; rw [hz'] at hz; exact Option.some.inj hz
  subst this
  have h1 : (bytes : Int) * (n : Int) ≤ 281474976710656 := by
    have h1 : bytes * n ≤ 1000 * 1000000000 := Nat.mul_le_mul hby hn
    have h2 : ((bytes * n : Nat) : Int) ≤ ((1000 * 1000000000 : Nat) : Int) := by exact_mod_cast h1
    rw [Int.natCast_mul] at h2
    omega
  have h := run_make (P := P) w t e i z' E.und hi hz' .i64 .i64 (n : Int) (n : Int) (by omega) (by omega) (by rw [hbytes]; exact h1) (by omega)
  rw [Int.toNat_natCast, hsize, Nat.mul_one, made_zeros _ hc] at h
  exact h
theorem Builds.made (w : World) (e : TypeId) (z : Value) (n : Nat) (hn : n ≤ 1000000000) : Builds w (w.alloc (.cells (zeros z n) e)) e 1 (some ⟨w.heap.size, 0, none⟩) n n (List.replicate n z) :=
  ⟨(Below.refl _ _).alloc (Nat.le_refl _) _, by simp, .inr ⟨w.heap.size, n, zeros z n, rfl, Nat.le_refl _, heap_alloc_new w _, Nat.le_refl _, by simp only [maxLen]; omega, by simp [zeros], by rw [zeros_list, Nat.mul_one]; simp⟩⟩
theorem u8s_zeros (n : Nat) : List.replicate n (Value.int .u8 0) = u8s (List.replicate n 0) := by simp [u8s]

/-! ### Element kinds -/
theorem rd_u8 {w : World} {A : Option Addr} {l : List Nat} (h : Rd w A (u8s l)) (hl : ∀ x ∈ l, x < 256) : Bs w A l := ⟨h.1, hl⟩
theorem Bs.rd {w : World} {A : Option Addr} {l : List Nat} (h : Bs w A l) (hA : A = none → l = []) : Rd w A (u8s l) := ⟨h.1, fun e => by rw [hA e]; rfl⟩
theorem u8s_get (l : List Nat) (i : Nat) (hi : i < l.length) : (u8s l)[i]? = some (.int .u8 ((nth l i : Nat) : Int)) := by simp [u8s, nth, List.getElem?_eq_getElem hi]
theorem u8s_nil : u8s [] = [] := rfl
/-- Numbers. -/
def ints (l : List Int) : List Value := l.map (Value.int .i64)
theorem ints_length (l : List Int) : (ints l).length = l.length := by simp [ints]
theorem ints_append (l m : List Int) : ints (l ++ m) = ints l ++ ints m := by simp [ints]
theorem ints_one (l : List Int) : ∀ u ∈ ints l, u.oneCell' = true := by
  intro u hu
  obtain ⟨x, _, rfl⟩ := List.mem_map.1 hu
  rfl
/-- The number at a place, or 0. -/
def nthI (l : List Int) (i : Nat) : Int := l[i]?.getD 0
theorem ints_get (l : List Int) (i : Nat) (hi : i < l.length) : (ints l)[i]? = some (.int .i64 (nthI l i)) := by simp [ints, nthI, List.getElem?_eq_getElem hi]
/-- Pairs of cells. -/
def prs {α : Type} (f g : α → Value) (l : List α) : List Value := l.flatMap fun x => [f x, g x]
section
variable {α : Type} {f g : α → Value}
theorem prs_length (l : List α) : (prs f g l).length = l.length * 2 := by
  unfold prs
  induction l with
  | nil => rfl
  | cons a l ih => simp only [List.flatMap_cons, List.length_append, ih, List.length_cons, List.length_nil]; omega
theorem prs_append (l m : List α) : prs f g (l ++ m) = prs f g l ++ prs f g m := by simp [prs]
theorem prs_one (hf : ∀ x, (f x).oneCell' = true) (hg : ∀ x, (g x).oneCell' = true) (l : List α) : ∀ u ∈ prs f g l, u.oneCell' = true := by
  intro u hu
  obtain ⟨x, _, h⟩ := List.mem_flatMap.1 hu
  simp only [List.mem_cons, List.not_mem_nil, or_false] at h
  rcases h with rfl | rfl
  · exact hf x
  · exact hg x
theorem prs_get (l : List α) (i : Nat) (x : α) (h : l[i]? = some x) : (prs f g l)[2 * i]? = some (f x) ∧ (prs f g l)[2 * i + 1]? = some (g x) := by
  induction l generalizing i with
  | nil => simp at h
  | cons a l ih =>
    cases i with
    | zero => simp only [List.getElem?_cons_zero, Option.some.injEq] at h; subst h; simp [prs]
    | succ i =>
      simp only [List.getElem?_cons_succ] at h
      have := ih i h
      rw [show 2 * (i + 1) = 2 * i + 2 by omega, show 2 * i + 2 + 1 = (2 * i + 1) + 2 by omega]
      simpa [prs] using this
end
end Go.Proofs.Ytahboomghjdjhaa

/-
  Plain: the runs of lengths, and the lengths of runs. No program in sight.
-/
namespace Go.Proofs.Ytahboomghjdjhaa

/-- How many stand from a place on that are as it. -/
def sameN (l : List Nat) (a : Nat) : Nat := ((l.drop a).takeWhile (fun x => x == nth l a)).length

theorem tw_in {p : Nat → Bool} : ∀ (m : List Nat) (k : Nat), k < (m.takeWhile p).length → ∃ x, m[k]? = some x ∧ p x = true
  | [], k, h => by simp at h
  | a :: m, k, h => by
    by_cases hp : p a = true
    · rw [List.takeWhile_cons_of_pos hp] at h
      cases k with
      | zero => exact ⟨a, rfl, hp⟩
      | succ k =>
        obtain ⟨x, hx, hx2⟩ := tw_in m k (by simpa using h)
        exact ⟨x, by simpa using hx, hx2⟩
    · rw [List.takeWhile_cons_of_neg hp] at h; simp at h
theorem tw_out {p : Nat → Bool} : ∀ (m : List Nat) (x : Nat), m[(m.takeWhile p).length]? = some x → p x = false
  | [], x, h => by simp at h
  | a :: m, x, h => by
    by_cases hp : p a = true
    · rw [List.takeWhile_cons_of_pos hp] at h
      exact tw_out m x (by simpa using h)
    · rw [List.takeWhile_cons_of_neg hp] at h
      simp only [List.length_nil, List.getElem?_cons_zero, Option.some.injEq] at h
      subst h; simpa using hp

theorem sameN_in {l : List Nat} {a n : Nat} (h : n < sameN l a) : a + n < l.length ∧ nth l (a + n) = nth l a := by
  obtain ⟨x, hx, hp⟩ := tw_in _ n h
  rw [List.getElem?_drop] at hx
  have hlt : a + n < l.length := by
    rcases Nat.lt_or_ge (a + n) l.length with h | h
    · exact h
    · rw [List.getElem?_eq_none h] at hx; cases hx
  refine ⟨hlt, ?_⟩
  have : nth l (a + n) = x := by unfold nth; rw [hx]; rfl
  rw [this]; exact beq_iff_eq.1 hp
theorem sameN_out (l : List Nat) (a : Nat) (h : a + sameN l a < l.length) : nth l (a + sameN l a) ≠ nth l a := by
  have := tw_out (p := fun x => x == nth l a) (l.drop a) (l[a + sameN l a]) (by
    rw [List.getElem?_drop]
    exact List.getElem?_eq_getElem h)
  have e : nth l (a + sameN l a) = l[a + sameN l a] := by unfold nth; rw [List.getElem?_eq_getElem h]; rfl
  rw [e]
  exact fun he => by rw [he] at this; simp at this
theorem sameN_le (l : List Nat) (a : Nat) (h : a ≤ l.length) : a + sameN l a ≤ l.length := by
  rcases Nat.lt_or_ge l.length (a + sameN l a) with h1 | h1
  · obtain ⟨h2, _⟩ := sameN_in (l := l) (a := a) (n := l.length - a) (by omega)
    omega
  · exact h1
theorem sameN_pos {l : List Nat} {a : Nat} (h : a < l.length) : 1 ≤ sameN l a := by
  rcases Nat.eq_zero_or_pos (sameN l a) with h0 | h0
  · have := sameN_out l a (by omega)
    rw [h0] at this
    exact absurd rfl this
  · exact h0

/-- The run at a place: its symbol, its extra, how many lengths it is. -/
def stepOf (l : List Nat) (a : Nat) : (Int × Int) × Nat :=
  if nth l a = 0 ∧ 11 ≤ sameN l a then ((18, ((min (sameN l a) 138 - 11 : Nat) : Int)), min (sameN l a) 138)
  else if nth l a = 0 ∧ 3 ≤ sameN l a then ((17, ((sameN l a - 3 : Nat) : Int)), sameN l a)
  else if nth l a ≠ 0 ∧ 0 < a ∧ nth l (a - 1) = nth l a ∧ 3 ≤ sameN l a then ((16, ((min (sameN l a) 6 - 3 : Nat) : Int)), min (sameN l a) 6)
  else (((nth l a : Nat), 0), 1)

theorem stepOf_pos (l : List Nat) (a : Nat) : 1 ≤ (stepOf l a).2 := by
  unfold stepOf
  split
  · show 1 ≤ min _ _; omega
  · split
    · show 1 ≤ sameN _ _; omega
    · split
      · show 1 ≤ min _ _; omega
      · exact Nat.le_refl _
theorem stepOf_le (l : List Nat) (a : Nat) (h : a < l.length) : a + (stepOf l a).2 ≤ l.length := by
  have := sameN_le l a (by omega)
  unfold stepOf
  split
  · show a + min _ _ ≤ _; omega
  · split
    · exact this
    · split
      · show a + min _ _ ≤ _; omega
      · show a + 1 ≤ _; omega

/-- The runs from a place on. -/
def runsF : Nat → List Nat → Nat → List (Int × Int)
  | 0, _, _ => []
  | k + 1, l, a => if a < l.length then (stepOf l a).1 :: runsF k l (a + (stepOf l a).2) else []
theorem runsF_ge : ∀ (k k' : Nat) (l : List Nat) (a : Nat), l.length - a ≤ k → l.length - a ≤ k' → runsF k l a = runsF k' l a
  | 0, 0, _, _, _, _ => rfl
  | 0, k' + 1, l, a, h, _ => by unfold runsF; rw [if_neg (by omega)]
  | k + 1, 0, l, a, _, h => by unfold runsF; rw [if_neg (by omega)]
  | k + 1, k' + 1, l, a, h, h' => by
    unfold runsF
    by_cases hlt : a < l.length
    · rw [if_pos hlt, if_pos hlt]
      have := stepOf_pos l a
      rw [runsF_ge k k' l _ (by omega) (by omega)]
    · rw [if_neg hlt, if_neg hlt]
def runsFrom (l : List Nat) (a : Nat) : List (Int × Int) := runsF (l.length - a) l a
theorem runsFrom_step {l : List Nat} {a : Nat} (h : a < l.length) : runsFrom l a = (stepOf l a).1 :: runsFrom l (a + (stepOf l a).2) := by
  unfold runsFrom
  obtain ⟨k, hk⟩ : ∃ k, l.length - a = k + 1 := ⟨l.length - a - 1, by omega⟩
  rw [hk, runsF, if_pos h]
  have := stepOf_pos l a
  rw [runsF_ge k (l.length - (a + (stepOf l a).2)) l _ (by omega) (Nat.le_refl _)]
theorem runsFrom_end {l : List Nat} {a : Nat} (h : l.length ≤ a) : runsFrom l a = [] := by
  unfold runsFrom
  rw [show l.length - a = 0 by omega]; rfl
theorem runsFrom_len (l : List Nat) : ∀ (k a : Nat), l.length - a ≤ k → (runsFrom l a).length ≤ l.length - a
  | 0, a, h => by rw [runsFrom_end (by omega)]; simp
  | k + 1, a, h => by
    rcases Nat.lt_or_ge a l.length with hlt | hge
    · have := stepOf_pos l a
      have ih := runsFrom_len l k (a + (stepOf l a).2) (by omega)
      rw [runsFrom_step hlt, List.length_cons]; omega
    · rw [runsFrom_end hge]; simp

/-- What is wrong with lengths. -/
def sqE (l : List Nat) : Nat := if 320 < l.length then 4 else if l.all (fun x => decide (x ≤ 15)) then 0 else 2
/-- The runs of lengths. -/
def sq (l : List Nat) : List (Int × Int) := if sqE l = 0 then runsFrom l 0 else []

/-- A symbol's extra bits; the error. -/
def symBits (s : Int) : Nat := if s = 16 then 2 else if s = 17 then 3 else if s = 18 then 7 else 0
def symE (s : Int) : Nat := if s < 0 ∨ 18 < s then 2 else 0
/-- May a run be? -/
def runOk (r : Int × Int) : Bool := decide (0 ≤ r.1 ∧ r.1 ≤ 18 ∧ 0 ≤ r.2 ∧ r.2 < 2 ^ symBits r.1)
/-- How often a run is a length. -/
def timesOf (r : Int × Int) : Nat := if r.1 = 16 ∨ r.1 = 17 then r.2.toNat + 3 else if r.1 = 18 then r.2.toNat + 11 else 1
/-- Which length a run is, behind some. -/
def whatOf (r : Int × Int) (out : List Nat) : Nat := if r.1 = 16 then nth out (out.length - 1) else if r.1 = 17 ∨ r.1 = 18 then 0 else r.1.toNat
/-- One run's lengths put behind others: none, if that may not be; the error then. -/
def runsputE (n : Nat) (r : Int × Int) (out : List Nat) : Nat := if runOk r = true then if r.1 = 16 ∧ out = [] ∨ n < out.length + timesOf r then 100 else 0 else 8
def putR (r : Int × Int) (out : List Nat) : List Nat := out ++ List.replicate (timesOf r) (whatOf r out)
/-- Lengths of runs, behind some: the lengths and the error. -/
def strF (n : Nat) : List (Int × Int) → List Nat → List Nat × Nat
  | [], out => if out.length = n then (out, 0) else ([], 100)
  | r :: l, out => if runsputE n r out = 0 then strF n l (putR r out) else ([], runsputE n r out)
/-- Lengths of runs: any number. -/
def strL (l : List (Int × Int)) (n : Int) : List Nat × Nat := if n < 0 ∨ 320 < n then ([], 2) else strF n.toNat l []

theorem runOk_bounds {r : Int × Int} (h : runOk r = true) : 0 ≤ r.1 ∧ r.1 ≤ 18 ∧ 0 ≤ r.2 ∧ r.2 < 128 := by
  have h' := of_decide_eq_true h
  refine ⟨h'.1, h'.2.1, h'.2.2.1, ?_⟩
  have : symBits r.1 ≤ 7 := by unfold symBits; split <;> (try split) <;> (try split) <;> omega
  have h2 : (2 : Int) ^ symBits r.1 ≤ 2 ^ 7 := by
    have := Nat.pow_le_pow_right (n := 2) (by omega) this
    exact_mod_cast this
  have := h'.2.2.2
  omega
theorem timesOf_le {r : Int × Int} (h : runOk r = true) : 1 ≤ timesOf r ∧ timesOf r ≤ 138 := by
  have := runOk_bounds h
  unfold timesOf
  split
  · omega
  · split <;> omega
theorem whatOf_lt {r : Int × Int} {out : List Nat} (h : runOk r = true) (hb : ∀ x ∈ out, x < 256) : whatOf r out < 256 := by
  have := runOk_bounds h
  unfold whatOf
  split
  · exact nth_lt hb (by omega) _
  · split <;> omega
theorem putR_lt {r : Int × Int} {out : List Nat} (h : runOk r = true) (hb : ∀ x ∈ out, x < 256) : ∀ x ∈ putR r out, x < 256 := by
  intro x hx
  rcases List.mem_append.1 hx with hx | hx
  · exact hb x hx
  · rw [List.eq_of_mem_replicate hx]; exact whatOf_lt h hb
theorem runsputE_zero {n : Nat} {r : Int × Int} {out : List Nat} (h : runsputE n r out = 0) : runOk r = true ∧ ¬ (r.1 = 16 ∧ out = []) ∧ out.length + timesOf r ≤ n := by
  unfold runsputE at h
  by_cases h1 : runOk r = true
  · rw [if_pos h1] at h
    by_cases h2 : r.1 = 16 ∧ out = [] ∨ n < out.length + timesOf r
    · rw [if_pos h2] at h; omega
    · exact ⟨h1, fun h3 => h2 (.inl h3), by rcases Nat.lt_or_ge n (out.length + timesOf r) with h4 | h4; exact absurd (.inr h4) h2; exact h4⟩
  · rw [if_neg h1] at h; omega
theorem putR_length (r : Int × Int) (out : List Nat) : (putR r out).length = out.length + timesOf r := by simp [putR]

/-- The runs as they lie in memory. -/
def runV (l : List (Int × Int)) : List Value := prs (fun r => .int .i64 r.1) (fun r => .int .i64 r.2) l
theorem runV_one (l : List (Int × Int)) : ∀ u ∈ runV l, u.oneCell' = true := prs_one (fun _ => rfl) (fun _ => rfl) l
theorem runV_length (l : List (Int × Int)) : (runV l).length = l.length * 2 := prs_length l
theorem runV_append (l m : List (Int × Int)) : runV (l ++ m) = runV l ++ runV m := prs_append l m
end Go.Proofs.Ytahboomghjdjhaa

/-
  Plain: a stable order: places, exchanges, insertion, merging in place. No program in sight.
-/
namespace Go.Proofs.Ytahboomghjdjhaa

/-- By a key, then by number. -/
def LX (f : Int → Int) (x y : Int) : Prop := f x < f y ∨ f x = f y ∧ x < y
theorem LX.trans {f : Int → Int} {x y z : Int} (h : LX f x y) (k : LX f y z) : LX f x z := by unfold LX at *; omega
theorem LX.irr {f : Int → Int} {x : Int} : ¬ LX f x x := by unfold LX; omega
theorem LX.tot {f : Int → Int} {x y : Int} (h : x ≠ y) : LX f x y ∨ LX f y x := by unfold LX; omega
/-- A stretch in order; two stretches, of one the numbers less. -/
def SG (f : Int → Int) (ys : List Int) (lo hi : Nat) : Prop := ∀ i j, lo ≤ i → i < j → j < hi → LX f (nthI ys i) (nthI ys j)
def SP (ys : List Int) (lo m hi : Nat) : Prop := ∀ i j, lo ≤ i → i < m → m ≤ j → j < hi → nthI ys i < nthI ys j
/-- A stretch rearranged. -/
structure RA (xs ys : List Int) (lo hi : Nat) : Prop where
  perm : List.Perm ys xs
  out : ∀ i, i < lo ∨ hi ≤ i → nthI ys i = nthI xs i
  mem : ∀ i, lo ≤ i → i < hi → ∃ j, lo ≤ j ∧ j < hi ∧ nthI ys i = nthI xs j
theorem RA.refl (xs : List Int) (lo hi : Nat) : RA xs xs lo hi := ⟨List.Perm.refl _, fun _ _ => rfl, fun i h1 h2 => ⟨i, h1, h2, rfl⟩⟩
theorem RA.trans {xs ys zs : List Int} {lo hi : Nat} (h : RA xs ys lo hi) (k : RA ys zs lo hi) : RA xs zs lo hi :=
  ⟨k.perm.trans h.perm, fun i hi => (k.out i hi).trans (h.out i hi), fun i h1 h2 => by
    obtain ⟨j, j1, j2, e⟩ := k.mem i h1 h2
    obtain ⟨q, q1, q2, e2⟩ := h.mem j j1 j2
    exact ⟨q, q1, q2, e.trans e2⟩⟩
theorem RA.wide {xs ys : List Int} {lo hi lo' hi' : Nat} (h : RA xs ys lo hi) (h1 : lo' ≤ lo) (h2 : hi ≤ hi') : RA xs ys lo' hi' :=
  ⟨h.perm, fun i hi => h.out i (by omega), fun i i1 i2 => by
    by_cases e : i < lo ∨ hi ≤ i
    · exact ⟨i, i1, i2, h.out i e⟩
    · obtain ⟨j, j1, j2, e2⟩ := h.mem i (by omega) (by omega)
      exact ⟨j, by omega, by omega, e2⟩⟩
theorem RA.len {xs ys : List Int} {lo hi : Nat} (h : RA xs ys lo hi) : ys.length = xs.length := h.perm.length_eq
/-- Two exchanged. -/
def swapI (ys : List Int) (i j : Nat) : List Int := (ys.set i (nthI ys j)).set j (nthI ys i)
theorem nthI_set (ys : List Int) (i k : Nat) (v : Int) (h : i < ys.length) : nthI (ys.set i v) k = if k = i then v else nthI ys k := by
  unfold nthI
  rw [List.getElem?_set]
  by_cases e : i = k
  · subst e; simp [h]
  · rw [if_neg e, if_neg (fun e' => e e'.symm)]
theorem swapI_get (ys : List Int) (i j k : Nat) (hi : i < ys.length) (hj : j < ys.length) : nthI (swapI ys i j) k = if k = j then nthI ys i else if k = i then nthI ys j else nthI ys k := by
  unfold swapI
  rw [nthI_set _ _ _ _ (by rw [List.length_set]; exact hj), nthI_set _ _ _ _ hi]
theorem swapI_length (ys : List Int) (i j : Nat) : (swapI ys i j).length = ys.length := by simp [swapI]
theorem nthI_el {ys : List Int} {i : Nat} (h : i < ys.length) : nthI ys i = ys[i] := by simp [nthI, List.getElem?_eq_getElem h]
theorem swapI_perm (ys : List Int) (i j : Nat) (hi : i < ys.length) (hj : j < ys.length) : List.Perm (swapI ys i j) ys := by
  unfold swapI
  rw [nthI_el hi, nthI_el hj]
  exact List.set_set_perm hi hj
theorem RA.swap {ys : List Int} {lo hi i j : Nat} (h1 : lo ≤ i) (h2 : i < hi) (h3 : lo ≤ j) (h4 : j < hi) (h5 : hi ≤ ys.length) : RA ys (swapI ys i j) lo hi :=
  ⟨swapI_perm ys i j (by omega) (by omega), fun k hk => by rw [swapI_get _ _ _ _ (by omega) (by omega), if_neg (by omega), if_neg (by omega)], fun k k1 k2 => by
    rw [swapI_get _ _ _ _ (by omega) (by omega)]
    by_cases e : k = j
    · rw [if_pos e]; exact ⟨i, h1, h2, rfl⟩
    · rw [if_neg e]
      by_cases e2 : k = i
      · rw [if_pos e2]; exact ⟨j, h3, h4, rfl⟩
      · rw [if_neg e2]; exact ⟨k, k1, k2, rfl⟩⟩

/-! ### Insertion: e, from place i, has come to place j -/
structure InsAt (f : Int → Int) (zs : List Int) (a j i : Nat) (e : Int) : Prop where
  at_ : nthI zs j = e
  ord : ∀ p q, a ≤ p → p < q → q ≤ i → p ≠ j → q ≠ j → LX f (nthI zs p) (nthI zs q)
  up : ∀ q, j < q → q ≤ i → LX f e (nthI zs q)
theorem InsAt.start {f : Int → Int} {zs : List Int} {a i : Nat} (h : SG f zs a i) : InsAt f zs a i i (nthI zs i) :=
  ⟨rfl, fun p q h1 h2 h3 h4 h5 => h p q h1 h2 (by omega), fun q h1 h2 => by omega⟩
theorem InsAt.step {f : Int → Int} {zs : List Int} {a j i : Nat} {e : Int} (h : InsAt f zs a (j + 1) i e) (ha : a ≤ j) (hji : j + 1 ≤ i) (hl : i < zs.length) (hlt : LX f e (nthI zs j)) : InsAt f (swapI zs (j + 1) j) a j i e := by
  have g : ∀ k, nthI (swapI zs (j + 1) j) k = if k = j then nthI zs (j + 1) else if k = j + 1 then nthI zs j else nthI zs k := fun k => swapI_get zs (j + 1) j k (by omega) (by omega)
  refine ⟨by rw [g, if_pos rfl]; exact h.at_, fun p q h1 h2 h3 h4 h5 => ?_, fun q h1 h2 => ?_⟩
  · rw [g, g, if_neg h4, if_neg h5]
    by_cases e1 : p = j + 1
    · rw [if_pos e1, if_neg (by omega)]
      exact h.ord j q ha (by omega) h3 (by omega) (by omega)
    · rw [if_neg e1]
      by_cases e2 : q = j + 1
      · rw [if_pos e2]
        exact h.ord p j h1 (by omega) (by omega) (by omega) (by omega)
      · rw [if_neg e2]
        exact h.ord p q h1 h2 h3 e1 e2
  · rw [g, if_neg (by omega)]
    by_cases e1 : q = j + 1
    · rw [if_pos e1]; exact hlt
    · rw [if_neg e1]; exact h.up q (by omega) h2
theorem InsAt.done {f : Int → Int} {zs : List Int} {a j i : Nat} {e : Int} (h : InsAt f zs a j i e) (hlo : a < j → LX f (nthI zs (j - 1)) e) : SG f zs a (i + 1) := by
  intro p q h1 h2 h3
  by_cases e1 : p = j
  · subst e1; rw [h.at_]; exact h.up q h2 (by omega)
  · by_cases e2 : q = j
    · subst e2
      rw [h.at_]
      by_cases e3 : p = q - 1
      · subst e3; exact hlo (by omega)
      · exact (h.ord p (q - 1) h1 (by omega) (by omega) e1 (by omega)).trans (hlo (by omega))
    · exact h.ord p q h1 h2 (by omega) e1 e2
end Go.Proofs.Ytahboomghjdjhaa

/-
  Plain: merging in place: a turn of a stretch, and where it parts. No program in sight.
-/
namespace Go.Proofs.Ytahboomghjdjhaa

/-- The first i of two stretches have been exchanged. -/
structure SwR (us vs : List Int) (a b n : Nat) : Prop where
  one : ∀ k, a ≤ k → k < a + n → nthI vs k = nthI us (k + (b - a))
  two : ∀ k, b ≤ k → k < b + n → nthI vs k = nthI us (k - (b - a))
  out : ∀ k, (k < a ∨ a + n ≤ k) → (k < b ∨ b + n ≤ k) → nthI vs k = nthI us k
theorem SwR.zero (us : List Int) (a b : Nat) : SwR us us a b 0 := ⟨fun k h1 h2 => by omega, fun k h1 h2 => by omega, fun _ _ _ => rfl⟩
theorem SwR.step {us vs : List Int} {a b n : Nat} (h : SwR us vs a b n) (hd : a + n < b) (hl : b + n < vs.length) : SwR us (swapI vs (a + n) (b + n)) a b (n + 1) := by
  have g : ∀ k, nthI (swapI vs (a + n) (b + n)) k = if k = b + n then nthI vs (a + n) else if k = a + n then nthI vs (b + n) else nthI vs k := fun k => swapI_get vs (a + n) (b + n) k (by omega) hl
  refine ⟨fun k h1 h2 => ?_, fun k h1 h2 => ?_, fun k h1 h2 => ?_⟩
  · rw [g, if_neg (by omega)]
    by_cases e : k = a + n
    · rw [if_pos e, e, show a + n + (b - a) = b + n by omega]
      exact h.out (b + n) (by omega) (by omega)
    · rw [if_neg e]; exact h.one k h1 (by omega)
  · rw [g]
    by_cases e : k = b + n
    · rw [if_pos e, e, show b + n - (b - a) = a + n by omega]
      exact h.out (a + n) (by omega) (by omega)
    · rw [if_neg e, if_neg (by omega)]; exact h.two k h1 (by omega)
  · rw [g, if_neg (by omega), if_neg (by omega)]
    exact h.out k (by omega) (by omega)

/-- What a turn of [a, b) about m makes. -/
structure Rot (us zs : List Int) (a m b : Nat) : Prop where
  one : ∀ k, a ≤ k → k < a + (b - m) → nthI zs k = nthI us (k + (m - a))
  two : ∀ k, a + (b - m) ≤ k → k < b → nthI zs k = nthI us (k - (b - m))
  out : ∀ k, k < a ∨ b ≤ k → nthI zs k = nthI us k
theorem Rot.left {us vs zs : List Int} {m i j : Nat} (h : Rot us zs (m - i) m (m + j)) (hi : i ≤ m) (hij : j < i) (hs : SwR us vs (m - i) m j) : Rot vs zs (m - (i - j)) m (m + j) := by
  refine ⟨fun k h1 h2 => ?_, fun k h1 h2 => ?_, fun k hk => ?_⟩
  · rw [h.two k (by omega) (by omega), hs.two (k + (m - (m - (i - j)))) (by omega) (by omega)]
    congr 1; omega
  · rw [h.two k (by omega) (by omega), hs.out (k - (m + j - m)) (by omega) (by omega)]
  · by_cases e : k < m - i ∨ m + j ≤ k
    · rw [h.out k e, hs.out k (by omega) (by omega)]
    · rw [h.one k (by omega) (by omega), hs.one k (by omega) (by omega)]
theorem Rot.right {us vs zs : List Int} {m i j : Nat} (h : Rot us zs (m - i) m (m + j)) (hi : i ≤ m) (hij : i < j) (hs : SwR us vs (m - i) (m + j - i) i) : Rot vs zs (m - i) m (m + (j - i)) := by
  refine ⟨fun k h1 h2 => ?_, fun k h1 h2 => ?_, fun k hk => ?_⟩
  · rw [h.one k (by omega) (by omega), hs.out (k + (m - (m - i))) (by omega) (by omega)]
  · rw [h.one k (by omega) (by omega), hs.one (k - (m + (j - i) - m)) (by omega) (by omega)]
    congr 1; omega
  · by_cases e : k < m - i ∨ m + j ≤ k
    · rw [h.out k e, hs.out k (by omega) (by omega)]
    · rw [h.two k (by omega) (by omega), hs.two k (by omega) (by omega)]
      congr 1; omega
theorem Rot.last {us vs zs : List Int} {m i : Nat} (h : Rot us zs (m - i) m (m + i)) (hi : i ≤ m) (hs : SwR us vs (m - i) m i) : ∀ k, nthI vs k = nthI zs k := by
  intro k
  by_cases e : k < m - i ∨ m + i ≤ k
  · rw [h.out k e, hs.out k (by omega) (by omega)]
  · by_cases e2 : k < m
    · rw [h.one k (by omega) (by omega), hs.one k (by omega) (by omega)]
    · rw [h.two k (by omega) (by omega), hs.two k (by omega) (by omega)]
      congr 1; omega

/-- e goes up from place a to place i - 1. -/
structure InsR (f : Int → Int) (zs : List Int) (a k i b : Nat) (e : Int) : Prop where
  at_ : nthI zs k = e
  ord : ∀ p q, a ≤ p → p < q → q < b → p ≠ k → q ≠ k → LX f (nthI zs p) (nthI zs q)
  lo : ∀ p, a ≤ p → p < i → p ≠ k → LX f (nthI zs p) e
  up : ∀ q, i ≤ q → q < b → LX f e (nthI zs q)
theorem InsR.step {f : Int → Int} {zs : List Int} {a k i b : Nat} {e : Int} (h : InsR f zs a k i b e) (ha : a ≤ k) (hki : k + 1 < i) (hib : i ≤ b) (hl : b ≤ zs.length) : InsR f (swapI zs k (k + 1)) a (k + 1) i b e := by
  have g : ∀ q, nthI (swapI zs k (k + 1)) q = if q = k + 1 then nthI zs k else if q = k then nthI zs (k + 1) else nthI zs q := fun q => swapI_get zs k (k + 1) q (by omega) (by omega)
  refine ⟨by rw [g, if_pos rfl]; exact h.at_, fun p q h1 h2 h3 h4 h5 => ?_, fun p h1 h2 h3 => ?_, fun q h1 h2 => ?_⟩
  · rw [g, g, if_neg h4, if_neg h5]
    by_cases e1 : p = k
    · rw [if_pos e1, if_neg (by omega)]
      exact h.ord (k + 1) q (by omega) (by omega) h3 (by omega) (by omega)
    · rw [if_neg e1]
      by_cases e2 : q = k
      · rw [if_pos e2]
        exact h.ord p (k + 1) h1 (by omega) (by omega) e1 (by omega)
      · rw [if_neg e2]
        exact h.ord p q h1 h2 h3 e1 e2
  · rw [g, if_neg h3]
    by_cases e1 : p = k
    · rw [if_pos e1]; exact h.lo (k + 1) (by omega) hki (by omega)
    · rw [if_neg e1]; exact h.lo p h1 h2 e1
  · rw [g, if_neg (by omega), if_neg (by omega)]
    exact h.up q h1 h2
theorem InsR.done {f : Int → Int} {zs : List Int} {a k i b : Nat} {e : Int} (h : InsR f zs a k i b e) (hk : k + 1 = i) : SG f zs a b := by
  intro p q h1 h2 h3
  by_cases e1 : p = k
  · subst e1; rw [h.at_]; exact h.up q (by omega) h3
  · by_cases e2 : q = k
    · subst e2; rw [h.at_]; exact h.lo p h1 (by omega) e1
    · exact h.ord p q h1 h2 h3 e1 e2

/-! ### Where two stretches part -/
section
variable {f : Int → Int} {ys zs : List Int} {a m b : Nat}
/-- Keys do not fall in a stretch in order. -/
theorem SG.le {lo hi i j : Nat} (h : SG f ys lo hi) (h1 : lo ≤ i) (h2 : i ≤ j) (h3 : j < hi) : f (nthI ys i) ≤ f (nthI ys j) := by
  rcases Nat.lt_or_ge i j with e | e
  · have := h i j h1 e h3; unfold LX at this; omega
  · obtain rfl : i = j := by omega
    exact Int.le_refl _
theorem SG.sub {lo hi lo' hi' : Nat} (h : SG f ys lo hi) (h1 : lo ≤ lo') (h2 : hi' ≤ hi) : SG f ys lo' hi' := fun i j i1 i2 i3 => h i j (by omega) i2 (by omega)
/-- What the search finds: s, of n = mid + m. -/
structure Found (f : Int → Int) (ys : List Int) (a m b mid s : Nat) : Prop where
  lo : (if m > mid then mid + m - b else a) ≤ s
  hi : s ≤ (if m > mid then mid else m)
  no : ∀ c, (if m > mid then mid + m - b else a) ≤ c → c < s → ¬ f (nthI ys (mid + m - 1 - c)) < f (nthI ys c)
  yes : ∀ c, s ≤ c → c < (if m > mid then mid else m) → f (nthI ys (mid + m - 1 - c)) < f (nthI ys c)
variable (h1 : SG f ys a m) (h2 : SG f ys m b) (h3 : SP ys a m b) {mid s : Nat} (hmid : mid = (a + b) / 2) (hF : Found f ys a m b mid s) (hR : Rot ys zs s m (mid + m - s))
include hmid hF in
theorem found_in : a ≤ s ∧ s ≤ m ∧ s ≤ mid ∧ mid ≤ mid + m - s ∧ m ≤ mid + m - s ∧ mid + m - s ≤ b := by
  have l1 := hF.lo
  have l2 := hF.hi
  by_cases hm : m > mid
  · rw [if_pos hm] at l1 l2; omega
  · rw [if_neg hm] at l1 l2; omega
include h1 h2 h3 hmid hF hR in
theorem sym_split : SG f zs a s ∧ SG f zs s mid ∧ SP zs a s mid ∧ SG f zs mid (mid + m - s) ∧ SG f zs (mid + m - s) b ∧ SP zs mid (mid + m - s) b ∧ ∀ i j, a ≤ i → i < mid → mid ≤ j → j < b → LX f (nthI zs i) (nthI zs j) := by
  obtain ⟨i1, i2, i3, i4, i5, i6⟩ := found_in hmid hF
  have zA : ∀ k, k < s → nthI zs k = nthI ys k := fun k hk => hR.out k (by omega)
  have zB : ∀ k, s ≤ k → k < mid → nthI zs k = nthI ys (k + (m - s)) := fun k k1 k2 => hR.one k k1 (by omega)
  have zC : ∀ k, mid ≤ k → k < mid + m - s → nthI zs k = nthI ys (k - (mid - s)) := fun k k1 k2 => by
    rw [hR.two k (by omega) k2]; congr 1; omega
  have zD : ∀ k, mid + m - s ≤ k → nthI zs k = nthI ys k := fun k hk => hR.out k (by omega)
  -- the first of the left part's rest is heavier than the right part's first ones
  have up : ∀ i j, m ≤ i → i < mid + m - s → s ≤ j → j < m → LX f (nthI ys i) (nthI ys j) := by
    intro i j p1 p2 p3 p4
    have hsr : s < (if m > mid then mid else m) := by
      have l2 := hF.hi
      by_cases hm : m > mid
      · rw [if_pos hm] at l2 ⊢; omega
      · rw [if_neg hm] at l2 ⊢; omega
    have hy := hF.yes s (Nat.le_refl _) hsr
    have e1 := h2.le (i := i) (j := mid + m - 1 - s) p1 (by omega) (by omega)
    have e2 := h1.le (i := s) (j := j) i1 p3 p4
    exact .inl (by omega)
  have lo : ∀ i j, a ≤ i → i < s → mid + m - s ≤ j → j < b → LX f (nthI ys i) (nthI ys j) := by
    intro i j p1 p2 p3 p4
    have hsr : (if m > mid then mid + m - b else a) < s := by
      have l1 := hF.lo
      by_cases hm : m > mid
      · rw [if_pos hm] at l1 ⊢; omega
      · rw [if_neg hm] at l1 ⊢; omega
    have hn := hF.no (s - 1) (by omega) (by omega)
    have e1 := h1.le (i := i) (j := s - 1) p1 (by omega) (by omega)
    have e2 := h2.le (i := mid + m - 1 - (s - 1)) (j := j) (by omega) (by omega) p4
    have e3 := h3 i j p1 (by omega) (by omega) p4
    unfold LX; omega
  refine ⟨fun i j p1 p2 p3 => ?_, fun i j p1 p2 p3 => ?_, fun i j p1 p2 p3 p4 => ?_, fun i j p1 p2 p3 => ?_, fun i j p1 p2 p3 => ?_, fun i j p1 p2 p3 p4 => ?_, fun i j p1 p2 p3 p4 => ?_⟩
  · rw [zA i (by omega), zA j p3]; exact h1 i j p1 p2 (by omega)
  · rw [zB i p1 (by omega), zB j (by omega) p3]; exact h2 _ _ (by omega) (by omega) (by omega)
  · rw [zA i p2, zB j p3 p4]; exact h3 _ _ p1 (by omega) (by omega) (by omega)
  · rw [zC i p1 (by omega), zC j (by omega) p3]; exact h1 _ _ (by omega) (by omega) (by omega)
  · rw [zD i p1, zD j (by omega)]; exact h2 _ _ (by omega) p2 p3
  · rw [zC i p1 p2, zD j p3]; exact h3 _ _ (by omega) (by omega) (by omega) p4
  · by_cases c1 : i < s
    · rw [zA i c1]
      by_cases c2 : j < mid + m - s
      · rw [zC j p3 c2]; exact h1 _ _ p1 (by omega) (by omega)
      · rw [zD j (by omega)]; exact lo i j p1 c1 (by omega) p4
    · rw [zB i (by omega) p2]
      by_cases c2 : j < mid + m - s
      · rw [zC j p3 c2]; exact up _ _ (by omega) (by omega) (by omega) (by omega)
      · rw [zD j (by omega)]; exact h2 _ _ (by omega) (by omega) p4
/-- Both halves in order, all of the first ahead of the second: the whole is in order. -/
theorem sym_join {us : List Int} (hL : SG f us a mid) (hRr : SG f us mid b) (r1 : ∀ i, a ≤ i → i < mid → ∃ j, a ≤ j ∧ j < mid ∧ nthI us i = nthI zs j) (r2 : ∀ i, mid ≤ i → i < b → ∃ j, mid ≤ j ∧ j < b ∧ nthI us i = nthI zs j)
    (hx : ∀ i j, a ≤ i → i < mid → mid ≤ j → j < b → LX f (nthI zs i) (nthI zs j)) : SG f us a b := by
  intro i j p1 p2 p3
  by_cases c1 : j < mid
  · exact hL i j p1 p2 c1
  · by_cases c2 : mid ≤ i
    · exact hRr i j c2 p2 p3
    · obtain ⟨i', q1, q2, e1⟩ := r1 i p1 (by omega)
      obtain ⟨j', q3, q4, e2⟩ := r2 j (by omega) p3
      rw [e1, e2]; exact hx i' j' q1 q2 q3 q4
end
end Go.Proofs.Ytahboomghjdjhaa

/-
  Plain: blocks in order, twice as long each time; a list in order is known by what it holds. No program in sight.
-/
namespace Go.Proofs.Ytahboomghjdjhaa

/-- Blocks of B ahead of a, blocks of b behind it: each in order, and of earlier ones the numbers less. -/
structure MX (f : Int → Int) (ys : List Int) (n a B b : Nat) : Prop where
  o1 : ∀ i j, i < j → j < a → j < n → i / B = j / B → LX f (nthI ys i) (nthI ys j)
  s1 : ∀ i j, i < j → j < a → j < n → i / B < j / B → nthI ys i < nthI ys j
  x : ∀ i j, i < a → a ≤ j → j < n → nthI ys i < nthI ys j
  o2 : ∀ i j, a ≤ i → i < j → j < n → i / b = j / b → LX f (nthI ys i) (nthI ys j)
  s2 : ∀ i j, a ≤ i → i < j → j < n → i / b < j / b → nthI ys i < nthI ys j
structure BL (f : Int → Int) (ys : List Int) (n b : Nat) : Prop where
  o : ∀ i j, i < j → j < n → i / b = j / b → LX f (nthI ys i) (nthI ys j)
  s : ∀ i j, i < j → j < n → i / b < j / b → nthI ys i < nthI ys j
theorem div_in {q B i : Nat} (h1 : B * q ≤ i) (h2 : i < B * q + B) : i / B = q := by
  have hB : 0 < B := by omega
  rw [Nat.div_eq_iff hB]
  constructor
  · rw [Nat.mul_comm]; exact h1
  · rw [Nat.mul_comm q B]; omega
theorem div_less {q B i : Nat} (h : i < B * q) : i / B < q := by
  have hB : 0 < B := by
    rcases Nat.eq_zero_or_pos B with h0 | h0
    · subst h0; simp at h
    · exact h0
  rw [Nat.div_lt_iff_lt_mul hB, Nat.mul_comm]; exact h
theorem div_more {q B i : Nat} (hB : 0 < B) (h : B * q ≤ i) : q ≤ i / B := by
  rw [Nat.le_div_iff_mul_le hB, Nat.mul_comm]; exact h

section
variable {f : Int → Int} {ys zs : List Int} {n a B b q c : Nat}
theorem MX.first (h : ∀ i j, i < j → j < n → nthI ys i < nthI ys j) : MX f ys n 0 B 1 :=
  ⟨fun i j _ h2 => by omega, fun i j _ h2 => by omega, fun i j h1 => by omega, fun i j _ h2 _ h4 => by rw [Nat.div_one, Nat.div_one] at h4; omega, fun i j _ h2 h3 _ => h i j h2 h3⟩
theorem MX.of (h : BL f ys n b) : MX f ys n 0 B b :=
  ⟨fun i j _ h2 => by omega, fun i j _ h2 => by omega, fun i j h1 => by omega, fun i j _ => h.o i j, fun i j _ => h.s i j⟩
theorem MX.step (h : MX f ys n a B b) (hB : 0 < B) (hb : 0 < b) (ha : a = B * q) (hc : B = b * c) (hn : a + B ≤ n) (hr : RA ys zs a (a + B)) (hs : SG f zs a (a + B)) : MX f zs n (a + B) B b := by
  have hb' : a + B = b * (c * q + c) := by rw [ha, hc, Nat.mul_add, Nat.mul_assoc]
  refine ⟨fun i j h1 h2 h3 h4 => ?_, fun i j h1 h2 h3 h4 => ?_, fun i j h1 h2 h3 => ?_, fun i j h1 h2 h3 h4 => ?_, fun i j h1 h2 h3 h4 => ?_⟩
  · by_cases e : j < a
    · rw [hr.out i (by omega), hr.out j (by omega)]; exact h.o1 i j h1 e h3 h4
    · have hj : j / B = q := div_in (by omega) (by omega)
      by_cases e2 : i < a
      · have := div_less (q := q) (B := B) (i := i) (by omega); omega
      · exact hs i j (by omega) h1 h2
  · by_cases e : j < a
    · rw [hr.out i (by omega), hr.out j (by omega)]; exact h.s1 i j h1 e h3 h4
    · have hj : j / B = q := div_in (by omega) (by omega)
      by_cases e2 : i < a
      · obtain ⟨j', j1, j2, ej⟩ := hr.mem j (by omega) h2
        rw [hr.out i (by omega), ej]; exact h.x i j' e2 j1 (by omega)
      · have hi : i / B = q := div_in (by omega) (by omega)
        omega
  · by_cases e : i < a
    · rw [hr.out i (by omega), hr.out j (by omega)]; exact h.x i j e (by omega) h3
    · obtain ⟨i', j1, j2, ei⟩ := hr.mem i (by omega) h1
      rw [ei, hr.out j (by omega)]
      have d1 := div_less (q := c * q + c) (B := b) (i := i') (by omega)
      have d2 := div_more (q := c * q + c) (B := b) (i := j) hb (by omega)
      exact h.s2 i' j j1 (by omega) h3 (by omega)
  · rw [hr.out i (by omega), hr.out j (by omega)]; exact h.o2 i j (by omega) h2 h3 h4
  · rw [hr.out i (by omega), hr.out j (by omega)]; exact h.s2 i j (by omega) h2 h3 h4
theorem MX.last (h : MX f ys n a B b) (ha : a = B * q) (hn : n ≤ a + B) (hr : RA ys zs a n) (hs : SG f zs a n) : BL f zs n B := by
  refine ⟨fun i j h1 h2 h4 => ?_, fun i j h1 h2 h4 => ?_⟩
  · by_cases e : j < a
    · rw [hr.out i (by omega), hr.out j (by omega)]; exact h.o1 i j h1 e h2 h4
    · have hj : j / B = q := div_in (by omega) (by omega)
      by_cases e2 : i < a
      · have := div_less (q := q) (B := B) (i := i) (by omega); omega
      · exact hs i j (by omega) h1 h2
  · by_cases e : j < a
    · rw [hr.out i (by omega), hr.out j (by omega)]; exact h.s1 i j h1 e h2 h4
    · have hj : j / B = q := div_in (by omega) (by omega)
      by_cases e2 : i < a
      · obtain ⟨j', j1, j2, ej⟩ := hr.mem j (by omega) h2
        rw [hr.out i (by omega), ej]; exact h.x i j' e2 j1 (by omega)
      · have hi : i / B = q := div_in (by omega) (by omega)
        omega
/-- A block of b stands in order; two of them, the numbers of the first less. -/
theorem MX.block (h : MX f ys n a B b) (hb : b * c = a) (hn : a + b ≤ n) : SG f ys a (a + b) := fun i j h1 h2 h3 => by
  have e1 : i / b = c := div_in (by omega) (by omega)
  have e2 : j / b = c := div_in (by omega) (by omega)
  exact h.o2 i j h1 h2 (by omega) (by omega)
theorem MX.second (h : MX f ys n a B b) (hb : b * c = a) {e : Nat} (hn : e ≤ n) (he : e ≤ a + b + b) : SG f ys (a + b) e := fun i j h1 h2 h3 => by
  have e0 : b * (c + 1) = a + b := by rw [Nat.mul_add, hb, Nat.mul_one]
  have e1 : i / b = c + 1 := div_in (by omega) (by omega)
  have e2 : j / b = c + 1 := div_in (by omega) (by omega)
  exact h.o2 i j (by omega) h2 (by omega) (by omega)
theorem MX.apart (h : MX f ys n a B b) (hb0 : 0 < b) (hb : b * c = a) {e : Nat} (hn : e ≤ n) : SP ys a (a + b) e := fun i j h1 h2 h3 h4 => by
  have e0 : b * (c + 1) = a + b := by rw [Nat.mul_add, hb, Nat.mul_one]
  have e1 : i / b = c := div_in (by omega) (by omega)
  have e2 := div_more (q := c + 1) (B := b) (i := j) hb0 (by omega)
  exact h.s2 i j h1 (by omega) (by omega) (by omega)
/-- What is left is one block: it is in order. -/
theorem MX.rest (h : MX f ys n a B b) (hb : b * c = a) (hn : n ≤ a + b) : SG f ys a n := fun i j h1 h2 h3 => by
  have e1 : i / b = c := div_in (by omega) (by omega)
  have e2 : j / b = c := div_in (by omega) (by omega)
  exact h.o2 i j h1 h2 h3 (by omega)
theorem BL.all (h : BL f ys n b) (hn : n ≤ b) : SG f ys 0 n := fun i j _ h2 h3 => h.o i j h2 h3 (by rw [Nat.div_eq_of_lt (by omega), Nat.div_eq_of_lt (by omega)])
end

/-! ### Lists in order -/
def Asc (f : Int → Int) (ys : List Int) : Prop := ys.Pairwise (LX f)
theorem Asc.of_SG {f : Int → Int} {ys : List Int} (h : SG f ys 0 ys.length) : Asc f ys := by
  unfold Asc
  rw [List.pairwise_iff_getElem]
  intro i j hi hj hij
  have := h i j (by omega) hij hj
  rwa [nthI_el hi, nthI_el hj] at this
/-- In order, and the same ones: the same list. -/
theorem Asc.same {f : Int → Int} : ∀ {ys zs : List Int}, Asc f ys → Asc f zs → List.Perm ys zs → ys = zs
  | [], zs, _, _, h => (h.nil_eq)
  | y :: ys, [], _, _, h => by have := h.length_eq; simp at this
  | y :: ys, z :: zs, h1, h2, h => by
    have a1 := List.pairwise_cons.1 h1
    have a2 := List.pairwise_cons.1 h2
    have e : y = z := by
      have m1 : y ∈ z :: zs := h.subset (List.mem_cons_self)
      have m2 : z ∈ y :: ys := h.symm.subset (List.mem_cons_self)
      rw [List.mem_cons] at m1 m2
      rcases m1 with m1 | m1
      · exact m1
      · rcases m2 with m2 | m2
        · exact m2.symm
        · exact absurd ((a1.1 z m2).trans (a2.1 y m1)) LX.irr
    subst e
    rw [Asc.same (f := f) a1.2 a2.2 ((List.perm_cons y).1 h)]
end Go.Proofs.Ytahboomghjdjhaa

/-
  Plain: the runs of lengths make these lengths; runs make as many as they tell. No program in sight.
-/
namespace Go.Proofs.Ytahboomghjdjhaa

theorem take_more (l : List Nat) (a : Nat) (x : Nat) : ∀ k, a + k ≤ l.length → (∀ j, j < k → nth l (a + j) = x) → l.take (a + k) = l.take a ++ List.replicate k x
  | 0, _, _ => by simp
  | k + 1, h, hx => by
    have e : nth l (a + k) = l[a + k] := by simp [nth, List.getElem?_eq_getElem (show a + k < l.length by omega)]
    rw [← Nat.add_assoc, List.take_succ_eq_append_getElem (by omega), take_more l a x k (by omega) (fun j hj => hx j (by omega)), List.replicate_succ', List.append_assoc, ← e, hx k (by omega)]

theorem sq_ok {l : List Nat} (h : sqE l = 0) : l.length ≤ 320 ∧ ∀ i, nth l i ≤ 15 := by
  unfold sqE at h
  by_cases h1 : 320 < l.length
  · rw [if_pos h1] at h; omega
  · rw [if_neg h1] at h
    by_cases h2 : l.all (fun x => decide (x ≤ 15)) = true
    · refine ⟨by omega, fun i => ?_⟩
      unfold nth
      rcases Nat.lt_or_ge i l.length with hi | hi
      · rw [List.getElem?_eq_getElem hi]
        exact of_decide_eq_true (List.all_eq_true.1 h2 _ (List.getElem_mem hi))
      · rw [List.getElem?_eq_none hi]; exact Nat.zero_le _
    · rw [if_neg h2] at h; omega

theorem step_put {l : List Nat} {a : Nat} (ha : a < l.length) (h15 : ∀ i, nth l i ≤ 15) : runOk (stepOf l a).1 = true ∧ ¬ ((stepOf l a).1.1 = 16 ∧ l.take a = []) ∧ timesOf (stepOf l a).1 = (stepOf l a).2 ∧ whatOf (stepOf l a).1 (l.take a) = nth l a ∧ (stepOf l a).2 ≤ sameN l a := by
  have hx := h15 a
  have hlen : (l.take a).length = a := by rw [List.length_take]; omega
  unfold stepOf
  have hsp := sameN_pos ha
  by_cases h1 : nth l a = 0 ∧ 11 ≤ sameN l a
  · rw [if_pos h1]
    refine ⟨?_, ?_, ?_, ?_, by dsimp only; omega⟩
    · unfold runOk symBits; simp; omega
    · simp
    · unfold timesOf; simp; omega
    · unfold whatOf; simp [h1.1]
  · rw [if_neg h1]
    by_cases h2 : nth l a = 0 ∧ 3 ≤ sameN l a
    · rw [if_pos h2]
      have : sameN l a < 11 := by
        rcases Nat.lt_or_ge (sameN l a) 11 with h | h
        · exact h
        · exact absurd ⟨h2.1, h⟩ h1
      refine ⟨?_, ?_, ?_, ?_, by dsimp only; omega⟩
      · unfold runOk symBits; simp; omega
      · simp
      · unfold timesOf; simp; omega
      · unfold whatOf; simp [h2.1]
    · rw [if_neg h2]
      by_cases h3 : nth l a ≠ 0 ∧ 0 < a ∧ nth l (a - 1) = nth l a ∧ 3 ≤ sameN l a
      · rw [if_pos h3]
        refine ⟨?_, ?_, ?_, ?_, by dsimp only; omega⟩
        · unfold runOk symBits; simp; omega
        · intro h
          have := congrArg List.length h.2
          rw [hlen] at this
          have := h3.2.1
          simp at *
          omega
        · unfold timesOf; simp; omega
        · unfold whatOf
          simp only [if_true]
          rw [hlen]
          have : nth (l.take a) (a - 1) = nth l (a - 1) := by
            unfold nth
            rw [List.getElem?_take, if_pos (by have := h3.2.1; omega)]
          rw [this, h3.2.2.1]
      · rw [if_neg h3]
        refine ⟨?_, ?_, ?_, ?_, hsp⟩
        · unfold runOk symBits; simp only [decide_eq_true_eq]
          refine ⟨by omega, by omega, by omega, ?_⟩
          rw [if_neg (by omega), if_neg (by omega), if_neg (by omega)]; decide
        · intro h; have := h.1; dsimp only at this; omega
        · unfold timesOf; rw [if_neg (by dsimp only; omega), if_neg (by dsimp only; omega)]
        · unfold whatOf; rw [if_neg (by dsimp only; omega), if_neg (by dsimp only; omega)]; simp

theorem strF_back (l : List Nat) (h15 : ∀ i, nth l i ≤ 15) : ∀ (k a : Nat), l.length - a ≤ k → a ≤ l.length → strF l.length (runsFrom l a) (l.take a) = (l, 0)
  | 0, a, h, ha => by
    obtain rfl : a = l.length := by omega
    rw [runsFrom_end (Nat.le_refl _)]
    unfold strF
    rw [List.take_length, if_pos rfl]
  | k + 1, a, h, ha => by
    rcases Nat.lt_or_ge a l.length with hlt | hge
    · rw [runsFrom_step hlt]
      obtain ⟨h1, h2, h3, h4, h5⟩ := step_put hlt h15
      have hpos := stepOf_pos l a
      have hle := stepOf_le l a hlt
      have hlen : (l.take a).length = a := by rw [List.length_take]; omega
      have hp : runsputE l.length (stepOf l a).1 (l.take a) = 0 := by
        unfold runsputE
        rw [if_pos h1, if_neg]
        intro h
        rcases h with h | h
        · exact h2 h
        · rw [h3, hlen] at h; omega
      unfold strF
      rw [if_pos hp]
      have hr : putR (stepOf l a).1 (l.take a) = l.take (a + (stepOf l a).2) := by
        unfold putR
        rw [h3, h4]
        exact (take_more l a (nth l a) _ hle (fun j hj => (sameN_in (by omega)).2)).symm
      rw [hr]
      exact strF_back l h15 k _ (by omega) hle
    · obtain rfl : a = l.length := by omega
      rw [runsFrom_end (Nat.le_refl _)]
      unfold strF
      rw [List.take_length, if_pos rfl]

/-- The runs of lengths make these lengths. -/
theorem sq_back {l : List Nat} (h : sqE l = 0) : strL (sq l) (l.length : Int) = (l, 0) := by
  obtain ⟨h1, h2⟩ := sq_ok h
  unfold strL
  rw [if_neg (by omega)]
  unfold sq
  rw [if_pos h, Int.toNat_natCast]
  have := strF_back l h2 l.length 0 (by omega) (by omega)
  simpa using this

/-- How many lengths runs tell together. -/
def sumR (l : List (Int × Int)) : Nat := (l.map timesOf).sum
theorem sumT_snoc (l : List (Int × Int)) (r : Int × Int) : sumR (l ++ [r]) = sumR l + timesOf r := by simp [sumR]

theorem strF_sum (n : Nat) : ∀ (l : List (Int × Int)) (out x : List Nat), (∀ y ∈ out, y ≤ 15) → strF n l out = (x, 0) → x.length = n ∧ n = out.length + sumR l ∧ (∀ r ∈ l, runOk r = true) ∧ ∀ y ∈ x, y ≤ 15
  | [], out, x, h15, h => by
    unfold strF at h
    split at h
    · rename_i hn
      injection h with h1 h2
      subst h1
      exact ⟨hn, by simp [sumR, hn], by simp, h15⟩
    · injection h with h1 h2; omega
  | r :: l, out, x, h15, h => by
    unfold strF at h
    split at h
    · rename_i h0
      obtain ⟨h3, h4, h5⟩ := runsputE_zero h0
      have hb := runOk_bounds h3
      have h15' : ∀ y ∈ putR r out, y ≤ 15 := by
        intro y hy
        rcases List.mem_append.1 hy with hy | hy
        · exact h15 y hy
        · rw [List.eq_of_mem_replicate hy]
          unfold whatOf
          split
          · unfold nth
            rcases Nat.lt_or_ge (out.length - 1) out.length with hi | hi
            · rw [List.getElem?_eq_getElem hi]; exact h15 _ (List.getElem_mem hi)
            · rw [List.getElem?_eq_none hi]; exact Nat.zero_le _
          · split
            · exact Nat.zero_le _
            · omega
      obtain ⟨a1, a2, a3, a4⟩ := strF_sum n l _ x h15' h
      rw [putR_length] at a2
      refine ⟨a1, ?_, ?_, a4⟩
      · simp only [sumR, List.map_cons, List.sum_cons] at *; omega
      · intro q hq
        rcases List.mem_cons.1 hq with rfl | hq
        · exact h3
        · exact a3 q hq
    · rename_i h0
      injection h with h1 h2
      exact absurd h2 h0

theorem strL_sum {l : List (Int × Int)} {n : Int} {x : List Nat} (h : strL l n = (x, 0)) : 0 ≤ n ∧ n ≤ 320 ∧ (x.length : Int) = n ∧ n = (sumR l : Int) ∧ (∀ r ∈ l, runOk r = true) ∧ ∀ y ∈ x, y ≤ 15 := by
  unfold strL at h
  by_cases hn : n < 0 ∨ 320 < n
  · rw [if_pos hn] at h; injection h with h1 h2; omega
  · rw [if_neg hn] at h
    obtain ⟨a1, a2, a3, a4⟩ := strF_sum n.toNat l [] x (by simp) h
    simp only [List.length_nil, Nat.zero_add] at a2
    exact ⟨by omega, by omega, by omega, by omega, a3, a4⟩
theorem strF_no (m : Nat) : ∀ (l : List (Int × Int)) (out : List Nat), (strF m l out).2 ≠ 0 → (strF m l out).1 = [] := by
  intro l
  induction l with
  | nil => intro out h; unfold strF at h ⊢; split at h <;> simp_all
  | cons r l ih => intro out h; unfold strF at h ⊢; split at h <;> simp_all
theorem strL_no {l : List (Int × Int)} {n : Int} (h : (strL l n).2 ≠ 0) : (strL l n).1 = [] := by
  unfold strL at h ⊢
  by_cases hn : n < 0 ∨ 320 < n
  · rw [if_pos hn]
  · rw [if_neg hn] at h ⊢
    exact strF_no _ l [] h
/-- With another number they are refused. -/
theorem strL_other {l : List (Int × Int)} {n m : Int} {x : List Nat} (h : strL l n = (x, 0)) (hne : m ≠ n) : (strL l m).2 ≠ 0 := by
  intro h0
  obtain ⟨_, _, _, h1, _⟩ := strL_sum h
  obtain ⟨_, _, _, h2, _⟩ := strL_sum (show strL l m = ((strL l m).1, 0) by rw [← h0])
  omega
end Go.Proofs.Ytahboomghjdjhaa

/-
  append onto a full slice that is not the call's own: always new memory, or nothing appended. No program in sight.
-/
namespace Go.Proofs.Ytahboomghjdjhaa
open Go.RowKit

section
variable {P : Program} (w : World)
theorem src_any {size : Nat} {tx e' : TypeId} (hk : P.underlying tx = some (.slice e')) (B : Option Addr) (m d : Nat) (news : List Value) (hlen : news.length = m * size) (hr : Sl w B news) (hB : B = none → m = 0) (h1 : ∀ u ∈ news, u.oneCell' = true) :
    Src P size tx (.slice B m d) m news w := by
  rcases B with _ | ad
  · have hm := hB rfl
    subst hm
    have hn : news = [] := List.eq_nil_of_length_eq_zero (by simpa using hlen)
    subst hn
    exact Src.ofNil w hk d
  · refine Src.ofSlice w hk ad m d news hlen (fun j u hu => ?_) h1
    have hj : j < news.length := by
      rcases Nat.lt_or_ge j news.length with h | h
      · exact h
      · rw [List.getElem?_eq_none h] at hu; cases hu
    obtain ⟨b, off, e1, hc⟩ := hr (by omega)
    injection e1 with e1
    subst e1
    rw [add_plain]
    exact hc j u hu

theorem run_full (t ty e : TypeId) (i : TypeInfo) (z : Value) (size bytes : Nat) (ht : P.underlying t = some (.slice e)) (hi : P.info? e = some i) (hz : i.zero = some z)
    (hsize : i.size = size) (hby : i.bytes = bytes) (hzs : z.cells.size = size) (hsz : 0 < size)
    (A : Option Addr) (n : Nat) (xs : List Value) (hlo : xs.length = n * size) (hs : Sl w A xs) (hA : A = none → n = 0)
    (B : Option Addr) (m d : Nat) (news : List Value) (hlen : news.length = m * size) (hr : Sl w B news) (hB : B = none → m = 0) (h1 : ∀ u ∈ news, u.oneCell' = true)
    (h63 : n + m ≤ maxLen) (hbytes : (n + m) * bytes ≤ 140737488355328) :
    ∃ A' c' w', (Builtin.append_ #[t, t] ty #[.slice A n n, .slice B m d]).run P w = .ok (.slice A' (n + m) c') w' ∧ Sl w' A' (xs ++ news) ∧ (A' = none → n + m = 0) ∧ n + m ≤ c' ∧ w.grownBy w' none := by
  rcases Nat.eq_zero_or_pos m with rfl | hm
  · have hn : news = [] := List.eq_nil_of_length_eq_zero (by simpa using hlen)
    subst hn
    have hsrc := src_any (P := P) w (size := size) ht B 0 d [] (by simp) hr hB (by simp)
    subst hsize
    exact ⟨A, n, w, Go.run_append_nothing w t t ty e i ht hi A n n (Nat.le_refl _) _ hsrc, by simpa using hs, hA, Nat.le_refl _, World.grownBy.refl w _⟩
  · rcases B with _ | ad
    · have := hB rfl; omega
    have hcells : ∀ j u, news[j]? = some u → w.cell? (ad.add j) = some u := by
      intro j u hu
      have hj : j < news.length := by
        rcases Nat.lt_or_ge j news.length with h | h
        · exact h
        · rw [List.getElem?_eq_none h] at hu; cases hu
      obtain ⟨b, off, e1, hc⟩ := hr (by omega)
      injection e1 with e1
      subst e1
      rw [add_plain]
      exact hc j u hu
    rcases A with _ | a
    · have := hA rfl
      subst this
      have hx : xs = [] := List.eq_nil_of_length_eq_zero (by simpa using hlo)
      subst hx
      obtain ⟨v', w', hrun, r1, r2, _⟩ := run_append_own (P := P) w w.heap.size t ty e i z size bytes ht hi hz hsize hby hzs hsz (.slice none 0 0) 0 [] (World.ownsRow_nil w _ e size) ad m d news hlen hcells h1 h63 hbytes (Nat.le_refl _)
      obtain ⟨A', c', rfl⟩ := own_slice r1
      refine ⟨A', c', w', hrun, Sl.of_own r1, ?_, own_cap r1, r2⟩
      rintro rfl
      rcases r1.2 with ⟨_, h2⟩ | ⟨g, cap, cur, hv, _⟩
      · exact h2
      · cases hv
    · obtain ⟨v', w', hrun, r1, r2⟩ := run_append_arg_grows (P := P) w t ty e i z size bytes ht hi hz hsize hby hzs hsz a n n xs hlo (fun j u hu => by
        have hj : j < xs.length := by
          rcases Nat.lt_or_ge j xs.length with h | h
          · exact h
          · rw [List.getElem?_eq_none h] at hu; cases hu
        obtain ⟨b, off, e1, hc⟩ := hs (by omega)
        injection e1 with e1
        subst e1
        rw [add_plain]
        exact hc j u hu) ad m d news hlen hcells (by omega) h63 hbytes
      obtain ⟨A', c', rfl⟩ := own_slice r1
      refine ⟨A', c', w', hrun, Sl.of_own r1, ?_, own_cap r1, r2⟩
      rintro rfl
      rcases r1.2 with ⟨_, h2⟩ | ⟨g, cap, cur, hv, _⟩
      · exact h2
      · cases hv

theorem wp_full {o : Oper} {a : Act} {K : Act → World → Prop} {Q : Exit → Act → World → Prop} (s x : Operand) (t : TypeId)
    (ho : o.op = .call { callee := .builtin .append, args := #[s, x], argTypes := #[t, t] })
    (e : TypeId) (i : TypeInfo) (z : Value) (size bytes : Nat) (ht : P.underlying t = some (.slice e)) (hi : P.info? e = some i) (hz : i.zero = some z)
    (hsize : i.size = size) (hby : i.bytes = bytes) (hzs : z.cells.size = size) (hsz : 0 < size)
    (A : Option Addr) (n : Nat) (xs : List Value) (hse : a.eval s = .slice A n n) (hlo : xs.length = n * size) (hs : Sl w A xs) (hA : A = none → n = 0)
    (B : Option Addr) (m d : Nat) (news : List Value) (hx : a.eval x = .slice B m d) (hlen : news.length = m * size) (hr : Sl w B news) (hB : B = none → m = 0) (h1 : ∀ u ∈ news, u.oneCell' = true)
    (k : Nat) (hk : k = n + m) (ys : List Value) (hys : ys = xs ++ news)
    (h63 : n + m ≤ maxLen) (hbytes : (n + m) * bytes ≤ 140737488355328)
    (h : ∀ A' c' w', Sl w' A' ys → (A' = none → k = 0) → k ≤ c' → w.grownBy w' none → K (a.put o.dst (.slice A' k c')) w') : o.wp P a w K Q := by
  obtain ⟨A', c', w', hrun, h2, h3, h5, h4⟩ := run_full (P := P) w t o.type e i z size bytes ht hi hz hsize hby hzs hsz A n xs hlo hs hA B m d news hlen hr hB h1 h63 hbytes
  subst hk hys
  unfold Oper.wp execOp
  simp only [ho, resolve, invoke, builtin, Sem.run_bind, Sem.run_pure, Result.andThen_ok, List.map_toArray, List.map_cons, List.map_nil, hse, hx, hrun]
  exact h A' c' w' h2 h3 h5 h4

theorem step_full {ops : Array Oper} {o : Oper} {a : Act} {K : Act → World → Prop} {Q : Exit → Act → World → Prop} {E : Prop} (hgd : o.guard = none) (s x : Operand) (t : TypeId)
    (ho : o.op = .call { callee := .builtin .append, args := #[s, x], argTypes := #[t, t] })
    (e : TypeId) (i : TypeInfo) (z : Value) (size bytes : Nat) (ht : P.underlying t = some (.slice e)) (hi : P.info? e = some i) (hz : i.zero = some z)
    (hsize : i.size = size) (hby : i.bytes = bytes) (hzs : z.cells.size = size) (hsz : 0 < size)
    (A : Option Addr) (n : Nat) (xs : List Value) (hse : a.eval s = .slice A n n) (hlo : xs.length = n * size) (hs : Sl w A xs) (hA : A = none → n = 0)
    (B : Option Addr) (m d : Nat) (news : List Value) (hx : a.eval x = .slice B m d) (hlen : news.length = m * size) (hr : Sl w B news) (hB : B = none → m = 0) (h1 : ∀ u ∈ news, u.oneCell' = true)
    (k : Nat) (hk : k = n + m) (ys : List Value) (hys : ys = xs ++ news)
    (h63 : n + m ≤ maxLen) (hbytes : (n + m) * bytes ≤ 140737488355328)
    (h : ∀ A' c' w', Sl w' A' ys → (A' = none → k = 0) → k ≤ c' → w.grownBy w' none → K (a.put o.dst (.slice A' k c')) w') :
    if Region.wanted o (yielded ops a.tmps) = true then Oper.wp P o a w K Q else E := by
  have hw : Region.wanted o (yielded ops a.tmps) = true := by simp [Region.wanted, hgd]
  rw [if_pos hw]
  exact wp_full w s x t ho e i z size bytes ht hi hz hsize hby hzs hsz A n xs hse hlo hs hA B m d news hx hlen hr hB h1 k hk ys hys h63 hbytes h
end
end Go.Proofs.Ytahboomghjdjhaa
