/-
  Frames: slices that may be read, slices under way, transport over calls and loops. No program in sight.
-/
import Derived.Test.YtolcekbldpdmpaaMem
import Derived.Deep.Upon
namespace Go.Proofs.Ytolcekbldpdmpaa
open Go.RowKit

/-- An element type's facts. -/
structure Elem (P : Program) (t e : TypeId) (size bytes : Nat) : Prop where
  und : P.underlying t = some (.slice e)
  inf : ∃ i z, P.info? e = some i ∧ i.zero = some z ∧ i.size = size ∧ i.bytes = bytes ∧ z.cells.size = size
  pos : 0 < size

theorem Elem.mk' {P : Program} {t e : TypeId} {size bytes : Nat} {z : Value} (hu : P.underlying t = some (.slice e)) (hi : (P.info? e).map (fun i => (i.zero, i.size, i.bytes)) = some (some z, size, bytes)) (hz : z.cells.size = size) (hp : 0 < size) : Elem P t e size bytes := by
  obtain ⟨i0, h0, h1, h2, h3⟩ := info_parts hi
  exact ⟨hu, ⟨i0, z, h0, h1, h2, h3, hz⟩, hp⟩

/-- A slice that may be read. -/
def Rd (w : World) (A : Option Addr) (xs : List Value) : Prop := Sl w A xs ∧ (A = none → xs = [])

section
variable {w w' : World} {A : Option Addr} {xs : List Value}
theorem Rd.nil_ : Rd w none [] := ⟨Sl.nil_, fun _ => rfl⟩
theorem Rd.below (h : Rd w A xs) (hb : Below w.heap.size w w') : Rd w' A xs := ⟨h.1.below hb, h.2⟩
theorem Rd.alloc (h : Rd w A xs) (o : Obj) : Rd (w.alloc o) A xs := ⟨h.1.alloc o, h.2⟩
theorem Rd.alloc2 (h : Rd w A xs) (o o' : Obj) : Rd ((w.alloc o).alloc o') A xs := (h.alloc o).alloc o'
theorem Rd.drew (h : Rd w A xs) : Rd w.drew A xs := h
theorem Rd.drewN (h : Rd w A xs) (n : Nat) : Rd (w.drewN n) A xs := h
theorem Rd.drop (h : Rd w A xs) (k : Nat) : Rd w (A.map fun x => x.add k) (xs.drop k) := by
  refine ⟨fun hn => ?_, fun e => ?_⟩
  · rw [List.length_drop] at hn
    obtain ⟨b, off, e, hc⟩ := h.1 (by omega)
    subst e
    refine ⟨b, off + k, by simp [add_plain], fun i u hu => ?_⟩
    rw [List.getElem?_drop] at hu
    rw [Nat.add_assoc]
    exact hc _ _ hu
  · have : A = none := by simpa using e
    rw [h.2 this]; simp
theorem Rd.take (h : Rd w A xs) (k : Nat) : Rd w A (xs.take k) := by
  refine ⟨fun hn => ?_, fun e => by rw [h.2 e]; simp⟩
  rw [List.length_take] at hn
  obtain ⟨b, off, e, hc⟩ := h.1 (by omega)
  refine ⟨b, off, e, fun i u hu => hc i u ?_⟩
  rw [List.getElem?_take] at hu
  split at hu
  · exact hu
  · cases hu
/-- The place of a slice that has something, and its cells. -/
theorem Rd.at_ (h : Rd w A xs) (hn : 0 < xs.length) : ∃ b off, A = some ⟨b, off, none⟩ ∧ ∀ i u, xs[i]? = some u → w.cell? ⟨b, off + i, none⟩ = some u := h.1 hn
theorem Rd.new (w : World) (cs : Array Value) (t : TypeId) (xs : List Value) (h : cs.toList = xs) : Rd (w.alloc (.cells cs t)) (some ⟨w.heap.size, 0, none⟩) xs := ⟨Sl.new w cs t xs h, fun e => by cases e⟩
theorem Rd.new' (w : World) (cs : Array Value) (t : TypeId) (xs : List Value) (g : Nat) (hg : g = w.heap.size) (h : cs.toList = xs) : Rd (w.alloc (.cells cs t)) (some ⟨g, 0, none⟩) xs := by
  subst hg; exact Rd.new w cs t xs h
end

/-- A slice under way: of the call's own (from W on), and nothing that was there at W has turned. -/
def Builds (W w : World) (e : TypeId) (size : Nat) (A : Option Addr) (n c : Nat) (xs : List Value) : Prop := Below W.heap.size W w ∧ w.ownsRow W.heap.size e size (.slice A n c) n xs

section
variable {W w w' : World} {e : TypeId} {size n c : Nat} {A : Option Addr} {xs : List Value}
theorem Builds.nil_ (W : World) (e : TypeId) (size : Nat) : Builds W W e size none 0 0 [] := ⟨Below.refl _ _, World.ownsRow_nil _ _ _ _⟩
theorem Builds.nil' {W w : World} (hb : Below W.heap.size W w) (e : TypeId) (size : Nat) : Builds W w e size none 0 0 [] := ⟨hb, World.ownsRow_nil _ _ _ _⟩
theorem Builds.size_le (h : Builds W w e size A n c xs) : W.heap.size ≤ w.heap.size := h.1.size
theorem Builds.len (h : Builds W w e size A n c xs) : xs.length = n * size := h.2.1
theorem Builds.drew (h : Builds W w e size A n c xs) : Builds W w.drew e size A n c xs := ⟨h.1.drew, h.2⟩
theorem below_drewN' {B : Nat} {a w : World} (h : Below B a w) (n : Nat) : Below B a (w.drewN n) := ⟨h.os, h.tape, h.output, h.size, h.block⟩
theorem Builds.drewN (h : Builds W w e size A n c xs) (k : Nat) : Builds W (w.drewN k) e size A n c xs := ⟨below_drewN' h.1 k, h.2⟩
theorem Builds.alloc (h : Builds W w e size A n c xs) (o : Obj) : Builds W (w.alloc o) e size A n c xs := ⟨h.1.alloc h.1.size o, h.2.alloc o⟩
theorem own_below {base : Nat} {v : Value} (h : w.ownsRow base e size v n xs) (hb : Below w.heap.size w w') : w'.ownsRow base e size v n xs := by
  refine ⟨h.1, ?_⟩
  rcases h.2 with h2 | ⟨g, cap, cur, hv, hg, hh, r⟩
  · exact .inl h2
  · refine .inr ⟨g, cap, cur, hv, hg, ?_, r⟩
    rw [hb.block g ?_]
    · exact hh
    · rcases Nat.lt_or_ge g w.heap.size with hlt | hge
      · exact hlt
      · rw [Array.getElem?_eq_none hge] at hh; cases hh
theorem Builds.below (h : Builds W w e size A n c xs) (hb : Below w.heap.size w w') : Builds W w' e size A n c xs := ⟨h.1.trans (hb.mono h.1.size), own_below h.2 hb⟩
theorem own_rd {base : Nat} (h : w.ownsRow base e size (.slice A n c) n xs) : Rd w A xs := by
  refine ⟨fun hn => ?_, ?_⟩
  · rcases h.2 with ⟨h1, h2⟩ | ⟨g, cap, cur, hv, hb, hh, hc1, hc2, hs, ht⟩
    · have := h.1; subst h2; simp at this; subst this; simp at hn
    · have hA : A = some ⟨g, 0, none⟩ := by injection hv
      subst hA
      refine ⟨g, 0, rfl, fun i u hu => ?_⟩
      have := h.cells (g := g) rfl i u hu
      rwa [add_plain] at this
  · rintro rfl
    rcases h.2 with ⟨_, h2⟩ | ⟨g, cap, cur, hv, _⟩
    · have := h.1; subst h2; exact List.eq_nil_of_length_eq_zero (by simpa using this)
    · cases hv
theorem Builds.rd (h : Builds W w e size A n c xs) : Rd w A xs := own_rd h.2
theorem Builds.cap (h : Builds W w e size A n c xs) : n ≤ c := own_cap h.2
theorem Builds.at_ (h : Builds W w e size A n c xs) (hn : 0 < n) : ∃ g, A = some ⟨g, 0, none⟩ ∧ W.heap.size ≤ g ∧ g < w.heap.size := by
  obtain ⟨g, hg, hb⟩ := own_at h.2 hn
  exact ⟨g, hg, hb, (h.2.lt g (by rw [hg]; rfl)).2⟩
theorem Builds.cell {g : Nat} (h : Builds W w e size (some ⟨g, 0, none⟩) n c xs) (i : Nat) (hi : i < n * size) : w.cell? ⟨g, i, none⟩ = xs[i]? := by
  have hl : i < xs.length := by rw [h.len]; exact hi
  have := h.2.cells (g := g) rfl i xs[i] (List.getElem?_eq_getElem hl)
  rw [add_plain, Nat.zero_add] at this
  rw [this, List.getElem?_eq_getElem hl]
theorem Builds.free {g : Nat} (h : Builds W w e size (some ⟨g, 0, none⟩) n c xs) (i : Nat) : w.frozen? ⟨g, i, none⟩ = false := by
  rcases h.2.2 with ⟨h1, _⟩ | ⟨g', cap, cur, hv, _, hh, _⟩
  · cases h1
  · injection hv with hv
    injection hv with hv
    injection hv with hv
    subst hv
    simp [World.frozen?, hh]
/-- A store into a slice under way. -/
theorem Builds.set {g : Nat} (h : Builds W w e size (some ⟨g, 0, none⟩) n c xs) (i : Nat) (_ : i < n * size) (u : Value) : Builds W (w.setCell ⟨g, i, none⟩ u) e size (some ⟨g, 0, none⟩) n c (xs.set i u) := by
  have hg : W.heap.size ≤ g := (h.2.lt g rfl).1
  refine ⟨h.1.setCell hg u, ?_⟩
  refine ⟨by rw [List.length_set]; exact h.2.1, ?_⟩
  rcases h.2.2 with ⟨h1, _⟩ | ⟨g', cap, cur, hv, hb, hh, h2, h3, h4, h5⟩
  · cases h1
  · simp only [Value.slice.injEq, Option.some.injEq, Addr.mk.injEq] at hv
    obtain ⟨⟨rfl, _⟩, _, rfl⟩ := hv
    refine .inr ⟨g, c, cur.setIfInBounds i u, rfl, hb, ?_, h2, h3, by simpa using h4, ?_⟩
    · simp [World.setCell, Array.getElem?_modify, hh]
    · rw [Array.toList_setIfInBounds, ← h5, List.take_set]
/-- The base may be taken earlier. -/
theorem Builds.rebase {W0 : World} (h : Builds W w e size A n c xs) (hb : Below W0.heap.size W0 W) : Builds W0 w e size A n c xs := ⟨hb.trans (h.1.mono hb.size), own_far_base h.2 hb.size⟩
end

theorem grown_trans' {a b c : World} {row row' : Option Nat} (h : a.grownBy b row) (k : b.grownBy c row') (hr : row' = row ∨ ∀ g, row' = some g → a.heap.size ≤ g) : a.grownBy c row :=
  ⟨k.os.trans h.os, k.tape.trans h.tape, k.output.trans h.output, Nat.le_trans h.size k.size, fun i hi hne => by
    rw [k.block i (Nat.lt_of_lt_of_le hi h.size) ?_]
    · exact h.block i hi hne
    · rcases hr with rfl | hr
      · exact hne
      · intro e; have := hr i e.symm; omega⟩

section
variable {P : Program} {w : World}
theorem run_grow {t e : TypeId} {size bytes : Nat} (E : Elem P t e size bytes) (ty : TypeId) {W : World} {A : Option Addr} {n c : Nat} {xs : List Value} (hs : Builds W w e size A n c xs)
    {B : Option Addr} {m : Nat} (d : Nat) {news : List Value} (hr : Rd w B news) (hlen : news.length = m * size) (h1 : ∀ u ∈ news, u.oneCell' = true) (h63 : n + m ≤ 1000000000) (hby : bytes ≤ 1000) :
    ∃ A' c' w', (Builtin.append_ #[t, t] ty #[.slice A n c, .slice B m d]).run P w = .ok (.slice A' (n + m) c') w' ∧ Builds W w' e size A' (n + m) c' (xs ++ news) ∧ w.grownBy w' (Value.slice A n c).ownBlock := by
  obtain ⟨i, z, hi, hz, hsize, hbytes, hzs⟩ := E.inf
  have hm : B = none → m = 0 := fun h => by
    have h0 := hr.2 h
    rw [h0] at hlen
    have := E.pos
    rcases Nat.eq_zero_or_pos m with h | h
    · exact h
    · have := Nat.mul_pos h E.pos; simp at hlen; omega
  have hb2 : (n + m) * bytes ≤ 140737488355328 := Nat.le_trans (Nat.mul_le_mul h63 hby) (by omega)
  obtain ⟨v', w', hrun, h2, h3, _⟩ := run_app (P := P) w W.heap.size t ty e i z size bytes E.und hi hz hsize hbytes hzs E.pos (.slice A n c) n xs hs.2 B m d news hlen hr.1 hm h1 (by simp only [maxLen]; omega) hb2 hs.1.size
  obtain ⟨A', c', rfl⟩ := own_slice h2
  exact ⟨A', c', w', hrun, ⟨hs.1.grown h3 hs.1.size (own_row_ge hs.2), h2⟩, h3⟩

theorem wp_grow {o : Oper} {a : Act} {K : Act → World → Prop} {Q : Exit → Act → World → Prop} {t e : TypeId} {size bytes : Nat} (E : Elem P t e size bytes) (s x : Operand)
    (ho : o.op = .call { callee := .builtin .append, args := #[s, x], argTypes := #[t, t] })
    {W : World} {A : Option Addr} {n c : Nat} {xs : List Value} (hs : a.eval s = .slice A n c) (hown : Builds W w e size A n c xs)
    {B : Option Addr} {m d : Nat} {news : List Value} (hx : a.eval x = .slice B m d) (hr : Rd w B news) (hlen : news.length = m * size) (h1 : ∀ u ∈ news, u.oneCell' = true)
    (k : Nat) (hk : n + m = k) (ys : List Value) (hys : xs ++ news = ys) (h63 : k ≤ 1000000000) (hby : bytes ≤ 1000)
    (h : ∀ A' c' w', Builds W w' e size A' k c' ys → w.grownBy w' (Value.slice A n c).ownBlock → K (a.put o.dst (.slice A' k c')) w') : o.wp P a w K Q := by
  subst hk hys
  obtain ⟨A', c', w', hrun, h2, h3⟩ := run_grow E o.type hown d hr hlen h1 h63 hby
  unfold Oper.wp execOp
  simp only [ho, resolve, invoke, builtin, Sem.run_bind, Sem.run_pure, Result.andThen_ok, List.map_toArray, List.map_cons, List.map_nil, hs, hx, hrun]
  exact h A' c' w' h2 h3

/-- 'append(s, x...)', s under way, x any slice: in a plain region. -/
theorem grow {ops : Array Oper} {rest : List Oper} {o : Oper} {a : Act} {Q : Exit → Act → World → Prop} {t e : TypeId} {size bytes : Nat} (E : Elem P t e size bytes) (hgd : o.guard = none) (s x : Operand)
    (ho : o.op = .call { callee := .builtin .append, args := #[s, x], argTypes := #[t, t] })
    {W : World} {A : Option Addr} {n c : Nat} {xs : List Value} (hs : a.eval s = .slice A n c) (hown : Builds W w e size A n c xs)
    {B : Option Addr} {m d : Nat} {news : List Value} (hx : a.eval x = .slice B m d) (hr : Rd w B news) (hlen : news.length = m * size) (h1 : ∀ u ∈ news, u.oneCell' = true)
    (k : Nat) (hk : n + m = k) (ys : List Value) (hys : xs ++ news = ys) (h63 : k ≤ 1000000000) (hby : bytes ≤ 1000)
    (h : ∀ A' c' w', Builds W w' e size A' k c' ys → w.grownBy w' (Value.slice A n c).ownBlock → wpList P ops Q rest (a.put o.dst (.slice A' k c')) w') : wpList P ops Q (o :: rest) a w :=
  wpList_plain hgd fun _ hK => wp_grow E s x ho hs hown hx hr hlen h1 k hk ys hys h63 hby fun A' c' w' h2 h3 => hK _ _ (h A' c' w' h2 h3)

/-- The same as one step of a region that draws its order. -/
theorem step_grow {ops : Array Oper} {o : Oper} {a : Act} {K : Act → World → Prop} {Q : Exit → Act → World → Prop} {D : Prop} {t e : TypeId} {size bytes : Nat} (E : Elem P t e size bytes) (hgd : o.guard = none) (s x : Operand)
    (ho : o.op = .call { callee := .builtin .append, args := #[s, x], argTypes := #[t, t] })
    {W : World} {A : Option Addr} {n c : Nat} {xs : List Value} (hs : a.eval s = .slice A n c) (hown : Builds W w e size A n c xs)
    {B : Option Addr} {m d : Nat} {news : List Value} (hx : a.eval x = .slice B m d) (hr : Rd w B news) (hlen : news.length = m * size) (h1 : ∀ u ∈ news, u.oneCell' = true)
    (k : Nat) (hk : n + m = k) (ys : List Value) (hys : xs ++ news = ys) (h63 : k ≤ 1000000000) (hby : bytes ≤ 1000)
    (h : ∀ A' c' w', Builds W w' e size A' k c' ys → w.grownBy w' (Value.slice A n c).ownBlock → K (a.put o.dst (.slice A' k c')) w') :
    if Region.wanted o (yielded ops a.tmps) = true then Oper.wp P o a w K Q else D := by
  have hw : Region.wanted o (yielded ops a.tmps) = true := by simp [Region.wanted, hgd]
  rw [if_pos hw]
  exact wp_grow E s x ho hs hown hx hr hlen h1 k hk ys hys h63 hby h
end

/-! ### make -/
/-- n zeros. -/
def zeros (z : Value) (n : Nat) : Array Value := (List.replicate n z).toArray
theorem zeros_list (z : Value) (n : Nat) : (zeros z n).toList = List.replicate n z := by simp [zeros]
theorem made_zeros (z : Value) (hz : z.cells = #[z]) (n : Nat) : madeCells z.cells n = zeros z n := by
  rw [hz]
  apply Array.ext
  · simp [madeCells, zeros]
  · intro i h1 h2
    simp [madeCells, zeros, Nat.mod_one]
theorem run_make1 {P : Program} {t e : TypeId} {bytes : Nat} (E : Elem P t e 1 bytes) {z : Value} (hz : (P.info? e).map (fun i => i.zero) = some (some z)) (hc : z.cells = #[z]) (n : Nat) (L : Int) (hL : L = (n : Int)) (hn : n ≤ 1000000000) (hby : bytes ≤ 1000) (w : World) :
    (Instr.makeSlice t (.int .i64 L) (.int .i64 L)).run P w = .ok (.slice (some ⟨w.heap.size, 0, none⟩) n n) (w.alloc (.cells (zeros z n) e)) := by
  subst hL
  obtain ⟨i, z', hi, hz', hsize, hbytes, hzs⟩ := E.inf
  have : z' = z := by rw [hi] at hz; simp only [Option.map_some, Option.some.injEq] at hz; rw [hz'] at hz; exact Option.some.inj hz
  subst this
  have h1 : (bytes : Int) * (n : Int) ≤ 281474976710656 := by
    have h1 : bytes * n ≤ 1000 * 1000000000 := Nat.mul_le_mul hby hn
    have h2 : ((bytes * n : Nat) : Int) ≤ ((1000 * 1000000000 : Nat) : Int) := by exact_mod_cast h1
    rw [Int.natCast_mul] at h2
    omega
  have h := run_make (P := P) w t e i z' E.und hi hz' .i64 .i64 (n : Int) (n : Int) (by omega) (by omega) (by rw [hbytes]; exact h1) (by omega)
  rw [Int.toNat_natCast, hsize, Nat.mul_one, made_zeros _ hc] at h
  exact h
theorem Builds.made (w : World) (e : TypeId) (z : Value) (n : Nat) (hn : n ≤ 1000000000) : Builds w (w.alloc (.cells (zeros z n) e)) e 1 (some ⟨w.heap.size, 0, none⟩) n n (List.replicate n z) :=
  ⟨(Below.refl _ _).alloc (Nat.le_refl _) _, by simp, .inr ⟨w.heap.size, n, zeros z n, rfl, Nat.le_refl _, heap_alloc_new w _, Nat.le_refl _, by simp only [maxLen]; omega, by simp [zeros], by rw [zeros_list, Nat.mul_one]; simp⟩⟩
theorem u8s_zeros (n : Nat) : List.replicate n (Value.int .u8 0) = u8s (List.replicate n 0) := by simp [u8s]

/-! ### Element kinds -/
theorem rd_u8 {w : World} {A : Option Addr} {l : List Nat} (h : Rd w A (u8s l)) (hl : ∀ x ∈ l, x < 256) : Bs w A l := ⟨h.1, hl⟩
theorem Bs.rd {w : World} {A : Option Addr} {l : List Nat} (h : Bs w A l) (hA : A = none → l = []) : Rd w A (u8s l) := ⟨h.1, fun e => by rw [hA e]; rfl⟩
theorem u8s_get (l : List Nat) (i : Nat) (hi : i < l.length) : (u8s l)[i]? = some (.int .u8 ((nth l i : Nat) : Int)) := by simp [u8s, nth, List.getElem?_eq_getElem hi]
theorem u8s_nil : u8s [] = [] := rfl
/-- Numbers. -/
def ints (l : List Int) : List Value := l.map (Value.int .i64)
theorem ints_length (l : List Int) : (ints l).length = l.length := by simp [ints]
theorem ints_append (l m : List Int) : ints (l ++ m) = ints l ++ ints m := by simp [ints]
theorem ints_one (l : List Int) : ∀ u ∈ ints l, u.oneCell' = true := by
  intro u hu
  obtain ⟨x, _, rfl⟩ := List.mem_map.1 hu
  rfl
/-- The number at a place, or 0. -/
def nthI (l : List Int) (i : Nat) : Int := l[i]?.getD 0
theorem ints_get (l : List Int) (i : Nat) (hi : i < l.length) : (ints l)[i]? = some (.int .i64 (nthI l i)) := by simp [ints, nthI, List.getElem?_eq_getElem hi]
/-- Pairs of cells. -/
def prs {α : Type} (f g : α → Value) (l : List α) : List Value := l.flatMap fun x => [f x, g x]
section
variable {α : Type} {f g : α → Value}
theorem prs_length (l : List α) : (prs f g l).length = l.length * 2 := by
  unfold prs
  induction l with
  | nil => rfl
  | cons a l ih => simp only [List.flatMap_cons, List.length_append, ih, List.length_cons, List.length_nil]; omega
theorem prs_append (l m : List α) : prs f g (l ++ m) = prs f g l ++ prs f g m := by simp [prs]
theorem prs_one (hf : ∀ x, (f x).oneCell' = true) (hg : ∀ x, (g x).oneCell' = true) (l : List α) : ∀ u ∈ prs f g l, u.oneCell' = true := by
  intro u hu
  obtain ⟨x, _, h⟩ := List.mem_flatMap.1 hu
  simp only [List.mem_cons, List.not_mem_nil, or_false] at h
  rcases h with rfl | rfl
  · exact hf x
  · exact hg x
theorem prs_get (l : List α) (i : Nat) (x : α) (h : l[i]? = some x) : (prs f g l)[2 * i]? = some (f x) ∧ (prs f g l)[2 * i + 1]? = some (g x) := by
  induction l generalizing i with
  | nil => simp at h
  | cons a l ih =>
    cases i with
    | zero => simp only [List.getElem?_cons_zero, Option.some.injEq] at h; subst h; simp [prs]
    | succ i =>
      simp only [List.getElem?_cons_succ] at h
      have := ih i h
      rw [show 2 * (i + 1) = 2 * i + 2 by omega, show 2 * i + 2 + 1 = (2 * i + 1) + 2 by omega]
      simpa [prs] using this
end
end Go.Proofs.Ytolcekbldpdmpaa
