/-
  A region that draws its order, walked once in the text's order, where its callees may make memory but leave all that stood as it stood. No program in sight.
-/
import Derived.BigQuiet
import Derived.Deep.QuietTactic
import Derived.Test.YtahboomghjdjhaaGreatG04
namespace Go.Proofs.YtahboomghjdjhaaGreat
open Go.RowKit

/-- A world behind w0 in which all that stood at w0 is as it was. -/
structure Wx (w0 : World) where
  w : World
  b : Below w0.heap.size w0 w
instance (w0 : World) : Nonempty (Wx w0) := ⟨⟨w0, Below.refl _ _⟩⟩

section
variable {P : Program}
theorem wp_region_ext {id : Nat} {Q : Exit → Act → World → Prop} {a : Act} {w : World} {l : List Oper} (hm : P.follows .mixedOrders = true) (hB : Region.lexB .any l.toArray = true)
    (h : wpQuiet P l.toArray (fun w' => ∃ n : Wx w, w' = n.w) (fun a' => ∀ w', (∃ n : Wx w, w' = n.w) → Q .normal a' w') l a) : (Code.region id l.toArray true).wp P Q a w :=
  wp_region_quiet (C := fun w' => ∃ n : Wx w, w' = n.w) hm hB ⟨⟨_, (Below.refl _ _).drew⟩, rfl⟩ (by simpa using h)

/-- A callee's contract that leaves what stood. -/
theorem Calls.ext {f : FuncId} {args : Array Value} {w0 : World} (n : Wx w0) {v : Value}
    (h : Calls P f args n.w fun e w' => e = .returned v ∧ Below n.w.heap.size n.w w') : Calls P f args n.w fun e w'' => e = .returned v ∧ ∃ m : Wx w0, w'' = m.w :=
  h.mono fun _ w' ⟨he, hb⟩ => ⟨he, ⟨w', n.b.trans (hb.mono n.b.size)⟩, rfl⟩
/-- A row loaded, in every world of the class. -/
theorem quiet_row {C : World → Prop} {o : Oper} {a : Act} {K : Act → Prop} (ty : TypeId) (x : Operand) (ho : o.op = .load ty x) {g : Nat} (hx : a.eval x = .pointer (some ⟨g, 0, none⟩)) {t : TypeId} {n : Nat} {f : Nat → Value} {d : TypeDesc}
    (hA : ∀ w, C w → Arr w g t n f) (hu : P.underlying ty = some d) (hd : (match d with | .struct _ | .array _ _ => true | _ => false) = true) (hi : (P.info? ty).map (·.size) = some n)
    (h : K (a.put o.dst (.agg (cellsOf n f)))) : o.quiet P a C K :=
  ⟨_, fun w hw => by
    unfold Oper.quietAt execOp
    simp only [ho, hx, Instr.loadAt, Instr.sureAddr, Sem.run_bind, Sem.run_pure, Result.andThen_ok, run_loadVar_row w g t ty (cellsOf n f) (0, 0) d (hA w hw) hu hd (by rw [hi, cellsOf_size])]
    exact ⟨rfl, rfl⟩, h⟩
end
end Go.Proofs.YtahboomghjdjhaaGreat

/-
  Rows in blocks: a part of a block loaded, or stored; a block stored anew. No program in sight.
-/
namespace Go.Proofs.YtahboomghjdjhaaGreat
open Go.RowKit

theorem only_self (w : World) (g : Nat) : w.grownBy w (some g) := ⟨rfl, rfl, rfl, Nat.le_refl _, fun _ _ _ => rfl⟩
theorem only_sets {a : World} {g : Nat} : ∀ (vs : List Value) (o : Nat) {w : World}, a.grownBy w (some g) → a.grownBy (w.setCells g o vs) (some g)
  | [], _, _, h => h
  | v :: vs, o, _, h => only_sets vs (o + 1) (only_set h o v)
theorem Blk.sets {g : Nat} {t : TypeId} : ∀ (vs : List Value) (o : Nat) {w : World} {cs : Array Value}, Blk w g t cs → ∃ cs', Blk (w.setCells g o vs) g t cs' ∧ cs'.size = cs.size ∧ (∀ i, cs'[i]? = if o ≤ i ∧ i < o + vs.length ∧ i < cs.size then vs[i - o]? else cs[i]?)
  | [], o, w, cs, h => ⟨cs, h, rfl, fun i => by rw [if_neg (by simp only [List.length_nil]; omega)]⟩
  | v :: vs, o, w, cs, h => by
    obtain ⟨cs', h1, h2, h3⟩ := Blk.sets vs (o + 1) (h.set_ o v)
    refine ⟨cs', h1, by rw [h2]; simp, fun i => ?_⟩
    rw [h3]
    simp only [Array.size_setIfInBounds, Array.getElem?_setIfInBounds, List.length_cons]
    by_cases hi : o = i
    · subst hi
      rw [if_neg (by omega), if_pos rfl]
      by_cases hc : o < cs.size
      · rw [if_pos hc, if_pos ⟨Nat.le_refl _, by omega, hc⟩]; simp
      · rw [if_neg hc, if_neg (by omega)]
        exact (Array.getElem?_eq_none (by omega)).symm
    · rw [if_neg hi]
      by_cases hc : o + 1 ≤ i ∧ i < o + 1 + vs.length ∧ i < cs.size
      · rw [if_pos hc, if_pos ⟨by omega, by omega, hc.2.2⟩]
        obtain ⟨k, hk⟩ : ∃ k, i - o = k + 1 := ⟨i - o - 1, by omega⟩
        rw [hk, List.getElem?_cons_succ, show i - (o + 1) = k by omega]
      · rw [if_neg hc, if_neg (fun h => hc ⟨by omega, by omega, h.2.2⟩)]
/-- A part of a block. -/
theorem Arr.part {w : World} {g n : Nat} {t : TypeId} {f : Nat → Value} (h : Arr w g t n f) (o m : Nat) (hm : o + m ≤ n) : w.rangeAt g o ((List.range m).map fun k => f (o + k)) := fun j u hu => by
  have hj : j < m := by
    rcases Nat.lt_or_ge j m with h | h
    · exact h
    · rw [List.getElem?_eq_none (by simpa using h)] at hu; cases hu
  rw [Arr.cell h (o + j) (by omega), ← hu]
  simp [hj]
theorem Arr.sets {w : World} {g n : Nat} {t : TypeId} {f : Nat → Value} (h : Arr w g t n f) (o m : Nat) (k : Nat → Value) (_ : o + m ≤ n) : Arr (w.setCells g o ((List.range m).map k)) g t n (fun i => if o ≤ i ∧ i < o + m then k (i - o) else f i) := by
  obtain ⟨cs', h1, h2, h3⟩ := Blk.sets ((List.range m).map k) o h
  have : cs' = cellsOf n (fun i => if o ≤ i ∧ i < o + m then k (i - o) else f i) := by
    apply Array.ext_getElem?
    intro i
    rw [h3, cellsOf_size]
    simp only [List.length_map, List.length_range]
    rcases Nat.lt_or_ge i n with hi | hi
    · rw [cellsOf_get n (fun i => if o ≤ i ∧ i < o + m then k (i - o) else f i) i hi]
      by_cases hc : o ≤ i ∧ i < o + m
      · rw [if_pos ⟨hc.1, hc.2, hi⟩, if_pos hc]
        simp [show i - o < m by omega]
      · rw [if_neg (fun e => hc ⟨e.1, e.2.1⟩), if_neg hc, cellsOf_get n f i hi]
    · rw [if_neg (by omega), cellsOf_out n f i hi, cellsOf_out n _ i hi]
  rw [this] at h1
  exact h1
theorem Arr.there {w : World} {g n : Nat} {t : TypeId} {f : Nat → Value} (h : Arr w g t n f) (o m : Nat) (hm : o + m ≤ n) : w.there g o m := fun j hj => by
  rw [Arr.cell h (o + j) (by omega), Arr.free h]
  exact ⟨rfl, rfl⟩

section
variable {P : Program}
/-- A part of a block loaded. -/
theorem load_sub {ops : Array Oper} {rest : List Oper} {o : Oper} {a : Act} {w : World} {Q : Exit → Act → World → Prop} (hgd : o.guard = none) (ty : TypeId) (x : Operand) (ho : o.op = .load ty x)
    {g off : Nat} (hx : a.eval x = .pointer (some ⟨g, off, none⟩)) {t : TypeId} {n : Nat} {f : Nat → Value} {d : TypeDesc} (hA : Arr w g t n f) (m : Nat) (hm : off + m ≤ n)
    (hu : P.underlying ty = some d) (hd : d.isRow = true) (hi : (P.info? ty).map (·.size) = some m) (h' : Nat → Value) (he : ∀ k, k < m → f (off + k) = h' k)
    (h : wpList P ops Q rest (a.put o.dst (.agg (cellsOf m h'))) w) : wpList P ops Q (o :: rest) a w := by
  refine wpList_load_mid hgd ty x ho g off hx _ d (Arr.part hA off m hm) hu hd (by rw [hi]; simp) ?_
  have : ((List.range m).map fun k => f (off + k)).toArray = cellsOf m h' := cellsOf_congr he
  rw [this]
  exact h
/-- A part of a block stored. -/
theorem store_sub {ops : Array Oper} {rest : List Oper} {o : Oper} {a : Act} {w : World} {Q : Exit → Act → World → Prop} (hgd : o.guard = none) (ty : TypeId) (x y : Operand) (ho : o.op = .store ty x y)
    {g off : Nat} (hx : a.eval x = .pointer (some ⟨g, off, none⟩)) {t : TypeId} {n : Nat} {f : Nat → Value} (m : Nat) {k : Nat → Value} (hy : a.eval y = .agg (cellsOf m k)) (hA : Arr w g t n f) (hm : off + m ≤ n)
    (hi : (P.info? ty).map (·.size) = some m) (h1 : ∀ i, i < m → (k i).oneCell' = true)
    (h : ∀ w', Arr w' g t n (fun i => if off ≤ i ∧ i < off + m then k (i - off) else f i) → w.grownBy w' (some g) → wpList P ops Q rest (a.put o.dst undef) w') : wpList P ops Q (o :: rest) a w := by
  refine wpList_store_mid hgd ty x y ho g off (cellsOf m k) hx hy (by rw [cellsOf_size]; exact Arr.there hA off m hm) (by rw [hi, cellsOf_size]) ?_ ?_
  · apply all_oneCell_toArray
    intro v hv
    obtain ⟨i, hi, rfl⟩ := List.mem_map.1 hv
    exact h1 i (List.mem_range.1 hi)
  · rw [cellsOf_list]
    exact h _ (Arr.sets hA off m k hm) (only_sets _ _ (only_self _ _))
end
end Go.Proofs.YtahboomghjdjhaaGreat
