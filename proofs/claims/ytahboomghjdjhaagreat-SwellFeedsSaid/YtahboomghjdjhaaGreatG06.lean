/-
  Walks: byLength's closure, byLength.
-/
import Derived.LoopIn
import Derived.LoopNIn
import Derived.Maps.AppendAt
import Derived.OwnWalkIn
import Derived.RangeFuncBound
import Derived.RangeFuncBox
import Derived.RangeFuncCalls
import Derived.RangeFuncLeaves
import Derived.RangeFuncNested
import Derived.Shelf.Abstract
import Derived.Shelf.RegionOpen
import Derived.TacticsInMore
import Derived.Test.YtahboomghjdjhaaGreatG04
import Derived.Test.YtahboomghjdjhaaGreatG05
import Derived.Test.YtahboomghjdjhaaGreatRows
import Derived.WalkKit
namespace Go.Proofs.YtahboomghjdjhaaGreat
open Go.RowKit Go.Shelf
attribute [local go_sem] Oper.semAt_some

/-- What a round keeps: all below, and the box. -/
def KpB (n₀ Bn : Nat) (W W' : World) : Prop := Below n₀ W W' ∧ W'.heap[Bn]? = W.heap[Bn]?

set_option maxRecDepth 100000 in
set_option maxHeartbeats 2000000 in
theorem by1_in (n : Nat) (hn : 1 ≤ n) (loop Bn n₀ : Nat) (A : Option Addr) (c : Nat) (l : List Nat) (W0 : World) (hn₀ : W0.heap.size ≤ n₀) (hl : Bs W0 A l) (hm : l.length ≤ 1001) (J Jx : List (Nat × Nat) → World → Prop)
    (hY : ∀ pre x W, J pre W → pre.length < 16 * l.length → x.1 < 16 → x.2 < l.length → YieldAt Fence.wide (n - 1) Tryz.prog loop #[.int .u8 (x.1 : Int), .int .i64 (x.2 : Int)] W fun e W' =>
      (e = .returned (.bool true) ∧ J (pre ++ [x]) W' ∧ KpB n₀ Bn W W') ∨ (e = .returned (.bool false) ∧ Jx (pre ++ [x]) W'))
    (W : World) (hB : Below n₀ W0 W) (hBn : Blk W Bn 22 #[.slice A l.length c]) (h0 : J [] W) :
    CallsIn Fence.wide n Tryz.prog 97 #[.func (.yield loop) #[] #[], .pointer (some ⟨Bn, 0, none⟩)] W fun e W' => (∃ v, e = .returned v) ∧
      ((∃ ys, ys = allP l 16 ∧ J ys W') ∨ (∃ pre, True ∧ Jx pre W')) := by
  refine callsIn_of_wp Tryz.func97 rfl trivial ?_ rfl
  simp only [Tryz.ntmps97, List.size_toArray, List.length_cons, List.length_nil, Nat.reduceAdd, Nat.reduceSub, Array.replicate_succ, Array.replicate_zero, List.push_toArray, List.append_toArray, List.nil_append, List.cons_append]
  gi_wp2
  gi_loopw [6] (fun v wr => ∃ k : Nat, k ≤ 16 ∧ v = .int .u8 (k : Int) ∧ J (allP l k) wr ∧ Below n₀ W0 wr ∧ Blk wr Bn 22 #[.slice A l.length c])
    (fun v _ => 16 - (intOf v).toNat)
  case atStart => exact ⟨0, by omega, rfl, h0, hB, hBn⟩
  case round =>
    obtain ⟨k, hk, rfl, hJ, hb, hbox⟩ := hrel
    have cb := Blk.cells hbox
    by_cases hlt : k < 16
    · have hd : decide ((k : Int) < 16) = true := decide_eq_true (by omega)
      gi_wp2
      gi_loopw [11] (fun v wr => ∃ j : Nat, j ≤ l.length ∧ v = .int .i64 (j : Int) ∧ J (part l k j) wr ∧ Below n₀ W0 wr ∧ Blk wr Bn 22 #[.slice A l.length c])
        (fun v _ => l.length - (intOf v).toNat)
      case atStart => exact ⟨0, by omega, rfl, by rw [part_zero]; exact hJ, hb, hbox⟩
      case round =>
        clear hJ hb hbox cb
        obtain ⟨j, hj, rfl, hJ, hb, hbox⟩ := hrel
        by_cases hjl : j < l.length
        · obtain ⟨b, off, rfl, hc, hx⟩ := (hl.below (hb.mono hn₀)).at_ hjl
          by_cases hit : nth l j = k ∧ k ≠ 0
          · obtain ⟨fn, tmps, assign, body, hy, hR⟩ := hY _ (k, j) _ hJ (part_len hlt hjl) hlt hjl
            dsimp only at hy
            have e1 : (((nth l j : Nat) : Int) == (k : Int)) = true := by rw [beq_iff_eq]; omega
            have e2 : 0 < (k : Int) := by omega
            have HIT := Lib.hid (part_hit hit.1 hit.2)
            clear hit
            generalize nth l j = x at *
            gi_wp2
            refine hR.mono ?_
            rintro e W3 (⟨rfl, hJ3, hk3⟩ | ⟨rfl, hJx3⟩)
            · gi_wp2
              go_roundw
              case rel => exact ⟨j + 1, by omega, by go_num, by rw [HIT.out]; exact hJ3, hb.trans hk3.1, hk3.2.trans hbox⟩
              case measure => simp [intOf]; omega
            · gi_wp2
              refine bodyPost_ret (results_none rfl _ _ _) rfl ?_
              exact ⟨⟨_, rfl⟩, .inr ⟨_, trivial, hJx3⟩⟩
          · have HM := Lib.hid (part_miss hit)
            by_cases he : nth l j = k
            · have hk0 : ¬ 0 < k := fun h => hit ⟨he, by omega⟩
              have e1 : (((nth l j : Nat) : Int) == (k : Int)) = true := by rw [beq_iff_eq]; omega
              have e2 : decide (0 < (k : Int)) = false := decide_eq_false (by omega)
              have e3 : decide (0 < k) = false := decide_eq_false (by omega)
              clear hk0
              clear hit he
              generalize nth l j = x at *
              gi_wp2
              refine ⟨fun _ h => (by cases h), ?_⟩
              gi_wp2
              go_roundw
              case rel => exact ⟨j + 1, by omega, by go_num, by rw [HM.out]; exact hJ, hb, hbox⟩
              case measure => simp [intOf]; omega
            · have e1 : (((nth l j : Nat) : Int) == (k : Int)) = false := by rw [beq_eq_false_iff_ne]; omega
              clear hit he
              generalize nth l j = x at *
              gi_wp2
              refine ⟨fun _ h => (by cases h), ?_⟩
              gi_wp2
              go_roundw
              case rel => exact ⟨j + 1, by omega, by go_num, by rw [HM.out]; exact hJ, hb, hbox⟩
              case measure => simp [intOf]; omega
        · obtain rfl : j = l.length := by omega
          gi_wp2
          go_roundw
          case rel => exact ⟨k + 1, by omega, by go_num, by rw [← part_full]; exact hJ, hb, hbox⟩
          case measure => simp [intOf]; omega
    · obtain rfl : k = 16 := by omega
      gi_wp2
      go_end0
      exact ⟨⟨_, rfl⟩, .inl ⟨_, rfl, hJ⟩⟩

theorem byLength_any (A : Option Addr) (c n : Nat) (w : World) :
    Calls Tryz.prog 73 #[.slice A n c] w fun e w' => e = .returned (.func (.func 97) #[] #[.pointer (some ⟨w.heap.size, 0, none⟩)]) ∧ w' = w.alloc (.cells #[.slice A n c] 22) := by
  go_enter Tryz.func73, Tryz.ntmps73
  go_wp2_with fail
  go_ret
  exact ⟨rfl, rfl⟩

/-- What the closure hands on: a length and a symbol. -/
abbrev SyT := { x : Nat × Nat // x.1 < 16 ∧ x.2 ≤ 1001 }
def syL (ys : List SyT) : List (Nat × Nat) := ys.map (·.1)

theorem by_stops (n : Nat) (hn : 1 ≤ n) (Bn n₀ : Nat) (A : Option Addr) (c : Nat) (l : List Nat) (W0 w : World) (h0 : W0.heap.size ≤ n₀) (hb0 : Below n₀ W0 w) (hn₀ : n₀ ≤ w.heap.size) (hl : Bs W0 A l) (hm : l.length ≤ 1001)
    (hBn : Blk w Bn 22 #[.slice A l.length c]) :
    SeqStopsK Fence.wide n Tryz.prog 97 #[.pointer (some ⟨Bn, 0, none⟩)] (fun x : SyT => #[.int .u8 (x.1.1 : Int), .int .i64 (x.1.2 : Int)]) (KpB n₀ Bn) (fun ys => syL ys = allP l 16) (fun _ => True) (16 * l.length) w := fun loop J Jx W hW _ _ hY hJ => by
  refine (by1_in n hn loop Bn n₀ A c l W0 h0 hl hm (fun pre W => ∃ ys, syL ys = pre ∧ J ys W) (fun pre W => ∃ ys, syL ys = pre ∧ Jx ys W) ?_ W (hb0.trans (hW.mono hn₀)) (Blk.below hBn hW (Blk.lt hBn)) ⟨[], rfl, hJ⟩).mono ?_
  · rintro pre x W1 ⟨ys, rfl, hj⟩ hlen h1 h2
    obtain ⟨fn, tmps, assign, body, hy, hR⟩ := hY ys ⟨x, h1, by omega⟩ W1 hj (by simpa [syL] using hlen)
    refine ⟨fn, tmps, assign, body, hy, hR.mono ?_⟩
    rintro e W' (⟨rfl, hJ', hk⟩ | ⟨rfl, hJ'⟩)
    · exact .inl ⟨rfl, ⟨_, by simp [syL], hJ'⟩, hk⟩
    · exact .inr ⟨rfl, ⟨_, by simp [syL], hJ'⟩⟩
  · rintro e W' ⟨hv, ⟨ys, rfl, zs, hz, hj⟩ | ⟨pre, -, zs, hz, hj⟩⟩
    · exact ⟨hv, .inl ⟨zs, hz, hj⟩⟩
    · exact ⟨hv, .inr ⟨zs, trivial, hj⟩⟩

theorem kpB_t {n₀ Bn : Nat} {A B C : World} (h : KpB n₀ Bn A B) (k : KpB n₀ Bn B C) : KpB n₀ Bn A C := ⟨h.1.trans k.1, k.2.trans h.2⟩
theorem kpB_b {n₀ Bn : Nat} {w : World} (hn : n₀ ≤ w.heap.size) (hBn : Bn < w.heap.size) (W : World) (l : Nat) (o o' : Obj) (hl : w.heap.size ≤ l) (h : W.heap[l]? = some o) (h1 : o.isCells = false) (h2 : o.isWalk = false) : KpB n₀ Bn W (W.putObj l o') :=
  ⟨belowK_b hn W l o o' hl h h1 h2, (belowK_b (w := w) (n₀ := w.heap.size) (Nat.le_refl _) W l o o' hl h h1 h2).block Bn hBn⟩
end Go.Proofs.YtahboomghjdjhaaGreat

/-
  Walks: tree.Grow.
-/
namespace Go.Proofs.YtahboomghjdjhaaGreat
open Go.RowKit Go.Shelf
attribute [local go_sem] Oper.semAt_some

/-- A tree's cells: 16 numbers, the symbols. -/
def treeH (f : Nat → Int) (v : Value) (i : Nat) : Value := if i < 16 then .int .i64 (f i) else v
def treeV (f : Nat → Int) (A : Option Addr) (n c : Nat) : Value := .agg (cellsOf 17 (treeH f (.slice A n c)))
def cntS (p : List (Nat × Nat)) (k : Nat) : Int := ((p.filter fun x => x.1 = k).length : Nat)
def symS (p : List (Nat × Nat)) : List Int := p.map fun x => (x.2 : Int)
theorem cntS_snoc (p : List (Nat × Nat)) (x : Nat × Nat) (k : Nat) : cntS (p ++ [x]) k = if k = x.1 then cntS p k + 1 else cntS p k := by
  unfold cntS
  rw [List.filter_append, List.length_append]
  by_cases h : k = x.1
  · subst h; simp
  · rw [if_neg h]; simp [Ne.symm h]
theorem cntS_le (p : List (Nat × Nat)) (k : Nat) : 0 ≤ cntS p k ∧ cntS p k ≤ p.length := by
  unfold cntS
  exact ⟨by omega, by have := List.length_filter_le (fun x : Nat × Nat => decide (x.1 = k)) p; omega⟩
theorem tree_under : Tryz.prog.underlying 26 = some (Tryz.prog.underlying 26).get! := by kernel_rfl
theorem tree_size : (Tryz.prog.info? 26).map (·.size) = some 17 := by kernel_rfl
theorem only_setCells {g : Nat} {a : World} : ∀ (vs : List Value) (o : Nat) {w : World}, a.grownBy w (some g) → a.grownBy (w.setCells g o vs) (some g)
  | [], _, _, h => h
  | v :: vs, o, _, h => only_setCells vs (o + 1) (only_set h o v)
theorem only_refl (w : World) (g : Nat) : w.grownBy w (some g) := ⟨rfl, rfl, rfl, Nat.le_refl _, fun _ _ _ => rfl⟩
/-- A row stored over itself: only its block has turned. -/
theorem store_only {P : Program} {ops : Array Oper} {rest : List Oper} {o : Oper} {a : Act} {w : World} {Q : Exit → Act → World → Prop} (hgd : o.guard = none) (ty : TypeId) (x y : Operand) (ho : o.op = .store ty x y)
    {g : Nat} (hx : a.eval x = .pointer (some ⟨g, 0, none⟩)) {t : TypeId} {n : Nat} {f : Nat → Value} (hy : a.eval y = .agg (cellsOf n f)) (hA : Arr w g t n f)
    (hi : (P.info? ty).map (·.size) = some n) (h1 : ∀ k, k < n → (f k).oneCell' = true)
    (h : ∀ w', Arr w' g t n f → w.grownBy w' (some g) → wpList P ops Q rest (a.put o.dst undef) w') : wpList P ops Q (o :: rest) a w := by
  refine wpList_store_mid hgd ty x y ho g 0 (cellsOf n f) hx hy (Blk.there hA) (by rw [hi, cellsOf_size]) ?_ (h _ (Blk.setCells _ _ hA ?_) (only_setCells _ _ (only_refl _ _)))
  · apply all_oneCell_toArray
    intro v hv
    obtain ⟨k, hk, rfl⟩ := List.mem_map.1 hv
    exact h1 k (List.mem_range.1 hk)
  · intro j v hv
    rw [cellsOf_list] at hv
    rw [Nat.zero_add, ← hv]
    simp [cellsOf]

theorem own_tree {β : Type} (n₀ g : Nat) (t e : TypeId) (size : Nat) (k : β → Nat) (f : β → List Value) (cs : β → Value → Array Value) : Own (fun s W => ∃ v, Blk W g t (cs s v) ∧ W.ownsRow n₀ e size v (k s) (f s)) := by
  rintro s X Y row ⟨v, hv, hr⟩ hg hrow
  refine ⟨v, hv.grown hg (fun e' => ?_), hr.kept hg ?_⟩
  · obtain ⟨o, ho, hc⟩ := hrow g e'.symm
    rw [show X.heap[g]? = _ from hv] at ho; cases ho; cases hc
  · rcases hr.2 with ⟨rfl, _⟩ | ⟨g, cap, cur, rfl, _, hgb, _⟩
    · exact .inl rfl
    · refine .inr fun e' => ?_
      obtain ⟨o, ho, hc⟩ := hrow g (by simpa [Value.ownBlock] using e'.symm)
      rw [hgb] at ho; cases ho; cases hc
theorem own_blk {β : Type} (g : Nat) (t : TypeId) (cs : Array Value) : Own (fun (_ : β) W => Blk W g t cs) := by
  rintro s X Y row hv hg hrow
  refine hv.grown hg (fun e' => ?_)
  obtain ⟨o, ho, hc⟩ := hrow g e'.symm
  rw [show X.heap[g]? = _ from hv] at ho; cases ho; cases hc
theorem treeH_lt {f : Nat → Int} {v : Value} {k : Nat} (h : k < 16) : treeH f v k = .int .i64 (f k) := if_pos h
theorem treeH_16 {f : Nat → Int} {v : Value} : treeH f v 16 = v := rfl
theorem info_int : (Tryz.prog.info? 3).map (fun i => (i.zero, i.size, i.bytes)) = some (some (.int .i64 0), 1, 8) := by kernel_rfl

set_option maxRecDepth 100000 in
set_option maxHeartbeats 4000000 in
theorem grow_any (A : Option Addr) (c : Nat) (l : List Nat) (m : Int) (w : World) (hl : Bs w A l) (hm : l.length ≤ 1001) (h1 : -9223372036854775808 ≤ m) (h2 : m ≤ 9223372036854775807) :
    Calls Tryz.prog 57 #[.slice A l.length c, .int .i64 m] w fun e w' => Below w.heap.size w w' ∧
      ∃ (B : Option Addr) (n d : Nat) (f : Nat → Int) (xs : List Int), e = .returned (.tuple #[treeV f B n d, .int .i64 (canE l m)]) ∧ w'.ownsRow w.heap.size 3 1 (.slice B n d) n (ints xs) ∧
        if canE l m = 0 then f = cntS (allP l 16) ∧ xs = symS (allP l 16) else f = (fun _ => 0) ∧ xs = [] := by
  have HK := Lib.hid fun w hl => check_any A c l m w hl hm h1 h2
  by_cases he : canE l m = 0
  · have HE := Lib.hid he
    rw [he] at HK ⊢
    clear he
    refine (callsIn_wide (n := 9)).1 ?_
    refine callsIn_of_wp_marks Tryz.func57 rfl trivial ?_ rfl
    simp only [Tryz.ntmps57, List.size_toArray, List.length_cons, List.length_nil, Nat.reduceAdd, Nat.reduceSub, Array.replicate_succ, Array.replicate_zero, List.push_toArray, List.append_toArray, List.nil_append, List.cons_append]
    refine wpIn_wide.2 ?_
    go_wp2_with fail
    refine (HK.out _ (hl.alloc _)).mono ?_
    rintro e w1 ⟨rfl, hw1⟩
    subst hw1
    go_wp2_with fail
    refine (byLength_any A c l.length _).mono ?_
    rintro e w2 ⟨rfl, hw2⟩
    subst hw2
    go_wp2_with fail
    obtain ⟨i0, hi0, hz0, hz1, hz2⟩ := info_parts info_int
    have k1 : Blk (w.alloc (.cells (cellsOf 17 (treeH (fun _ => 0) (.slice none 0 0))) 26)) w.heap.size 26 (cellsOf 17 (treeH (fun _ => 0) (.slice none 0 0))) := Blk.new _ _ _
    have k1 := Blk.alloc k1 (.cells #[.slice A l.length c] 22)
    have k2 : Blk ((w.alloc (.cells (cellsOf 17 (treeH (fun _ => 0) (.slice none 0 0))) 26)).alloc (.cells #[.slice A l.length c] 22)) (w.heap.size + 1) 22 #[.slice A l.length c] := Blk.new' _ _ _ _ (by simp)
    have hb : Below w.heap.size w ((w.alloc (.cells (cellsOf 17 (treeH (fun _ => 0) (.slice none 0 0))) 26)).alloc (.cells #[.slice A l.length c] 22)) := ((Below.refl _ _).alloc (Nat.le_refl _) _).alloc (by simp) _
    have hsz : ((w.alloc (.cells (cellsOf 17 (treeH (fun _ => 0) (.slice none 0 0))) 26)).alloc (.cells #[.slice A l.length c] 22)).heap.size = w.heap.size + 2 := by simp
    change Code.wp _ _ _ _ ((w.alloc (.cells (cellsOf 17 (treeH (fun _ => 0) (.slice none 0 0))) 26)).alloc (.cells #[.slice A l.length c] 22))
    generalize (w.alloc (.cells (cellsOf 17 (treeH (fun _ => 0) (.slice none 0 0))) 26)).alloc (.cells #[.slice A l.length c] 22) = W2 at *
    refine wpIn_wide.1 (wpIn_rangeFunc_ownG (F := Fence.wide) (n := 9) rfl (by omega) (gf := 97) (lb := #[.pointer (some ⟨w.heap.size + 1, 0, none⟩)]) rfl trivial (enters_of Tryz.func97 (by kernel_rfl) rfl)
      (by_stops 8 (by omega) (w.heap.size + 1) w.heap.size A c l w W2 (Nat.le_refl _) hb (by omega) hl hm k2) kpB_t (kpB_b (by omega) (by omega)) (Below.refl _ _) (fun _ => rfl)
      (fun pre W => (∃ v, Blk W w.heap.size 26 (cellsOf 17 (treeH (cntS (syL pre)) v)) ∧ W.ownsRow w.heap.size 3 1 v pre.length (ints (symS (syL pre)))) ∧ Blk W (w.heap.size + 1) 22 #[.slice A l.length c] ∧ Below w.heap.size w W)
      (fun _ _ _ => False)
      (OwnFrom.and (Own.from (own_tree w.heap.size w.heap.size 26 3 1 (fun pre => pre.length) (fun pre => ints (symS (syL pre))) (fun pre v => cellsOf 17 (treeH (cntS (syL pre)) v))) _) (OwnFrom.and (Own.from (own_blk _ _ _) _) (ownFrom_below (Nat.le_refl _) (by omega))))
      (fun _ _ _ _ _ hs _ _ => hs)
      ⟨⟨_, k1, World.ownsRow_nil _ _ _ _⟩, k2, hb⟩
      (fun x => { tmps := #[.slice A l.length c, .int .i64 m, undef, undef, .pointer (some ⟨w.heap.size, 0, none⟩), .int .i64 0, .int .i64 0, .int .u8 (x.1.1 : Int), .int .i64 (x.1.2 : Int), .slice A l.length c, .int .i64 m, .int .i64 0, .int .i64 0, .bool false, undef, undef, .slice A l.length c, .func (.func 97) #[] #[.pointer (some ⟨w.heap.size + 1, 0, none⟩)], .int .u8 (x.1.1 : Int), .int .i64 (x.1.2 : Int), undef, undef, undef, undef, undef, undef, undef, undef, undef, undef, undef, undef, undef, undef], defers := [] }) ?assign ?body ?done ?stop)
    case assign =>
      intro l x W K hK
      gi_wp2
      exact hK
    case body =>
      rintro loop pre ⟨⟨k, s⟩, hk, hs⟩ W ⟨⟨v, hT, hrow⟩, hbx, hB⟩ hlen
      dsimp only at hk hs ⊢
      obtain ⟨A3, c3, rfl⟩ := own_slice hrow
      have hpl : (syL pre).length = pre.length := by simp [syL]
      have hq0 := cntS_le (syL pre) k
      obtain ⟨q, hq⟩ : ∃ q, cntS (syL pre) k = q := ⟨_, rfl⟩
      rw [hq, hpl] at hq0
      have hq1 : 0 ≤ q := hq0.1
      have hq2 : q ≤ 20000 := by omega
      clear hq0
      have hp2 : pre.length ≤ 20000 := by omega
      have c1 : W.cell? ⟨w.heap.size, k, none⟩ = some (.int .i64 q) := by rw [Arr.cell hT k (by omega), treeH_lt hk, hq]
      have f1 := Blk.frozen hT k
      have hT1 := Arr.set hT k (.int .i64 (q + 1))
      have c16 : (W.setCell ⟨w.heap.size, k, none⟩ (.int .i64 (q + 1))).cell? ⟨w.heap.size, 16, none⟩ = some (.slice A3 pre.length c3) := by
        rw [Arr.cell hT1 16 (by omega)]; rw [if_neg (by omega), treeH_16]
      have hrow1 := own_far hrow (p := ⟨w.heap.size, k, none⟩) (own_blk_ne hrow hT (by decide)) (.int .i64 (q + 1))
      have hbx1 := Blk.far hbx (p := ⟨w.heap.size, k, none⟩) (by show w.heap.size + 1 ≠ w.heap.size; omega) (.int .i64 (q + 1))
      have HB1 := Lib.hid (hB.setCell (p := ⟨w.heap.size, k, none⟩) (by exact Nat.le_refl _) (.int .i64 (q + 1)))
      have HK1 := Lib.hid (KeepsOthers.setCell W ⟨w.heap.size, k, none⟩ (.int .i64 (q + 1)))
      have HP1 := Lib.hid ((Below.refl w.heap.size W).setCell (p := ⟨w.heap.size, k, none⟩) (by exact Nat.le_refl _) (.int .i64 (q + 1)))
      have hne1 := own_blk_ne hrow1 hT1 (by decide)
      have hne2 := own_blk_ne hrow1 hbx1 (by decide)
      have hlt1 := Blk.lt hT1
      have hsz1 : w.heap.size ≤ (W.setCell ⟨w.heap.size, k, none⟩ (.int .i64 (q + 1))).heap.size := HB1.out.size
      have HQ := Lib.hid hq
      have hsw : (W.setCell ⟨w.heap.size, k, none⟩ (.int .i64 (q + 1))).heap.size = W.heap.size := by simp
      have cN := cell_one_new (W.setCell ⟨w.heap.size, k, none⟩ (.int .i64 (q + 1))) (.int .i64 (s : Int)) 3
      rw [hsw] at cN hsz1
      clear hsw
      have HNE := Lib.hid (And.intro hne1 hne2)
      clear hq hne1 hne2
      gi_wp2_with (gi_at_builtin; refine wpListIn_append_own _ rfl _ _ 24 rfl w.heap.size 3 i0 (.int .i64 0) 1 8 Tryz.underlying24 hi0 hz0 hz1 hz2 rfl (by decide) (.slice A3 pre.length c3) pre.length (ints (symS (syL pre))) rfl (hrow1.alloc _) ⟨W.heap.size, 0, none⟩ 1 1 [.int .i64 (s : Int)] rfl rfl cN (by simp [Value.oneCell']) (by simp only [maxLen]; omega) (by omega) (by simp; omega) ?_; intro v' w1 hown' hgrow _; obtain ⟨g', cap', rfl⟩ := ownsRow_succ hown'; have hT2 := Blk.grown (Blk.alloc hT1 (.cells #[.int .i64 (s : Int)] 3)) hgrow (fun e => HNE.out.1 e.symm); have c2 := Blk.cell hT2 16; have f2 := Blk.frozen hT2 16)
      have hKg : KeepsOthers ((W.setCell ⟨w.heap.size, k, none⟩ (.int .i64 (q + 1))).alloc (.cells #[.int .i64 (s : Int)] 3)) w1 := KeepsOthers.of_grownBy hgrow fun j o ej hj => by
        rcases (hrow1.alloc (.cells #[.int .i64 (s : Int)] 3)).2 with ⟨h, _⟩ | ⟨g, cap, cur, h, _, hgb, _⟩
        · rw [h] at ej; simp [Value.ownBlock] at ej
        · rw [h] at ej
          obtain rfl : g = j := by simpa [Value.ownBlock] using ej
          rw [hgb] at hj; cases hj; rfl
      have hge := own_row_ge hrow1
      have hbx2 := Blk.grown (Blk.alloc hbx1 (.cells #[.int .i64 (s : Int)] 3)) hgrow (fun e => HNE.out.2 e.symm)
      have hbx3 := Blk.far hbx2 (p := ⟨w.heap.size, 16, none⟩) (by show w.heap.size + 1 ≠ w.heap.size; omega) (.slice (some ⟨g', 0, none⟩) (pre.length + 1) cap')
      have hP2 := (((HP1.out.alloc (by simp; omega) (.cells #[.int .i64 (s : Int)] 3)).grown hgrow (by simp; omega) (fun j ej => hge j ej)).setCell (p := ⟨w.heap.size, 16, none⟩) (by exact Nat.le_refl _) (.slice (some ⟨g', 0, none⟩) (pre.length + 1) cap'))
      refine ⟨(((HK1.out.trans (KeepsOthers.alloc _ _)).trans hKg).trans (KeepsOthers.setCell _ _ _)).from _, ⟨hP2, hbx3.trans hbx.symm⟩, ⟨.slice (some ⟨g', 0, none⟩) (pre.length + 1) cap', ?_, ?_⟩, hbx3, hB.trans hP2⟩
      · refine (Arr.set hT2 16 (.slice (some ⟨g', 0, none⟩) (pre.length + 1) cap')).congr fun j hj => ?_
        have e : syL (pre ++ [⟨(k, s), ⟨hk, hs⟩⟩]) = syL pre ++ [(k, s)] := by simp [syL]
        by_cases h16 : j = 16
        · subst h16; rw [if_pos rfl, treeH_16]
        · rw [if_neg h16, treeH_lt (by omega), treeH_lt (by omega), e, cntS_snoc]
          by_cases hjk : j = k
          · subst hjk; rw [if_pos rfl, if_pos rfl, HQ.out]
          · rw [if_neg hjk, if_neg hjk]
      · have e : syL (pre ++ [⟨(k, s), ⟨hk, hs⟩⟩]) = syL pre ++ [(k, s)] := by simp [syL]
        rw [e, show symS (syL pre ++ [(k, s)]) = symS (syL pre) ++ [(s : Int)] by simp [symS], ints_append, List.length_append]
        exact own_far hown' (own_blk_ne hown' hT2 (by decide)) _
    case done =>
      rintro D ys W hD hys ⟨⟨v, hT, hrow⟩, hbx, hB⟩ hK
      rw [hys] at hT hrow
      obtain ⟨A3, c3, rfl⟩ := own_slice hrow
      go_wp2_with (first
        | (refine load_arr rfl 26 (.tmp 4) rfl rfl hT tree_under rfl tree_size ?_)
        | (refine store_only rfl 26 (.tmp 4) (.tmp 33) rfl rfl rfl hT tree_size (fun k _ => by unfold treeH; split <;> rfl) ?_; intro w5 hT5 hg5))
      have hlen : ys.length = (allP l 16).length := by rw [← hys]; simp [syL]
      have hDlt : D < W.heap.size := (Array.getElem?_eq_some_iff.1 hK).1
      have hK5 : w5.heap[D]? = some (.deferred (some [])) := (hg5.block D hDlt (fun e => by injection e with e; omega)).trans hK
      have hB5 := hB.trans (only_below hg5 hB.size (Nat.le_refl _))
      have hT6 : Arr (w5.putObj D (.deferred none)) w.heap.size 26 17 (treeH (cntS (allP l 16)) (.slice A3 ys.length c3)) := Blk.grown hT5 (grownBy_putObj' w5 D (.deferred none)) (fun e => by injection e with e; omega)
      have cs := fun i hi => Arr.cell hT6 i hi
      have hrow5 := hrow.kept hg5 (.inr (own_blk_ne hrow hT (by decide)))
      refine ⟨by simp, .inl ⟨_, _, rfl, run_takeDeferred hK5, ?_⟩⟩
      refine ⟨.tuple #[treeV (cntS (allP l 16)) A3 ys.length c3, .int .i64 0], ?_, ?_⟩
      · simp [results, Tryz.results57, go_sem, cs]
        rfl
      · exact ⟨hB5.trans (belowK_b (w := w) (Nat.le_refl _) w5 D _ _ (by omega) hK5 rfl rfl), A3, ys.length, c3, rfl, ownsRow_putObj hrow5 _ hK5 rfl⟩
    case stop =>
      rintro D c pre W _ _ h _
      exact h.elim
  · have hne : ((canE l m : Nat) : Int) != 0 := by rw [bne_iff_ne]; omega
    have HE := Lib.hid he
    simp only [if_neg he]
    clear he
    generalize canE l m = E at *
    refine (callsIn_wide (n := 9)).1 ?_
    refine callsIn_of_wp_marks Tryz.func57 rfl trivial ?_ rfl
    simp only [Tryz.ntmps57, List.size_toArray, List.length_cons, List.length_nil, Nat.reduceAdd, Nat.reduceSub, Array.replicate_succ, Array.replicate_zero, List.push_toArray, List.append_toArray, List.nil_append, List.cons_append]
    refine wpIn_wide.2 ?_
    go_wp2_with fail
    refine (HK.out _ (hl.alloc (.cells (cellsOf 17 (treeH (fun _ => 0) (.slice none 0 0))) 26))).mono ?_
    rintro e W ⟨rfl, hW⟩
    have hT : Arr W w.heap.size 26 17 (treeH (fun _ => 0) (.slice none 0 0)) := by rw [← hW]; exact Blk.new _ _ _
    have hb : Below w.heap.size w W := by rw [← hW]; exact (Below.refl _ _).alloc (Nat.le_refl _) _
    clear hW
    go_wp2_with (first
      | (refine load_arr rfl 26 (.tmp 4) rfl rfl hT tree_under rfl tree_size ?_)
      | (refine store_only rfl 26 (.tmp 4) (.tmp 14) rfl rfl rfl hT tree_size (fun k _ => by unfold treeH; split <;> rfl) ?_; intro w5 hT5 hg5))
    have hb5 := hb.trans (only_below hg5 hb.size (Nat.le_refl _))
    have cs := fun i hi => Arr.cell hT5 i hi
    refine ⟨.tuple #[treeV (fun _ => 0) none 0 0, .int .i64 (E : Int)], ?_, ?_⟩
    · simp [results, Tryz.results57, go_sem, cs]
      rfl
    · exact ⟨hb5, none, 0, 0, _, _, rfl, World.ownsRow_nil _ _ _ _, rfl, rfl⟩
end Go.Proofs.YtahboomghjdjhaaGreat

/-
  Walks: the reference's Grown.
-/
namespace Go.Proofs.YtahboomghjdjhaaGreat
open Go.RowKit

theorem elem_int : Elem Tryz.prog 24 3 1 8 := Elem.mk' Tryz.underlying24 (z := .int .i64 0) (by kernel_rfl) rfl (by omega)

/-- A row stored over another one: only its block has turned. -/
theorem store_over {P : Program} {ops : Array Oper} {rest : List Oper} {o : Oper} {a : Act} {w : World} {Q : Exit → Act → World → Prop} (hgd : o.guard = none) (ty : TypeId) (x y : Operand) (ho : o.op = .store ty x y)
    {g : Nat} (hx : a.eval x = .pointer (some ⟨g, 0, none⟩)) {t : TypeId} {n : Nat} {f f0 : Nat → Value} (hy : a.eval y = .agg (cellsOf n f)) (hA : Arr w g t n f0)
    (hi : (P.info? ty).map (·.size) = some n) (h1 : ∀ k, k < n → (f k).oneCell' = true)
    (h : ∀ w', Arr w' g t n f → w.grownBy w' (some g) → wpList P ops Q rest (a.put o.dst undef) w') : wpList P ops Q (o :: rest) a w :=
  wpList_store_row hgd ty x y ho g (cellsOf n f) hx hy t _ hA (by rw [hi, cellsOf_size]) (by rw [cellsOf_size, cellsOf_size]) (cellsOf_one h1)
    (h _ (setRow_heap w g _ _ t _ hA) ⟨rfl, rfl, rfl, by simp, fun k _ hne => setRow_other w g k _ (fun e => hne (by rw [e]))⟩)
theorem treeH_one (f : Nat → Int) (A : Option Addr) (n c : Nat) (k : Nat) : (treeH f (.slice A n c) k).oneCell' = true := by unfold treeH; split <;> rfl

/-- A tree under way in a box. -/
def TreeAt (W w : World) (g : Nat) (p : List (Nat × Nat)) (B : Option Addr) (d : Nat) : Prop :=
  Arr w g 26 17 (treeH (cntS p) (.slice B p.length d)) ∧ Builds W w 3 1 B p.length d (ints (symS p))

set_option maxRecDepth 100000 in
set_option maxHeartbeats 4000000 in
theorem rgrown_any (A : Option Addr) (c : Nat) (l : List Nat) (w : World) (hl : Bs w A l) (hm : l.length ≤ 1001) :
    Calls Tryz.prog 55 #[.slice A l.length c] w fun e w' =>
      ∃ (B : Option Addr) (d : Nat), e = .returned (treeV (cntS (allP l 16)) B (allP l 16).length d) ∧ Builds w w' 3 1 B (allP l 16).length d (ints (symS (allP l 16))) := by
  go_enter Tryz.func55, Tryz.ntmps55
  go_wp2_with fail
  have kr : Arr ((w.alloc (.cells (cellsOf 17 (treeH (fun _ => 0) (.slice none 0 0))) 26)).alloc (.cells (cellsOf 17 (treeH (fun _ => 0) (.slice none 0 0))) 26)) w.heap.size 26 17 (treeH (fun _ => 0) (.slice none 0 0)) := Blk.alloc (Blk.new _ _ _) _
  have kt : Arr ((w.alloc (.cells (cellsOf 17 (treeH (fun _ => 0) (.slice none 0 0))) 26)).alloc (.cells (cellsOf 17 (treeH (fun _ => 0) (.slice none 0 0))) 26)) (w.heap.size + 1) 26 17 (treeH (fun _ => 0) (.slice none 0 0)) := Blk.new' _ _ _ _ (by simp)
  have hb : Below w.heap.size w ((w.alloc (.cells (cellsOf 17 (treeH (fun _ => 0) (.slice none 0 0))) 26)).alloc (.cells (cellsOf 17 (treeH (fun _ => 0) (.slice none 0 0))) 26)) := ((Below.refl _ _).alloc (Nat.le_refl _) _).alloc (by simp) _
  change Code.wp _ _ _ _ ((w.alloc (.cells (cellsOf 17 (treeH (fun _ => 0) (.slice none 0 0))) 26)).alloc (.cells (cellsOf 17 (treeH (fun _ => 0) (.slice none 0 0))) 26))
  generalize (w.alloc (.cells (cellsOf 17 (treeH (fun _ => 0) (.slice none 0 0))) 26)).alloc (.cells (cellsOf 17 (treeH (fun _ => 0) (.slice none 0 0))) 26) = W2 at *
  go_loopg [4] 15 (fun gk v wr => ∃ (n : Nat) (B : Option Addr) (d : Nat), 1 ≤ n ∧ n ≤ 16 ∧ gk = 16 - n ∧ v = .int .i64 (n : Int) ∧ Arr wr w.heap.size 26 17 (treeH (fun _ => 0) (.slice none 0 0)) ∧ TreeAt w wr (w.heap.size + 1) (allP l n) B d)
  case atStart => exact ⟨1, none, 0, by omega, by omega, rfl, rfl, kr, kt, Builds.nil' hb _ _⟩
  case round =>
    clear kr kt hb
    obtain ⟨n, B, d, hn1, hn, hgk, rfl, kr, ht⟩ := hrel
    by_cases hlt : n < 16
    · have hd : decide ((n : Int) ≤ 15) = true := decide_eq_true (by omega)
      go_wp2_with fail
      go_loopg [5] l.length (fun gk v wr => ∃ (j : Nat) (B : Option Addr) (d : Nat), j ≤ l.length ∧ gk = l.length - j ∧ v = .int .i64 (j : Int) ∧ Arr wr w.heap.size 26 17 (treeH (fun _ => 0) (.slice none 0 0)) ∧ TreeAt w wr (w.heap.size + 1) (part l n j) B d)
      case atStart => exact ⟨0, B, d, by omega, by omega, rfl, kr, by rw [part_zero]; exact ht⟩
      case round =>
        have hgo := hgk
        clear kr ht hgk
        obtain ⟨j, B, d, hj, hgk, rfl, kr, hT, hB⟩ := hrel
        have hp := part_len (l := l) (k := n) (j := j) hlt
        by_cases hjl : j < l.length
        · have hp := hp hjl
          obtain ⟨b, off, rfl, hc, hx⟩ := (hl.below hB.1).at_ hjl
          by_cases hit : nth l j = n
          · have e1 : (((nth l j : Nat) : Int) == (n : Int)) = true := by rw [beq_iff_eq]; omega
            have HIT := Lib.hid (part_hit hit (by omega))
            clear hit
            generalize nth l j = x at *
            generalize part l n j = pre at *
            have hq0 := cntS_le pre n
            obtain ⟨q, hq⟩ : ∃ q, cntS pre n = q := ⟨_, rfl⟩
            rw [hq] at hq0
            have hq1 : 0 ≤ q := hq0.1
            have hq2 : q ≤ 20000 := by omega
            clear hq0
            have hp2 : pre.length ≤ 20000 := by omega
            have c1 : wr.cell? ⟨w.heap.size + 1, n, none⟩ = some (.int .i64 q) := by rw [Arr.cell hT n (by omega), treeH_lt hlt, hq]
            have f1 := Blk.frozen hT n
            have hT1 := Arr.set hT n (.int .i64 (q + 1))
            have c16 : (wr.setCell ⟨w.heap.size + 1, n, none⟩ (.int .i64 (q + 1))).cell? ⟨w.heap.size + 1, 16, none⟩ = some (.slice B pre.length d) := by
              rw [Arr.cell hT1 16 (by omega)]; rw [if_neg (by omega), treeH_16]
            have hB1 : Builds w (wr.setCell ⟨w.heap.size + 1, n, none⟩ (.int .i64 (q + 1))) 3 1 B pre.length d (ints (symS pre)) := ⟨hB.1.setCell (p := ⟨w.heap.size + 1, n, none⟩) (by show w.heap.size ≤ w.heap.size + 1; omega) _, own_far hB.2 (p := ⟨w.heap.size + 1, n, none⟩) (own_blk_ne hB.2 hT (by decide)) _⟩
            have kr1 := Arr.far kr (p := ⟨w.heap.size + 1, n, none⟩) (by show w.heap.size ≠ w.heap.size + 1; omega) (.int .i64 (q + 1))
            have HNE := Lib.hid (And.intro (own_blk_ne hB1.2 hT1 (by decide)) (own_blk_ne hB1.2 kr1 (by decide)))
            have HQ := Lib.hid hq
            have hlt1 := Blk.lt hT1
            clear hq
            go_wp2_with (at_builtin; refine grow elem_int rfl (.tmp 31) (.tmp 33) rfl rfl (hB1.alloc _) rfl (Rd.new' _ _ _ (ints [(j : Int)]) _ (by simp) rfl) rfl (ints_one _) (pre.length + 1) rfl (ints (symS pre ++ [(j : Int)])) (ints_append _ _).symm (by omega) (by omega) ?_; intro B2 d2 w2 hB2 hg2; have hT2 := Blk.grown (Blk.alloc hT1 (.cells #[.int .i64 (j : Int)] 3)) hg2 (fun e => HNE.out.1 e.symm); have c2 := Blk.cell hT2 16; have f2 := Blk.frozen hT2 16)
            go_roundg (l.length - (j + 1))
            case measure => omega
            case rel =>
              refine ⟨j + 1, B2, d2, by omega, by omega, by go_num, ?_, ?_⟩
              · exact Blk.far (Blk.grown (Blk.alloc kr1 (.cells #[.int .i64 (j : Int)] 3)) hg2 (fun e => HNE.out.2 e.symm)) (p := ⟨w.heap.size + 1, 16, none⟩) (by show w.heap.size ≠ w.heap.size + 1; omega) _
              · rw [HIT.out]
                have el : (pre ++ [(n, j)]).length = pre.length + 1 := by simp
                unfold TreeAt
                rw [el]
                refine ⟨?_, ⟨hB2.1.setCell (p := ⟨w.heap.size + 1, 16, none⟩) (by show w.heap.size ≤ w.heap.size + 1; omega) _, ?_⟩⟩
                · refine (Arr.set hT2 16 (.slice B2 (pre.length + 1) d2)).congr fun i hi => ?_
                  by_cases h16 : i = 16
                  · subst h16; rw [if_pos rfl, treeH_16]
                  · rw [if_neg h16, treeH_lt (by omega), treeH_lt (by omega), cntS_snoc]
                    by_cases hjk : i = n
                    · subst hjk; rw [if_pos rfl, if_pos rfl, HQ.out]
                    · rw [if_neg hjk, if_neg hjk]
                · have e2 : symS (pre ++ [(n, j)]) = symS pre ++ [(j : Int)] := by simp [symS]
                  rw [e2]
                  exact own_far hB2.2 (own_blk_ne hB2.2 hT2 (by decide)) _
          · have e1 : (((nth l j : Nat) : Int) == (n : Int)) = false := by rw [beq_eq_false_iff_ne]; omega
            have HM := Lib.hid (part_miss (k := n) (l := l) (j := j) (fun h => hit h.1))
            clear hit
            generalize nth l j = x at *
            go_wp2_with fail
            go_roundg (l.length - (j + 1))
            case measure => omega
            case rel => exact ⟨j + 1, B, d, by omega, by omega, by go_num, kr, by rw [HM.out]; exact ⟨hT, hB⟩⟩
        · obtain rfl : j = l.length := by omega
          go_wp2_with fail
          go_roundg (16 - (n + 1))
          case measure => omega
          case rel => exact ⟨n + 1, B, d, by omega, by omega, by omega, by go_num, kr, by rw [← part_full]; exact ⟨hT, hB⟩⟩
    · obtain rfl : n = 16 := by omega
      obtain ⟨hT, hB⟩ := ht
      go_wp2_with (first
        | (refine load_arr rfl 26 (.tmp 3) rfl rfl hT tree_under rfl tree_size ?_)
        | (refine store_over rfl 26 (.tmp 2) (.tmp 36) rfl rfl rfl kr tree_size (fun k _ => treeH_one _ _ _ _ k) ?_; intro w5 hT5 hg5))
      refine bodyPost_ret (results_cell_row Tryz.results55 _ _ w.heap.size 26 (cellsOf 17 (treeH (cntS (allP l 16)) (.slice B (allP l 16).length d))) (0, 0) _ rfl hT5 tree_under rfl (by rw [tree_size, cellsOf_size])) rfl ⟨B, d, rfl, ?_⟩
      exact ⟨hB.1.trans (only_below hg5 hB.1.size (Nat.le_refl _)), hB.2.kept hg5 (.inr (own_blk_ne hB.2 kr (by decide)))⟩
end Go.Proofs.YtahboomghjdjhaaGreat

/-
  Walks: the reference's Grow.
-/
namespace Go.Proofs.YtahboomghjdjhaaGreat
open Go.RowKit

end Go.Proofs.YtahboomghjdjhaaGreat
