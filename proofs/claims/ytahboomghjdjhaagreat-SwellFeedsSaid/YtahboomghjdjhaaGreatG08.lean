/-
  Walks: the reference's Twin and Same, tree.Same.
-/
import Derived.BigQuiet
import Derived.Deep.Cut
import Derived.Deep.DeepCutAuto
import Derived.Deep.QuietTactic
import Derived.Deep.RegionHeld3
import Derived.Laws.StructEq
import Derived.Test.YtahboomghjdjhaaGreatG00
import Derived.Test.YtahboomghjdjhaaGreatG04
import Derived.Test.YtahboomghjdjhaaGreatG06
namespace Go.Proofs.YtahboomghjdjhaaGreat
open Go.RowKit

theorem treeH_put (f : Nat → Int) (v v' : Value) (k : Nat) (h : k < 17) : (if k = 16 then v' else treeH f v k) = treeH f v' k := by
  by_cases h16 : k = 16
  · subst h16; rw [if_pos rfl, treeH_16]
  · rw [if_neg h16, treeH_lt (by omega), treeH_lt (by omega)]

set_option maxRecDepth 100000 in
set_option maxHeartbeats 2000000 in
theorem rtwin_any (f : Nat → Int) (A : Option Addr) (n c : Nat) (xs : List Int) (w : World) (hl : Rd w A (ints xs)) (hn : n = xs.length) (hm : n ≤ 1001) :
    Calls Tryz.prog 15 #[treeV f A n c] w fun e w' =>
      ∃ (B : Option Addr) (d : Nat), e = .returned (treeV f B n d) ∧ Builds w w' 3 1 B n d (ints xs) := by
  have HN := Lib.hid hn
  clear hn
  have Z : Value.agg (cellsOf 17 (treeH (fun _ => 0) (.slice none 0 0))) = Value.agg #[.int .i64 0, .int .i64 0, .int .i64 0, .int .i64 0, .int .i64 0, .int .i64 0, .int .i64 0, .int .i64 0, .int .i64 0, .int .i64 0, .int .i64 0, .int .i64 0, .int .i64 0, .int .i64 0, .int .i64 0, .int .i64 0, .slice none 0 0] := rfl
  unfold treeV
  go_enter Tryz.func15, Tryz.ntmps15
  have HB : ∀ o o', Below w.heap.size w ((w.alloc o).alloc o') := fun o o' => ((Below.refl _ _).alloc (Nat.le_refl _) _).alloc (by simp) _
  have HL := Lib.hid hl
  have kt : Arr ((w.alloc (.cells (cellsOf 17 (treeH f (.slice A n c))) 26)).alloc (.cells (cellsOf 17 (treeH (fun _ => 0) (.slice none 0 0))) 26)) w.heap.size 26 17 (treeH f (.slice A n c)) := Blk.alloc (Blk.new _ _ _) _
  have kr : Arr ((w.alloc (.cells (cellsOf 17 (treeH f (.slice A n c))) 26)).alloc (.cells (cellsOf 17 (treeH (fun _ => 0) (.slice none 0 0))) 26)) (w.heap.size + 1) 26 17 (treeH (fun _ => 0) (.slice none 0 0)) := Blk.new' _ _ _ _ (by simp)
  have c16 := Arr.cell kt 16 (by omega)
  rw [treeH_16] at c16
  go_upto_region 1 with (fail)
  change Code.wp _ _ _ _ ((w.alloc (.cells (cellsOf 17 (treeH f (.slice A n c))) 26)).alloc (.cells (cellsOf 17 (treeH (fun _ => 0) (.slice none 0 0))) 26))
  have hb := HB (.cells (cellsOf 17 (treeH f (.slice A n c))) 26) (.cells (cellsOf 17 (treeH (fun _ => 0) (.slice none 0 0))) 26)
  have hl2 := (HL.out).below hb
  clear HB HL hl
  generalize (w.alloc (.cells (cellsOf 17 (treeH f (.slice A n c))) 26)).alloc (.cells (cellsOf 17 (treeH (fun _ => 0) (.slice none 0 0))) 26) = W2 at *
  go_wp2_with (first
    | (at_builtin; refine grow elem_int rfl (.const (.slice none 0 0)) (.tmp 4) rfl rfl (Builds.nil' hb _ _) rfl hl2 (by rw [ints_length, HN.out, Nat.mul_one]) (ints_one _) n (by omega) (ints xs) (by simp) (by omega) (by omega) ?_; intro B2 d2 w2 hB2 hg2; have kt2 := Blk.grown kt hg2 (fun e => by cases e); have kr2 := Blk.grown kr hg2 (fun e => by cases e); have f16 := Blk.frozen kt2 16; have lt16 := Blk.lt kt2; have c162 := Arr.cell kt2 16 (by omega); have kt3 := (Arr.set kt2 16 (.slice B2 n d2)).congr (treeH_put f (.slice A n c) (.slice B2 n d2)); have kr3 := Arr.far kr2 (p := ⟨w.heap.size, 16, none⟩) (by show w.heap.size + 1 ≠ w.heap.size; omega) (.slice B2 n d2); have hB3 : Builds w (w2.setCell ⟨w.heap.size, 16, none⟩ (.slice B2 n d2)) 3 1 B2 n d2 (ints xs) := ⟨hB2.1.setCell (p := ⟨w.heap.size, 16, none⟩) (Nat.le_refl _) _, own_far hB2.2 (p := ⟨w.heap.size, 16, none⟩) (own_blk_ne hB2.2 kt2 (by decide)) _⟩; clear hg2 hB2)
    | (refine load_arr rfl 26 (.tmp 1) rfl rfl kt3 tree_under rfl tree_size ?_)
    | (refine store_over rfl 26 (.tmp 2) (.tmp 7) rfl rfl rfl kr3 tree_size (fun k _ => treeH_one _ _ _ _ k) ?_; intro w5 hT5 hg5))
  refine bodyPost_ret (results_cell_row Tryz.results15 _ _ (w.heap.size + 1) 26 (cellsOf 17 (treeH f (.slice B2 n d2))) (0, 0) _ rfl hT5 tree_under rfl (by rw [tree_size, cellsOf_size])) rfl ⟨B2, d2, rfl, ?_⟩
  exact ⟨hB3.1.trans (only_below hg5 hB3.1.size (by omega)), hB3.2.kept hg5 (.inr (own_blk_ne hB3.2 kr3 (by decide)))⟩

/-! ### Arrays of numbers compared -/
def cI (f : Nat → Int) (i : Nat) : Value := .int .i64 (f i)
def eqF (n : Nat) (f g : Nat → Int) : Bool := (List.range n).all fun i => f i == g i
theorem eqF_iff {n : Nat} {f g : Nat → Int} : eqF n f g = true ↔ ∀ i, i < n → f i = g i := by
  unfold eqF
  rw [List.all_eq_true]
  exact ⟨fun h i hi => by simpa using h i (List.mem_range.2 hi), fun h i hi => by simpa using h i (List.mem_range.1 hi)⟩
section
variable {P : Program} (w : World)
theorem run_equalIn_ints (d : Nat) (t e : TypeId) (n : Nat) (ht : P.underlying t = some (.array n e)) (he : P.underlying e = some (.int .i64)) (hsz : ∀ w, (sizeOf e).run P w = .ok 1 w) (f g : Nat → Int) :
    (Op.equalIn (d + 2) t (.agg (cellsOf n (cI f))) (.agg (cellsOf n (cI g)))).run P w = .ok (eqF n f g) w := by
  unfold eqF
  rw [List.range_eq_range', Op.equalIn]
  simp only [Sem.run_bind, run_underlying ht, Result.andThen_ok, hsz, Std.Legacy.Range.forIn_eq_forIn_range', Std.Legacy.Range.size, Nat.sub_zero, Nat.add_sub_cancel, Nat.div_one]
  have hl : ∀ i ∈ List.range' 0 n 1, i < n := fun i hi => by simpa using (List.mem_range'_1.1 hi).2
  generalize List.range' 0 n 1 = l at hl ⊢
  induction l with
  | nil => simp
  | cons i l ih =>
    have hi : i < n := hl i (by simp)
    have px : ∀ f, (Go.part e (cellsOf n (cI f)) (i * 1)).run P w = .ok (cI f i) w := fun f => by
      simp [Go.part, isAgg, run_underlying he, cellsOf_get n _ i hi]
    have pe : (Op.equalIn (d + 1) e (cI f i) (cI g i)).run P w = .ok (f i == g i) w := by
      rw [cI, cI, run_equalIn_int w d e .i64 .i64 _ _ he]
    simp only [List.forIn_cons, Sem.run_bind, px, pe, Result.andThen_ok, List.all_cons]
    cases hb : (f i == g i)
    · simp
    · simp only [Bool.not_true, Bool.false_eq_true, if_false, Sem.run_pure, Result.andThen_ok, Bool.true_and]
      exact ih fun j hj => hl j (by simp [hj])
end
theorem size_int (w : World) : (sizeOf 3).run Tryz.prog w = .ok 1 w := by kernel_rfl
theorem cnt_eql (f g : Nat → Int) (w : World) : (binOp .eql 23 (.agg (cellsOf 16 (cI f))) (.agg (cellsOf 16 (cI g)))).run Tryz.prog w = .ok (.bool (eqF 16 f g)) w := by
  rw [run_eql_struct, run_equalIn_ints w 9998 _ 3 16 Tryz.underlying23 Tryz.underlying3 size_int f g]
  rfl
theorem cnt_neq (f g : Nat → Int) (w : World) : (binOp .neq 23 (.agg (cellsOf 16 (cI f))) (.agg (cellsOf 16 (cI g)))).run Tryz.prog w = .ok (.bool !(eqF 16 f g)) w := by
  rw [run_neq_struct, run_equalIn_ints w 9998 _ 3 16 Tryz.underlying23 Tryz.underlying3 size_int f g]
  rfl
/-- A tree's counts, loaded whole. -/
theorem load_cnt {ops : Array Oper} {rest : List Oper} {o : Oper} {a : Act} {w : World} {Q : Exit → Act → World → Prop} (hgd : o.guard = none) (x : Operand) (ho : o.op = .load 23 x)
    {g : Nat} (hx : a.eval x = .pointer (some ⟨g, 0, none⟩)) {t : TypeId} {f : Nat → Int} {v : Value} (hA : Arr w g t 17 (treeH f v))
    (h : wpList Tryz.prog ops Q rest (a.put o.dst (.agg (cellsOf 16 (cI f)))) w) : wpList Tryz.prog ops Q (o :: rest) a w := by
  refine wpList_load_mid hgd 23 x ho g 0 hx ((List.range 16).map (cI f)) _ ?_ Tryz.underlying23 rfl (by kernel_rfl) h
  intro j u hu
  have hj : j < 16 := by
    rcases Nat.lt_or_ge j 16 with h | h
    · exact h
    · rw [List.getElem?_eq_none (by simpa using h)] at hu; cases hu
  rw [Nat.zero_add, Arr.cell hA j (by omega), treeH_lt hj, ← hu]
  simp [hj, cI]

theorem upto_succ {p : Nat → Prop} {k : Nat} (h : ∀ i, i < k → p i) (hk : p k) : ∀ i, i < k + 1 → p i := fun i hi => by
  rcases Nat.lt_or_ge i k with h1 | h1
  · exact h i h1
  · obtain rfl : i = k := by omega
    exact hk
def sameT (f g : Nat → Int) (xs ys : List Int) : Bool := eqF 16 f g && decide (xs = ys)
theorem ints_nth_eq {xs ys : List Int} (h : xs.length = ys.length) (hh : ∀ i, i < xs.length → nthI xs i = nthI ys i) : xs = ys := by
  apply List.ext_getElem h
  intro i h1 h2
  have := hh i h1
  simpa [nthI, List.getElem?_eq_getElem h1, List.getElem?_eq_getElem h2] using this

set_option maxRecDepth 100000 in
set_option maxHeartbeats 2000000 in
theorem rsame_any (f g : Nat → Int) (A B : Option Addr) (n c m d : Nat) (xs ys : List Int) (w : World) (hx : Rd w A (ints xs)) (hy : Rd w B (ints ys)) (hn : n = xs.length) (hm : m = ys.length) (hn1 : n ≤ 1001) (hm1 : m ≤ 1001) :
    Calls Tryz.prog 38 #[treeV f A n c, treeV g B m d] w fun e w' => e = .returned (.bool (sameT f g xs ys)) ∧ Below w.heap.size w w' := by
  unfold treeV
  have CN := cnt_neq f g
  have HB : ∀ o o', Below w.heap.size w ((w.alloc o).alloc o') := fun o o' => ((Below.refl _ _).alloc (Nat.le_refl _) _).alloc (by simp) _
  have HN := Lib.hid hn
  have HM := Lib.hid hm
  clear hn hm
  have ka : Arr ((w.alloc (.cells (cellsOf 17 (treeH f (.slice A n c))) 26)).alloc (.cells (cellsOf 17 (treeH g (.slice B m d))) 26)) w.heap.size 26 17 (treeH f (.slice A n c)) := Blk.alloc (Blk.new _ _ _) _
  have kb : Arr ((w.alloc (.cells (cellsOf 17 (treeH f (.slice A n c))) 26)).alloc (.cells (cellsOf 17 (treeH g (.slice B m d))) 26)) (w.heap.size + 1) 26 17 (treeH g (.slice B m d)) := Blk.new' _ _ _ _ (by simp)
  have ca := Arr.cell ka 16 (by omega)
  have cb := Arr.cell kb 16 (by omega)
  rw [treeH_16] at ca cb
  have hb := HB (.cells (cellsOf 17 (treeH f (.slice A n c))) 26) (.cells (cellsOf 17 (treeH g (.slice B m d))) 26)
  have hx2 := hx.below hb
  have hy2 := hy.below hb
  clear HB hx hy
  by_cases he : eqF 16 f g = true
  · rw [he] at CN
    by_cases hl : n = m
    · subst hl
      go_enter Tryz.func38, Tryz.ntmps38
      go_upto_region 1 with (fail)
      change Code.wp _ _ _ _ ((w.alloc (.cells (cellsOf 17 (treeH f (.slice A n c))) 26)).alloc (.cells (cellsOf 17 (treeH g (.slice B n d))) 26))
      generalize (w.alloc (.cells (cellsOf 17 (treeH f (.slice A n c))) 26)).alloc (.cells (cellsOf 17 (treeH g (.slice B n d))) 26) = W2 at *
      go_wp2_with (first | (refine load_cnt rfl (.tmp 6) rfl rfl ka ?_) | (refine load_cnt rfl (.tmp 8) rfl rfl kb ?_))
      go_loopg [5] n (fun gk v wr => ∃ k : Nat, k ≤ n ∧ gk = n - k ∧ v = .int .i64 (k : Int) ∧ (∃ q, wr = W2.drewN q) ∧ ∀ i, i < k → nthI xs i = nthI ys i)
      case atStart => exact ⟨0, by omega, by omega, rfl, ⟨0, rfl⟩, fun i hi => by omega⟩
      case round =>
        obtain ⟨k, hk, hgk, rfl, ⟨q, rfl⟩, hh⟩ := hrel
        have HH := Lib.hid hh
        clear hh
        by_cases hlt : k < n
        · obtain ⟨b, off, rfl, hc1⟩ := hx2.at_ (by rw [ints_length, ← HN.out]; omega)
          obtain ⟨b', off', rfl, hc2⟩ := hy2.at_ (by rw [ints_length, ← HM.out]; omega)
          have h1 := hc1 k _ (ints_get xs k (by rw [← HN.out]; exact hlt))
          have h2 := hc2 k _ (ints_get ys k (by rw [← HM.out]; exact hlt))
          clear hc1 hc2
          by_cases hq : nthI xs k = nthI ys k
          · have hqb : (nthI xs k != nthI ys k) = false := by rw [hq]; simp
            have HQ := Lib.hid hq
            clear hq
            go_wp2_with fail
            go_quiet (fail)
            go_wp2_with fail
            go_roundg (n - (k + 1))
            case measure => omega
            case rel => exact ⟨k + 1, by omega, by omega, by go_num, ⟨_, rfl⟩, upto_succ HH.out HQ.out⟩
          · have hqb : (nthI xs k != nthI ys k) = true := by rw [bne_iff_ne]; exact hq
            have hS : sameT f g xs ys = false := by
              unfold sameT
              rw [decide_eq_false (fun e => hq (by rw [e])), Bool.and_false]
            clear hq
            go_wp2_with fail
            go_quiet (fail)
            go_wp2_with fail
            go_ret
            exact ⟨ret_bool hS.symm, below_drewN' (below_drewN' hb _) _⟩
        · obtain rfl : k = n := by omega
          have hS : sameT f g xs ys = true := by
            unfold sameT
            rw [he, Bool.true_and]
            exact decide_eq_true (ints_nth_eq (by rw [← HN.out, ← HM.out]) (fun i hi => HH.out i (by rw [HN.out]; exact hi)))
          go_wp2_with fail
          go_ret
          exact ⟨ret_bool hS.symm, below_drewN' hb _⟩
    · have hS : sameT f g xs ys = false := by
        unfold sameT
        rw [decide_eq_false (fun e => hl (by rw [HN.out, HM.out, e])), Bool.and_false]
      have hlb : ((n : Int) != (m : Int)) = true := by rw [bne_iff_ne]; omega
      have hlb' : (n != m) = true := by rw [bne_iff_ne]; omega
      clear hl
      go_enter Tryz.func38, Tryz.ntmps38
      go_upto_region 1 with (fail)
      change Code.wp _ _ _ _ ((w.alloc (.cells (cellsOf 17 (treeH f (.slice A n c))) 26)).alloc (.cells (cellsOf 17 (treeH g (.slice B m d))) 26))
      generalize (w.alloc (.cells (cellsOf 17 (treeH f (.slice A n c))) 26)).alloc (.cells (cellsOf 17 (treeH g (.slice B m d))) 26) = W2 at *
      go_wp2_with (first | (refine load_cnt rfl (.tmp 6) rfl rfl ka ?_) | (refine load_cnt rfl (.tmp 8) rfl rfl kb ?_))
      go_ret
      exact ⟨ret_bool hS.symm, hb⟩
  · have he' : eqF 16 f g = false := by simpa using he
    rw [he'] at CN
    have hS : sameT f g xs ys = false := by
      unfold sameT
      rw [he', Bool.false_and]
    clear he he'
    go_enter Tryz.func38, Tryz.ntmps38
    go_upto_region 1 with (fail)
    change Code.wp _ _ _ _ ((w.alloc (.cells (cellsOf 17 (treeH f (.slice A n c))) 26)).alloc (.cells (cellsOf 17 (treeH g (.slice B m d))) 26))
    generalize (w.alloc (.cells (cellsOf 17 (treeH f (.slice A n c))) 26)).alloc (.cells (cellsOf 17 (treeH g (.slice B m d))) 26) = W2 at *
    go_wp2_with (first | (refine load_cnt rfl (.tmp 6) rfl rfl ka ?_) | (refine load_cnt rfl (.tmp 8) rfl rfl kb ?_))
    go_ret
    exact ⟨ret_bool hS.symm, hb⟩

/-- slices.Equal on numbers. -/
def SameRes (w w' : World) (e : Ending) (b : Bool) : Prop := e = .returned (.bool b) ∧ ∃ q, w' = w.drewN q
set_option maxRecDepth 100000 in
set_option maxHeartbeats 2000000 in
theorem equal_any (A B : Option Addr) (n c m d : Nat) (xs ys : List Int) (w : World) (hx : Rd w A (ints xs)) (hy : Rd w B (ints ys)) (hn : n = xs.length) (hm : m = ys.length) (hn1 : n ≤ 1001) (hm1 : m ≤ 1001) :
    Calls Tryz.prog 56 #[.slice A n c, .slice B m d] w fun e w' => SameRes w w' e (decide (xs = ys)) := by
  have HN := Lib.hid hn
  have HM := Lib.hid hm
  clear hn hm
  by_cases hl : n = m
  · subst hl
    go_enter Tryz.func56, Tryz.ntmps56
    go_wp2_with fail
    go_loopg [13] n (fun gk v wr => ∃ k : Nat, k ≤ n ∧ gk = n - k ∧ v = .int .i64 (k : Int) ∧ (∃ q, wr = w.drewN q) ∧ ∀ i, i < k → nthI xs i = nthI ys i)
    case atStart => exact ⟨0, by omega, by omega, rfl, ⟨0, rfl⟩, fun i hi => by omega⟩
    case round =>
      obtain ⟨k, hk, hgk, rfl, ⟨q, rfl⟩, hh⟩ := hrel
      have HH := Lib.hid hh
      clear hh
      by_cases hlt : k < n
      · obtain ⟨b, off, rfl, hc1⟩ := hx.at_ (by rw [ints_length, ← HN.out]; omega)
        obtain ⟨b', off', rfl, hc2⟩ := hy.at_ (by rw [ints_length, ← HM.out]; omega)
        have h1 := hc1 k _ (ints_get xs k (by rw [← HN.out]; exact hlt))
        have h2 := hc2 k _ (ints_get ys k (by rw [← HM.out]; exact hlt))
        clear hc1 hc2
        by_cases hq : nthI xs k = nthI ys k
        · have hqb : (nthI xs k != nthI ys k) = false := by rw [hq]; simp
          have HQ := Lib.hid hq
          clear hq
          go_wp2_with fail
          go_quiet (fail)
          go_wp2_with fail
          go_roundg (n - (k + 1))
          case measure => omega
          case rel => exact ⟨k + 1, by omega, by omega, by go_num, ⟨_, rfl⟩, upto_succ HH.out HQ.out⟩
        · have hqb : (nthI xs k != nthI ys k) = true := by rw [bne_iff_ne]; exact hq
          have hS : decide (xs = ys) = false := decide_eq_false (fun e => hq (by rw [e]))
          clear hq
          go_wp2_with fail
          go_quiet (fail)
          go_wp2_with fail
          go_ret
          exact ⟨ret_bool hS.symm, _, by first | rfl | exact World.drewN_drewN _ _ _⟩
      · obtain rfl : k = n := by omega
        have hS : decide (xs = ys) = true := decide_eq_true (ints_nth_eq (by rw [← HN.out, ← HM.out]) (fun i hi => HH.out i (by rw [HN.out]; exact hi)))
        go_wp2_with fail
        go_ret
        exact ⟨ret_bool hS.symm, _, by first | rfl | exact World.drewN_drewN _ _ _⟩
  · have hS : decide (xs = ys) = false := decide_eq_false (fun e => hl (by rw [HN.out, HM.out, e]))
    have hlb : ((n : Int) != (m : Int)) = true := by rw [bne_iff_ne]; omega
    have hlb' : (n != m) = true := by rw [bne_iff_ne]; omega
    clear hl
    rw [hS]
    go_enter Tryz.func56, Tryz.ntmps56
    go_wp2_with fail
    go_ret
    exact ⟨rfl, 0, rfl⟩

set_option maxRecDepth 100000 in
set_option maxHeartbeats 2000000 in
theorem tsame_any (f g : Nat → Int) (A B : Option Addr) (n c m d : Nat) (xs ys : List Int) (w : World) (hx : Rd w A (ints xs)) (hy : Rd w B (ints ys)) (hn : n = xs.length) (hm : m = ys.length) (hn1 : n ≤ 1001) (hm1 : m ≤ 1001) :
    Calls Tryz.prog 39 #[treeV f A n c, treeV g B m d] w fun e w' => e = .returned (.bool (sameT f g xs ys)) ∧ Below w.heap.size w w' := by
  unfold treeV
  have CN := cnt_eql f g
  have HB : ∀ o o', Below w.heap.size w ((w.alloc o).alloc o') := fun o o' => ((Below.refl _ _).alloc (Nat.le_refl _) _).alloc (by simp) _
  have ka : Arr ((w.alloc (.cells (cellsOf 17 (treeH f (.slice A n c))) 26)).alloc (.cells (cellsOf 17 (treeH g (.slice B m d))) 26)) w.heap.size 26 17 (treeH f (.slice A n c)) := Blk.alloc (Blk.new _ _ _) _
  have kb : Arr ((w.alloc (.cells (cellsOf 17 (treeH f (.slice A n c))) 26)).alloc (.cells (cellsOf 17 (treeH g (.slice B m d))) 26)) (w.heap.size + 1) 26 17 (treeH g (.slice B m d)) := Blk.new' _ _ _ _ (by simp)
  have ca := Arr.cell ka 16 (by omega)
  have cb := Arr.cell kb 16 (by omega)
  rw [treeH_16] at ca cb
  have hb := HB (.cells (cellsOf 17 (treeH f (.slice A n c))) 26) (.cells (cellsOf 17 (treeH g (.slice B m d))) 26)
  have HE := Lib.hid (fun w hx hy => equal_any A B n c m d xs ys w hx hy hn hm hn1 hm1)
  have hx2 := hx.below hb
  have hy2 := hy.below hb
  clear HB hx hy hn hm
  by_cases he : eqF 16 f g = true
  · rw [he] at CN
    have hS : sameT f g xs ys = decide (xs = ys) := by unfold sameT; rw [he, Bool.true_and]
    rw [hS]
    generalize decide (xs = ys) = z at *
    clear he hS
    go_enter Tryz.func39, Tryz.ntmps39
    go_upto_region 1 with (fail)
    change Code.wp _ _ _ _ ((w.alloc (.cells (cellsOf 17 (treeH f (.slice A n c))) 26)).alloc (.cells (cellsOf 17 (treeH g (.slice B m d))) 26))
    generalize (w.alloc (.cells (cellsOf 17 (treeH f (.slice A n c))) 26)).alloc (.cells (cellsOf 17 (treeH g (.slice B m d))) 26) = W2 at *
    go_wp2_with (first | (refine load_cnt rfl (.tmp 5) rfl rfl ka ?_) | (refine load_cnt rfl (.tmp 7) rfl rfl kb ?_) | (go_at_call 56; refine (HE.out _ hx2 hy2).mono ?_; rintro e w' ⟨rfl, q, rfl⟩))
    go_ret
    exact ⟨rfl, below_drewN' hb _⟩
  · have he' : eqF 16 f g = false := by simpa using he
    rw [he'] at CN
    have hS : sameT f g xs ys = false := by
      unfold sameT
      rw [he', Bool.false_and]
    rw [hS]
    clear he he' hS
    go_enter Tryz.func39, Tryz.ntmps39
    go_upto_region 1 with (fail)
    change Code.wp _ _ _ _ ((w.alloc (.cells (cellsOf 17 (treeH f (.slice A n c))) 26)).alloc (.cells (cellsOf 17 (treeH g (.slice B m d))) 26))
    generalize (w.alloc (.cells (cellsOf 17 (treeH f (.slice A n c))) 26)).alloc (.cells (cellsOf 17 (treeH g (.slice B m d))) 26) = W2 at *
    go_wp2_with (first | (refine load_cnt rfl (.tmp 5) rfl rfl ka ?_) | (refine load_cnt rfl (.tmp 7) rfl rfl kb ?_))
    go_ret
    exact ⟨rfl, hb⟩
end Go.Proofs.YtahboomghjdjhaaGreat

/-
  Plain: what a tree is read as: the lengths of its symbols. Trees of lengths that may be are read back.
-/
namespace Go.Proofs.YtahboomghjdjhaaGreat

/-- One row's symbols, put down. -/
def putS (n : Nat) : List Int → List Nat → Option (List Nat)
  | [], o => some o
  | s :: r, o => if s < 0 ∨ 320 ≤ s ∨ nth o s.toNat ≠ 0 then none else putS n r (o.set s.toNat n)
/-- k rows from row n on. -/
def rowsT (f : Nat → Int) : Nat → Nat → List Int → List Nat → Option (List Nat × List Int)
  | 0, _, xs, o => some (o, xs)
  | k + 1, n, xs, o => if f n < 0 ∨ (xs.length : Int) < f n ∨ n = 0 ∧ 0 < f n then none else
      match putS n (xs.take (f n).toNat) o with
      | none => none
      | some o' => rowsT f k (n + 1) (xs.drop (f n).toNat) o'
def endT (f : Nat → Int) (xs : List Int) (o : List Nat) (r : List Int) : Option (List Nat) := if canE o 15 = 0 ∧ r = [] ∧ sameT (cntS (allP o 16)) f (symS (allP o 16)) xs = true then some o else none
/-- A tree's lengths, if it is one. -/
def chkT (f : Nat → Int) (xs : List Int) : Option (List Nat) := if 320 < xs.length then none else
  match rowsT f 16 0 xs (List.replicate 320 0) with
  | none => none
  | some (o, r) => endT f xs o r
def innT (f : Nat → Int) (m n : Nat) (rest row : List Int) (o : List Nat) : Option (List Nat × List Int) := match putS n row o with
  | none => none
  | some o' => rowsT f m (n + 1) rest o'

section
variable {f : Nat → Int} {m n j : Nat} {rest row xs : List Int} {o : List Nat}
theorem drop_cons (h : j < row.length) : row.drop j = nthI row j :: row.drop (j + 1) := by
  rw [List.drop_eq_getElem_cons h]; simp [nthI, List.getElem?_eq_getElem h]
theorem inn_bad (h : j < row.length) (hb : nthI row j < 0 ∨ 320 ≤ nthI row j ∨ nth o (nthI row j).toNat ≠ 0) : innT f m n rest (row.drop j) o = none := by
  unfold innT
  rw [drop_cons h, putS, if_pos hb]
theorem inn_step (h : j < row.length) (hb : ¬ (nthI row j < 0 ∨ 320 ≤ nthI row j ∨ nth o (nthI row j).toNat ≠ 0)) : innT f m n rest (row.drop j) o = innT f m n rest (row.drop (j + 1)) (o.set (nthI row j).toNat n) := by
  unfold innT
  rw [drop_cons h, putS, if_neg hb]
theorem inn_end : innT f m n rest (row.drop row.length) o = rowsT f m (n + 1) rest o := by
  unfold innT
  rw [List.drop_length, putS]
theorem rows_bad (hb : f n < 0 ∨ (xs.length : Int) < f n ∨ n = 0 ∧ 0 < f n) : rowsT f (m + 1) n xs o = none := by rw [rowsT, if_pos hb]
theorem rows_inn (hb : ¬ (f n < 0 ∨ (xs.length : Int) < f n ∨ n = 0 ∧ 0 < f n)) : rowsT f (m + 1) n xs o = innT f m n (xs.drop (f n).toNat) ((xs.take (f n).toNat).drop 0) o := by
  rw [rowsT, if_neg hb, List.drop_zero]; rfl
theorem rows_one (h : f 0 = 0) : rowsT f 16 0 xs o = rowsT f 15 1 xs o := by
  rw [rows_inn (by omega), h]
  simp [innT, putS]
end

theorem putS_append (n : Nat) (r s : List Int) (o : List Nat) : putS n (r ++ s) o = (putS n r o).bind (putS n s) := by
  induction r generalizing o with
  | nil => rfl
  | cons a r ih =>
    simp only [List.cons_append, putS]
    split
    · rfl
    · exact ih _

/-! ### Grown trees -/
/-- Lengths as far as those below n, and the first j of length n, are put down. -/
def maskL (l : List Nat) (n j : Nat) : List Nat := (List.range l.length).map fun i => if nth l i < n ∨ nth l i = n ∧ i < j then nth l i else 0
theorem maskL_length (l : List Nat) (n j : Nat) : (maskL l n j).length = l.length := by simp [maskL]
theorem maskL_nth (l : List Nat) (n j i : Nat) (h : i < l.length) : nth (maskL l n j) i = if nth l i < n ∨ nth l i = n ∧ i < j then nth l i else 0 := by simp [maskL, nth, h]
theorem list_nth {a b : List Nat} (h : a.length = b.length) (hh : ∀ i, i < a.length → nth a i = nth b i) : a = b := by
  apply List.ext_getElem h
  intro i h1 h2
  have := hh i h1
  simpa [nth, List.getElem?_eq_getElem h1, List.getElem?_eq_getElem h2] using this
theorem nth_set (a : List Nat) (i x k : Nat) (h : i < a.length) : nth (a.set i x) k = if k = i then x else nth a k := by
  unfold nth
  rw [List.getElem?_set]
  by_cases hk : i = k
  · subst hk; simp [h]
  · rw [if_neg hk, if_neg (fun e => hk e.symm)]
theorem symS_append (a b : List (Nat × Nat)) : symS (a ++ b) = symS a ++ symS b := by simp [symS]

theorem put_row (l : List Nat) (hl : l.length ≤ 320) (n : Nat) (hn : n ≠ 0) : ∀ j, j ≤ l.length → putS n (symS (rowP l n j)) (maskL l n 0) = some (maskL l n j)
  | 0, _ => by simp [rowP, symS, putS]
  | j + 1, h => by
    have ih := put_row l hl n hn j (by omega)
    rw [rowP, symS_append, putS_append, ih, Option.bind_some]
    by_cases hj : nth l j = n
    · rw [if_pos hj]
      have h0 : nth (maskL l n j) j = 0 := by rw [maskL_nth l n j j (by omega), if_neg (by omega)]
      simp only [symS, List.map_cons, List.map_nil, putS]
      rw [if_neg (by rw [Int.toNat_natCast, h0]; omega), Int.toNat_natCast]
      congr 1
      apply list_nth
      · rw [List.length_set, maskL_length, maskL_length]
      · intro i hi
        rw [List.length_set, maskL_length] at hi
        rw [nth_set _ _ _ _ (by rw [maskL_length]; omega), maskL_nth l n j i hi, maskL_nth l n (j + 1) i hi]
        by_cases hij : i = j
        · subst hij; rw [if_pos rfl, if_pos (by omega), hj]
        · rw [if_neg hij]
          by_cases hc : nth l i < n ∨ nth l i = n ∧ i < j
          · rw [if_pos hc, if_pos (by omega)]
          · rw [if_neg hc, if_neg (by omega)]
    · rw [if_neg hj]
      simp only [symS, List.map_nil, putS]
      congr 1
      apply list_nth
      · rw [maskL_length, maskL_length]
      · intro i hi
        rw [maskL_length] at hi
        rw [maskL_nth l n j i hi, maskL_nth l n (j + 1) i hi]
        by_cases hc : nth l i < n ∨ nth l i = n ∧ i < j
        · rw [if_pos hc, if_pos (by omega)]
        · rw [if_neg hc, if_neg]
          intro h2
          apply hc
          rcases h2 with h2 | h2
          · exact .inl h2
          · by_cases hij : i = j
            · subst hij; exact absurd h2.1 hj
            · exact .inr ⟨h2.1, by omega⟩
theorem mask_next (l : List Nat) (n : Nat) : maskL l n l.length = maskL l (n + 1) 0 := by
  apply list_nth
  · rw [maskL_length, maskL_length]
  · intro i hi
    rw [maskL_length] at hi
    rw [maskL_nth l _ _ i hi, maskL_nth l _ _ i hi]
    by_cases hc : nth l i < n + 1
    · rw [if_pos (by omega), if_pos (by omega)]
    · rw [if_neg (by omega), if_neg (by omega)]

/-- The rows from n on, k of them. -/
def sufP (l : List Nat) : Nat → Nat → List (Nat × Nat)
  | 0, _ => []
  | k + 1, n => (if n = 0 then [] else rowP l n l.length) ++ sufP l k (n + 1)
theorem allP_suf (l : List Nat) : ∀ k n, allP l (n + k) = allP l n ++ sufP l k n
  | 0, n => by simp [sufP]
  | k + 1, n => by
    rw [show n + (k + 1) = (n + 1) + k by omega, allP_suf l k (n + 1), sufP, allP, List.append_assoc]
theorem rowP_fst (l : List Nat) (n j : Nat) : ∀ x ∈ rowP l n j, x.1 = n := by
  induction j with
  | zero => simp [rowP]
  | succ j ih =>
    intro x hx
    rw [rowP, List.mem_append] at hx
    rcases hx with hx | hx
    · exact ih x hx
    · split at hx
      · simp only [List.mem_cons, List.not_mem_nil, or_false] at hx; rw [hx]
      · cases hx
theorem cntS_append (p q : List (Nat × Nat)) (k : Nat) : cntS (p ++ q) k = cntS p k + cntS q k := by simp [cntS, List.filter_append]
theorem cntS_row (l : List Nat) (n j k : Nat) : cntS (rowP l n j) k = if k = n then ((rowP l n j).length : Int) else 0 := by
  unfold cntS
  by_cases h : k = n
  · rw [if_pos h, List.filter_eq_self.2 (fun x hx => by rw [rowP_fst l n j x hx, h]; simp)]
  · rw [if_neg h, List.filter_eq_nil_iff.2 (fun x hx => by rw [rowP_fst l n j x hx]; simpa using fun e => h e.symm)]; rfl
theorem cntS_all (l : List Nat) (k n : Nat) : cntS (allP l n) k = if k < n ∧ k ≠ 0 then ((rowP l k l.length).length : Int) else 0 := by
  induction n with
  | zero => simp [allP, cntS]
  | succ n ih =>
    rw [allP, cntS_append, ih]
    by_cases hn : n = 0
    · subst hn
      rw [if_pos rfl, if_neg (by omega), if_neg (by omega)]; rfl
    · rw [if_neg hn, cntS_row]
      by_cases hk : k = n
      · subst hk; rw [if_neg (by omega), if_pos rfl, if_pos ⟨by omega, hn⟩]; omega
      · rw [if_neg hk]
        by_cases hc : k < n ∧ k ≠ 0
        · rw [if_pos hc, if_pos ⟨by omega, hc.2⟩]; omega
        · rw [if_neg hc, if_neg (by omega)]; rfl

theorem rows_grown (l : List Nat) (hl : l.length ≤ 320) : ∀ k n, n + k = 16 → rowsT (cntS (allP l 16)) k n (symS (sufP l k n)) (maskL l n 0) = some (maskL l 16 0, [])
  | 0, n, h => by
    obtain rfl : n = 16 := by omega
    simp [rowsT, sufP, symS]
  | k + 1, n, h => by
    have ih := rows_grown l hl k (n + 1) (by omega)
    by_cases hn : n = 0
    · subst hn
      have h0 : cntS (allP l 16) 0 = 0 := by rw [cntS_all, if_neg (by omega)]
      rw [rows_inn (by rw [h0]; omega), h0]
      have e1 : sufP l (k + 1) 0 = sufP l k 1 := by simp [sufP]
      have e2 : maskL l 0 0 = maskL l 1 0 := by
        apply list_nth
        · rw [maskL_length, maskL_length]
        · intro i hi
          rw [maskL_length] at hi
          rw [maskL_nth l _ _ i hi, maskL_nth l _ _ i hi, if_neg (by omega)]
          split <;> omega
      rw [e1]
      simp only [Int.toNat_zero, List.drop_zero, List.take_zero, innT, putS]
      rw [e2]
      exact ih
    · have hc : cntS (allP l 16) n = ((rowP l n l.length).length : Int) := by rw [cntS_all, if_pos ⟨by omega, hn⟩]
      have e1 : symS (sufP l (k + 1) n) = symS (rowP l n l.length) ++ symS (sufP l k (n + 1)) := by rw [sufP, if_neg hn, symS_append]
      have hlen : (symS (rowP l n l.length)).length = (rowP l n l.length).length := by simp [symS]
      rw [rows_inn (by rw [hc, e1, List.length_append, hlen]; omega), hc, Int.toNat_natCast, e1, ← hlen, List.drop_left, List.take_left, List.drop_zero, innT, put_row l hl n hn l.length (Nat.le_refl _), mask_next]
      exact ih

theorem nth_le_t {l : List Nat} (h : ∀ x ∈ l, x ≤ 15) (i : Nat) : nth l i ≤ 15 := by
  have := nth_lt (B := 16) (fun x hx => by have := h x hx; omega) (by omega) i
  omega
theorem mask_all {l : List Nat} (h15 : ∀ x ∈ l, x ≤ 15) : maskL l 16 0 = l := by
  apply list_nth
  · rw [maskL_length]
  · intro i hi
    rw [maskL_length] at hi
    rw [maskL_nth l _ _ i hi]
    have := nth_le_t h15 i
    rw [if_pos (by omega)]
theorem mask_none (l : List Nat) : maskL l 0 0 = List.replicate l.length 0 := by
  apply list_nth
  · rw [maskL_length, List.length_replicate]
  · intro i hi
    rw [maskL_length] at hi
    rw [maskL_nth l _ _ i hi, if_neg (by omega)]
    simp [nth, hi]

theorem eqF_refl (n : Nat) (f : Nat → Int) : eqF n f f = true := eqF_iff.2 fun _ _ => rfl
theorem sameT_refl (f : Nat → Int) (xs : List Int) : sameT f f xs xs = true := by unfold sameT; rw [eqF_refl]; simp
theorem sameT_iff {f g : Nat → Int} {xs ys : List Int} : sameT f g xs ys = true ↔ (∀ i, i < 16 → f i = g i) ∧ xs = ys := by
  unfold sameT; rw [Bool.and_eq_true, eqF_iff]; simp

/-- What is read is what it was grown of. -/
theorem chk_some {f : Nat → Int} {xs : List Int} {l : List Nat} (h : chkT f xs = some l) : canE l 15 = 0 ∧ (∀ i, i < 16 → f i = cntS (allP l 16) i) ∧ xs = symS (allP l 16) := by
  unfold chkT at h
  split at h
  · cases h
  · split at h
    · cases h
    · rename_i o r _
      unfold endT at h
      split at h
      · rename_i hc
        injection h with h
        subst h
        obtain ⟨h1, h2⟩ := sameT_iff.1 hc.2.2
        exact ⟨hc.1, fun i hi => (h1 i hi).symm, h2.symm⟩
      · cases h

/-- Each symbol that has a length stands once. -/
def totP (l : List Nat) (j : Nat) : Nat → Nat
  | 0 => 0
  | n + 1 => totP l j n + if n = 0 then 0 else (rowP l n j).length
theorem totP_succ (l : List Nat) (j n : Nat) : totP l (j + 1) n = totP l j n + if nth l j ≠ 0 ∧ nth l j < n then 1 else 0 := by
  induction n with
  | zero => simp [totP]
  | succ n ih =>
    rw [totP, totP, ih]
    by_cases hn : n = 0
    · subst hn; rw [if_pos rfl, if_pos rfl, if_neg (by omega), if_neg (by omega)]
    · rw [if_neg hn, if_neg hn, rowP, List.length_append]
      by_cases hj : nth l j = n
      · rw [if_pos hj, if_neg (by omega), if_pos ⟨by omega, by omega⟩]; simp; omega
      · rw [if_neg hj]
        by_cases hc : nth l j ≠ 0 ∧ nth l j < n
        · rw [if_pos hc, if_pos ⟨hc.1, by omega⟩]; simp; omega
        · rw [if_neg hc, if_neg (by omega)]; simp
theorem totP_le (l : List Nat) (n j : Nat) : totP l j n ≤ j := by
  induction j with
  | zero =>
    have : ∀ n, totP l 0 n = 0 := by
      intro n
      induction n with
      | zero => rfl
      | succ n ih => rw [totP, ih]; simp [rowP]
    rw [this]; omega
  | succ j ih => rw [totP_succ]; split <;> omega
theorem allP_length (l : List Nat) (n : Nat) : (allP l n).length = totP l l.length n := by
  induction n with
  | zero => rfl
  | succ n ih => rw [allP, totP, List.length_append, ih]; split <;> simp
theorem allP_le (l : List Nat) (n : Nat) : (allP l n).length ≤ l.length := by rw [allP_length]; exact totP_le l n _
theorem symS_length (p : List (Nat × Nat)) : (symS p).length = p.length := by simp [symS]
theorem chk_len {f : Nat → Int} {xs : List Int} {l : List Nat} (h : chkT f xs = some l) : xs.length ≤ 320 := by
  unfold chkT at h
  split at h
  · cases h
  · omega

/-! ### Lengths, and the same with zeros behind them -/
def padL (l : List Nat) : List Nat := l ++ List.replicate (320 - l.length) 0
theorem padL_length {l : List Nat} (h : l.length ≤ 320) : (padL l).length = 320 := by simp [padL]; omega
theorem padL_nth (l : List Nat) (i : Nat) : nth (padL l) i = nth l i := by
  unfold nth padL
  rw [List.getElem?_append]
  split
  · rfl
  · rename_i h
    rw [List.getElem?_replicate, List.getElem?_eq_none (by omega)]
    split <;> rfl
theorem rowP_pad (l m : List Nat) (n j : Nat) (h : ∀ i, nth m i = nth l i) : rowP m n j = rowP l n j := by
  induction j with
  | zero => rfl
  | succ j ih => rw [rowP, rowP, ih, h]
theorem rowP_far (l : List Nat) (n j k : Nat) (hn : n ≠ 0) (h : l.length ≤ j) : rowP l n (j + k) = rowP l n j := by
  induction k with
  | zero => rfl
  | succ k ih =>
    have h0 : nth l (j + k) = 0 := by simp [nth, List.getElem?_eq_none (show l.length ≤ j + k by omega)]
    rw [show j + (k + 1) = (j + k) + 1 by omega, rowP, ih, if_neg (by omega), List.append_nil]
theorem allP_pad {l : List Nat} (hl : l.length ≤ 320) (n : Nat) : allP (padL l) n = allP l n := by
  induction n with
  | zero => rfl
  | succ n ih =>
    rw [allP, allP, ih]
    by_cases hn : n = 0
    · rw [if_pos hn, if_pos hn]
    · rw [if_neg hn, if_neg hn, padL_length hl, rowP_pad l (padL l) n 320 (padL_nth l), show 320 = l.length + (320 - l.length) by omega, rowP_far l n l.length _ hn (Nat.le_refl _)]
theorem kraft_append (a b : List Nat) : kraft (a ++ b) = kraft a + kraft b := by simp [kraft]
theorem kraft_zeros (n : Nat) : kraft (List.replicate n 0) = 0 := by simp [kraft]
theorem used_append (a b : List Nat) : used (a ++ b) = used a + used b := by simp [used]
theorem used_zeros (n : Nat) : used (List.replicate n 0) = 0 := by simp [used]
theorem kraft_pad (l : List Nat) : kraft (padL l) = kraft l := by rw [padL, kraft_append, kraft_zeros]; omega
theorem used_pad (l : List Nat) : used (padL l) = used l := by rw [padL, used_append, used_zeros]; omega
theorem padL_mem {l : List Nat} {B : Nat} (h : ∀ x ∈ l, x ≤ B) : ∀ x ∈ padL l, x ≤ B := by
  intro x hx
  rw [padL, List.mem_append] at hx
  rcases hx with hx | hx
  · exact h x hx
  · rw [(List.mem_replicate.1 hx).2]; omega
theorem canE_15 {l : List Nat} {m : Int} (h : canE l m = 0) : canE (padL l) 15 = 0 := by
  obtain ⟨h1, h2, h3, h4, h5, h6⟩ := canE_ok h
  unfold canE
  rw [if_neg (by omega), padL_length h3, if_neg (by omega), if_pos, kraft_pad, used_pad, if_neg (by omega), if_pos h6]
  rw [List.all_eq_true]
  intro x hx
  have := padL_mem (B := 15) (fun x hx => by have := h4 x hx; omega) x hx
  exact decide_eq_true (by omega)

/-- Grown trees are read back. -/
theorem chk_grown {l : List Nat} {m : Int} (h : canE l m = 0) : chkT (cntS (allP l 16)) (symS (allP l 16)) = some (padL l) := by
  obtain ⟨h1, h2, h3, h4, h5, h6⟩ := canE_ok h
  have hl : (padL l).length = 320 := padL_length h3
  have h15 : ∀ x ∈ padL l, x ≤ 15 := padL_mem (fun x hx => by have := h4 x hx; omega)
  have hg := rows_grown (padL l) (by omega) 16 0 rfl
  have e1 : sufP (padL l) 16 0 = allP (padL l) 16 := by
    have := allP_suf (padL l) 16 0
    simpa [allP] using this.symm
  rw [e1, mask_none, hl, mask_all h15, allP_pad h3] at hg
  have hle := allP_le l 16
  unfold chkT
  rw [if_neg (by rw [symS_length]; omega), hg]
  show endT _ _ _ _ = _
  unfold endT
  rw [allP_pad h3, if_pos ⟨canE_15 h, rfl, sameT_refl _ _⟩]
end Go.Proofs.YtahboomghjdjhaaGreat

/-
  Plain: a symbol read by codes, bit by bit; and by counts.
-/
namespace Go.Proofs.YtahboomghjdjhaaGreat

/-- Is symbol i's code of length n just v? Is it longer, and begins with v? -/
def hitB (l : List Nat) (n v i : Nat) : Bool := decide (nth l i = n ∧ (codeAt l i).1 = v ∧ 0 < n)
def moreB (l : List Nat) (n v i : Nat) : Bool := decide (n < nth l i ∧ (codeAt l i).1 / 2 ^ (nth l i - n) = v)
def moreN (l : List Nat) (n v j : Nat) : Bool := (List.range j).any (moreB l n v)
def hitF (l : List Nat) (n v : Nat) : Option Nat := (List.range l.length).find? (hitB l n v)
/-- The symbol, the place behind it, and the error: n bits, v, were read. -/
def rdT (l b : List Nat) : Nat → Nat → Nat → Nat → Nat × Nat × Nat
  | 0, _, _, _ => (0, 0, 50)
  | k + 1, n, v, a => match hitF l n v with
    | some i => (i, a, 0)
    | none => if moreN l n v l.length then if a < 8 * b.length then rdT l b k (n + 1) (2 * v + bitOf b a) (a + 1) else (0, 0, 10) else (0, 0, 50)

section
variable {l b : List Nat} {k n v a i j : Nat}
theorem rd_hit (h : hitF l n v = some i) : rdT l b (k + 1) n v a = (i, a, 0) := by rw [rdT, h]
theorem rd_code (h : hitF l n v = none) (hm : moreN l n v l.length = false) : rdT l b (k + 1) n v a = (0, 0, 50) := by rw [rdT, h]; simp [hm]
theorem rd_end (h : hitF l n v = none) (hm : moreN l n v l.length = true) (ha : 8 * b.length ≤ a) : rdT l b (k + 1) n v a = (0, 0, 10) := by rw [rdT, h]; simp [hm]; omega
theorem rd_go (h : hitF l n v = none) (hm : moreN l n v l.length = true) (ha : a < 8 * b.length) : rdT l b (k + 1) n v a = rdT l b k (n + 1) (2 * v + bitOf b a) (a + 1) := by rw [rdT, h]; simp [hm, ha]
theorem moreN_succ : moreN l n v (j + 1) = (moreN l n v j || moreB l n v j) := by simp [moreN, List.range_succ, List.any_append]
theorem moreN_iff : moreN l n v j = true ↔ ∃ i, i < j ∧ moreB l n v i = true := by
  unfold moreN; rw [List.any_eq_true]
  exact ⟨fun ⟨x, h1, h2⟩ => ⟨x, List.mem_range.1 h1, h2⟩, fun ⟨x, h1, h2⟩ => ⟨x, List.mem_range.2 h1, h2⟩⟩
theorem hitF_none (h : ∀ i, i < l.length → hitB l n v i = false) : hitF l n v = none := by
  unfold hitF; rw [List.find?_eq_none]; intro x hx; rw [h x (List.mem_range.1 hx)]; simp
theorem find_range (p : Nat → Bool) : ∀ (m i : Nat), i < m → p i = true → (∀ k, k < i → p k = false) → (List.range m).find? p = some i
  | 0, i, h, _, _ => by omega
  | m + 1, i, h, hp, hn => by
    rw [List.range_succ, List.find?_append]
    rcases Nat.lt_or_ge i m with h1 | h1
    · rw [find_range p m i h1 hp hn]; rfl
    · obtain rfl : i = m := by omega
      rw [List.find?_eq_none.2 (fun x hx => by rw [hn x (List.mem_range.1 hx)]; simp)]
      simp [hp]
theorem hitF_some (hi : i < l.length) (hh : hitB l n v i = true) (hn : ∀ k, k < i → hitB l n v k = false) : hitF l n v = some i := find_range _ _ _ hi hh hn
theorem more_lt (h15 : ∀ x ∈ l, x ≤ 15) (hm : moreN l n v j = true) : n < 15 := by
  obtain ⟨i, _, h⟩ := moreN_iff.1 hm
  have := of_decide_eq_true h
  have := nth_le_t h15 i
  omega
theorem take_bit (l : List Nat) (a : Nat) (h : a < 8 * l.length) : takeE l (a : Int) 1 = 0 ∧ takeV l (a : Int) 1 = bitOf l a := by
  have h0 : takeE l (a : Int) 1 = 0 := by unfold takeE; rw [if_neg (by omega), if_neg (by omega)]
  refine ⟨h0, ?_⟩
  unfold takeV
  rw [if_pos h0]
  simp [numOf]
theorem take_none (l : List Nat) (a : Nat) (h : 8 * l.length ≤ a) : takeE l (a : Int) 1 = 10 ∧ takeV l (a : Int) 1 = 0 := by
  have h0 : takeE l (a : Int) 1 = 10 := by unfold takeE; rw [if_neg (by omega), if_pos (by omega)]
  exact ⟨h0, by unfold takeV; rw [if_neg (by omega)]⟩
end

/-! ### By counts -/
/-- How many codes are shorter than n. -/
def plF (c : Nat → Nat) : Nat → Nat
  | 0 => 0
  | n + 1 => plF c n + c n
theorem plF_mono (c : Nat → Nat) {a b : Nat} (h : a ≤ b) : plF c a ≤ plF c b := by
  induction h with
  | refl => exact Nat.le_refl _
  | step _ ih => exact Nat.le_trans ih (Nat.le_add_right _ _)
theorem row_len (l : List Nat) (n j : Nat) (hn : n ≠ 0) (hj : j ≤ l.length) : (rowP l n j).length = cnt (l.take j) n := by
  induction j with
  | zero => simp [rowP, cnt]
  | succ j ih =>
    rw [rowP, List.length_append, ih (by omega), take_snoc l j (by omega), cnt_snoc]
    by_cases h : nth l j = n
    · rw [if_pos h, if_pos ⟨hn, h.symm⟩]; rfl
    · rw [if_neg h, if_neg (fun e => h e.2.symm)]; rfl
theorem all_len (l : List Nat) (n : Nat) : (allP l n).length = plF (cnt l) n := by
  induction n with
  | zero => rfl
  | succ n ih =>
    rw [allP, List.length_append, ih, plF]
    by_cases h : n = 0
    · subst h; rw [if_pos rfl, cnt_0]; rfl
    · rw [if_neg h, row_len l n _ h (Nat.le_refl _), List.take_length]
theorem cntS_cnt (l : List Nat) (n : Nat) (hn : n < 16) : cntS (allP l 16) n = (cnt l n : Nat) := by
  rw [cntS_all]
  by_cases h : n = 0
  · subst h; rw [if_neg (by omega), cnt_0]; rfl
  · rw [if_pos ⟨hn, h⟩, row_len l n _ h (Nat.le_refl _), List.take_length]
theorem row_get (l : List Nat) (n i : Nat) (hn : n ≠ 0) (hi : nth l i = n) : ∀ j, i < j → j ≤ l.length → (rowP l n j)[cnt (l.take i) n]? = some (n, i)
  | 0, h, _ => by omega
  | j + 1, h, hj => by
    rw [rowP]
    rcases Nat.lt_or_ge i j with h1 | h1
    · have ih := row_get l n i hn hi j h1 (by omega)
      rw [List.getElem?_append_left (by
        rcases Nat.lt_or_ge (cnt (l.take i) n) (rowP l n j).length with h2 | h2
        · exact h2
        · rw [List.getElem?_eq_none h2] at ih; cases ih), ih]
    · obtain rfl : i = j := by omega
      rw [if_pos hi, List.getElem?_append_right (by rw [row_len l n i hn (by omega)]; exact Nat.le_refl _), row_len l n i hn (by omega), Nat.sub_self]; rfl
/-- The symbol at a place of the tree's. -/
theorem sym_get (l : List Nat) (n i : Nat) (hn : n ≠ 0) (h16 : n < 16) (hl : i < l.length) (hi : nth l i = n) : nthI (symS (allP l 16)) (plF (cnt l) n + cnt (l.take i) n) = (i : Int) ∧ plF (cnt l) n + cnt (l.take i) n < (allP l 16).length := by
  have h1 := allP_suf l (16 - n) n
  rw [show n + (16 - n) = 16 by omega, show 16 - n = (15 - n) + 1 by omega, sufP, if_neg hn] at h1
  have h2 := row_get l n i hn hi l.length hl (Nat.le_refl _)
  have h3 : cnt (l.take i) n < (rowP l n l.length).length := by
    rcases Nat.lt_or_ge (cnt (l.take i) n) (rowP l n l.length).length with h | h
    · exact h
    · rw [List.getElem?_eq_none h] at h2; cases h2
  constructor
  · unfold nthI symS
    rw [List.getElem?_map, h1, List.getElem?_append_right (by rw [all_len]; omega), all_len, Nat.add_sub_cancel_left, List.getElem?_append_left h3, h2]
    rfl
  · rw [h1]; simp only [List.length_append, all_len]; omega

section
variable {l : List Nat} (hc : canE l 15 = 0)
include hc in
theorem can15 : ∀ x ∈ l, x ≤ 15 := by
  obtain ⟨h1, h2, h3, h4, h5, h6⟩ := canE_ok hc
  intro x hx; have := h4 x hx; omega
/-- No code of n bits, or fewer, is v: then none of the length n is. -/
theorem no_hit {n v : Nat} (hv : frF (cnt l) n + cnt l n ≤ v) : hitF l n v = none := by
  refine hitF_none fun i hi => ?_
  unfold hitB
  refine decide_eq_false fun ⟨h1, h2, h3⟩ => ?_
  have hu := cnt_up (l := l) (i := i) (k := l.length) hi (Nat.le_refl _) h1 (by omega)
  rw [List.take_length] at hu
  unfold codeAt at h2
  rw [if_neg (by omega), h1] at h2
  simp only at h2
  omega
theorem is_hit {n v : Nat} (hn : n ≠ 0) (h16 : n < 16) (h1 : frF (cnt l) n ≤ v) (h2 : v < frF (cnt l) n + cnt l n) :
    ∃ i, i < l.length ∧ hitF l n v = some i ∧ nthI (symS (allP l 16)) (plF (cnt l) n + (v - frF (cnt l) n)) = (i : Int) ∧ plF (cnt l) n + (v - frF (cnt l) n) < (allP l 16).length := by
  obtain ⟨i, hi, g1, g2⟩ := find_cnt (l := l) n hn l.length (v - frF (cnt l) n) (Nat.le_refl _) (by rw [List.take_length]; omega)
  refine ⟨i, hi, hitF_some hi ?_ ?_, ?_⟩
  · unfold hitB
    refine decide_eq_true ⟨g1, ?_, by omega⟩
    unfold codeAt
    rw [if_neg (by omega), g1, g2]
    show _ = v
    omega
  · intro k hk
    unfold hitB
    refine decide_eq_false fun ⟨e1, e2, e3⟩ => ?_
    have hu := cnt_up (l := l) hk (by omega) e1 hn
    unfold codeAt at e2
    rw [if_neg (by omega), e1] at e2
    simp only at e2
    omega
  · rw [← g2]; exact sym_get l n i hn h16 hi g1
theorem fr_next {n v x : Nat} (hv : frF (cnt l) n + cnt l n ≤ v) : frF (cnt l) (n + 1) ≤ 2 * v + x := by
  show (frF (cnt l) n + cnt l n) * 2 ≤ _
  omega
include hc in
/-- More is to come just where there are longer codes. -/
theorem more_is {n v : Nat} (hn : n ≤ 15) (hv : frF (cnt l) n + cnt l n ≤ v) (hlt : v < 2 ^ n) (h1 : n ≠ 0 ∨ v = 0) : moreN l n v l.length = true ↔ plF (cnt l) (n + 1) ≠ (allP l 16).length := by
  obtain ⟨c1, c2, c3, c4, c5, c6⟩ := canE_ok hc
  have h15 := can15 hc
  rw [all_len]
  constructor
  · intro hm
    obtain ⟨i, hi, hb⟩ := moreN_iff.1 hm
    obtain ⟨h2, h3⟩ := of_decide_eq_true hb
    have hm15 := nth_le_t h15 i
    have hu := cnt_up (l := l) (i := i) (k := l.length) hi (Nat.le_refl _) rfl (by omega)
    rw [List.take_length] at hu
    have e1 : plF (cnt l) (nth l i + 1) = plF (cnt l) (nth l i) + cnt l (nth l i) := rfl
    have e2 := plF_mono (cnt l) (show n + 1 ≤ nth l i by omega)
    have e3 := plF_mono (cnt l) (show nth l i + 1 ≤ 16 by omega)
    omega
  · intro hp
    have hp2 := plF_mono (cnt l) (show n + 1 ≤ 16 by omega)
    have hpl := Nat.lt_of_le_of_ne hp2 hp
    -- a longer code
    have hex : ∃ i, i < l.length ∧ n < nth l i := by
      have : ∀ m, n + 1 ≤ m → m ≤ 16 → plF (cnt l) (n + 1) < plF (cnt l) m → ∃ i, i < l.length ∧ n < nth l i := by
        intro m h1 h2 h3
        induction h1 with
        | refl => omega
        | @step m h1 ih =>
          have h1' : n + 1 ≤ m := h1
          rcases Nat.lt_or_ge (plF (cnt l) (n + 1)) (plF (cnt l) m) with h4 | h4
          · exact ih (by omega) h4
          · have e : plF (cnt l) m.succ = plF (cnt l) m + cnt l m := rfl
            obtain ⟨i, hi, g1, _⟩ := find_cnt (l := l) m (by omega) l.length 0 (Nat.le_refl _) (by rw [List.take_length]; omega)
            exact ⟨i, hi, by omega⟩
      exact this 16 (by omega) (Nat.le_refl _) hpl
    obtain ⟨i0, hi0, hn0⟩ := hex
    rw [moreN_iff]
    by_cases hz : n = 0
    · subst hz
      have hv0 : v = 0 := by omega
      subst hv0
      refine ⟨i0, hi0, ?_⟩
      unfold moreB
      refine decide_eq_true ⟨hn0, ?_⟩
      have := code_fits (l := l) h15 c5 hi0
      rw [Nat.sub_zero, Nat.div_eq_of_lt this]
    · have hk : kraft l = 32768 := by
        rcases c6 with c6 | c6 | ⟨c6, c7⟩
        · exact c6
        · have : used l ≠ 0 := by
            unfold used
            intro h
            have h2 := List.eq_nil_of_length_eq_zero h
            rw [List.filter_eq_nil_iff] at h2
            have := h2 l[i0] (List.getElem_mem hi0)
            have e : nth l i0 = l[i0] := by simp [nth, List.getElem?_eq_getElem hi0]
            simp at this
            omega
          exact absurd c6 this
        · -- one code, of one bit
          exfalso
          have h2 := S0_top h15 c5 hi0 (by omega)
          have hat : atF (cnt l) (n + 1) ≤ atF (cnt l) (nth l i0) := atF_mono _ (by omega)
          have h16 : atF (cnt l) (nth l i0 + 1) ≤ atF (cnt l) 16 := atF_mono _ (by have := nth_le_t h15 i0; omega)
          rw [← kraft_at l h15, c7] at h16
          have e1 : atF (cnt l) (nth l i0 + 1) = atF (cnt l) (nth l i0) + cnt l (nth l i0) * pw (nth l i0) := rfl
          have hu := cnt_up (l := l) (i := i0) (k := l.length) hi0 (Nat.le_refl _) rfl (by omega)
          rw [List.take_length] at hu
          -- all but one are 0, and that one is pw
          have key : ∀ (l : List Nat), used l = 1 → ∀ i, i < l.length → nth l i ≠ 0 → kraft l = pw (nth l i) := by
            intro l
            induction l with
            | nil => intro h; simp [used] at h
            | cons x l ih =>
              intro h i hi h0
              have ek : kraft (x :: l) = (if x = 0 then 0 else pw x) + kraft l := by simp [kraft]
              by_cases hx : x = 0
              · subst hx
                have hu : used l = 1 := by simpa [used] using h
                cases i with
                | zero => simp [nth] at h0
                | succ i =>
                  have := ih hu i (by simpa using hi) (by simpa [nth] using h0)
                  rw [ek, if_pos rfl, this]; simp [nth]
              · have hu : used l = 0 := by
                  have : used (x :: l) = used l + 1 := by
                    unfold used
                    rw [List.filter_cons, if_pos (by simp; omega), List.length_cons]
                  omega
                have hz : ∀ y ∈ l, y = 0 := by
                  intro y hy
                  unfold used at hu
                  have h2 := List.eq_nil_of_length_eq_zero hu
                  rw [List.filter_eq_nil_iff] at h2
                  have := h2 y hy
                  simpa using this
                cases i with
                | zero =>
                  have : kraft l = 0 := by rw [List.eq_replicate_of_mem hz, kraft_zeros]
                  rw [ek, if_neg hx, this]; simp [nth]
                | succ i =>
                  have hi' : i < l.length := by simpa using hi
                  have := hz l[i] (List.getElem_mem hi')
                  simp [nth, List.getElem?_eq_getElem hi', this] at h0
          have := key l c6 i0 hi0 (by omega)
          rw [c7] at this
          have h3 : pw (nth l i0) ≤ 8192 := Nat.pow_le_pow_right (n := 2) (by omega) (show 15 - nth l i0 ≤ 13 by omega)
          omega
      have hpn := pw_split (n := n) hn
      have hpp := pw_pos n
      have hrow : v * pw n < kraft l := by
        rw [hk, ← hpn]
        exact Nat.mul_lt_mul_of_pos_right hlt hpp
      obtain ⟨i, hi, hb⟩ := cover h15 hrow
      have hb1 := beg_in (l := l) (i := i) (b := (v * pw n, 15)) (Nat.le_refl _) hb
      have e15 : pw 15 = 1 := rfl
      simp only [e15, Nat.mul_one] at hb1
      obtain ⟨b1, b2, b3⟩ := of_decide_eq_true hb
      rw [code_two] at b1 b2
      simp only [code_two] at b3
      refine ⟨i, hi, ?_⟩
      have hgt : n < nth l i := by
        rcases Nat.lt_or_ge n (nth l i) with h | h
        · exact h
        · exfalso
          have e1 : atF (cnt l) (nth l i + 1) = atF (cnt l) (nth l i) + cnt l (nth l i) * pw (nth l i) := rfl
          have e2 := S0_eq h15 (l := l) (i := i) (by omega)
          have hu := cnt_up (l := l) (i := i) (k := l.length) hi (Nat.le_refl _) rfl (by omega)
          rw [List.take_length] at hu
          have e3 := Nat.mul_le_mul_right (pw (nth l i)) hu
          rw [Nat.add_mul, Nat.one_mul] at e3
          have e4 : atF (cnt l) (nth l i + 1) ≤ atF (cnt l) (n + 1) := atF_mono _ (by omega)
          have e5 : atF (cnt l) (n + 1) = (frF (cnt l) n + cnt l n) * pw n := by
            show atF (cnt l) n + cnt l n * pw n = _
            rw [Nat.add_mul, fr_at (cnt l) (cnt_0 l) n hn]
          have e6 := Nat.mul_le_mul_right (pw n) hv
          omega
      unfold moreB
      refine decide_eq_true ⟨hgt, ?_⟩
      have hm15 := nth_le_t h15 i
      have hsp : pw n = 2 ^ (nth l i - n) * pw (nth l i) := (pw_split2 (by omega) hm15).symm
      rw [← b3, Nat.div_div_eq_div_mul, ← Nat.pow_add, show 15 - nth l i + (nth l i - n) = 15 - n by omega]
      show v * pw n / 2 ^ (15 - n) = v
      exact Nat.mul_div_cancel _ hpp
end
end Go.Proofs.YtahboomghjdjhaaGreat

/-
  Walks: tree.Check.
-/
namespace Go.Proofs.YtahboomghjdjhaaGreat
open Go.RowKit

theorem size_int' : (Tryz.prog.info? 3).map (·.size) = some 1 := by kernel_rfl
theorem u8s_setT (o : List Nat) (i x : Nat) : (u8s o).set i (.int .u8 (x : Int)) = u8s (o.set i x) := by simp [u8s, List.map_set]
/-- A row loaded under a guard that holds. -/
theorem load_arrG {P : Program} {ops : Array Oper} {rest : List Oper} {o : Oper} {a : Act} {w : World} {Q : Exit → Act → World → Prop} (hw : Region.wanted o (yielded ops a.tmps) = true) (ty : TypeId) (x : Operand) (ho : o.op = .load ty x)
    {g : Nat} (hx : a.eval x = .pointer (some ⟨g, 0, none⟩)) {t : TypeId} {n : Nat} {f : Nat → Value} {d : TypeDesc} (hA : Arr w g t n f)
    (hu : P.underlying ty = some d) (hd : (match d with | .struct _ | .array _ _ => true | _ => false) = true) (hi : (P.info? ty).map (·.size) = some n)
    (h : wpList P ops Q rest (a.put o.dst (.agg (cellsOf n f))) w) : wpList P ops Q (o :: rest) a w :=
  BigFrame.wpList_want hw fun _ hK => wp_load_row ty x ho g hx t (cellsOf n f) (0, 0) d hA hu hd (by rw [hi, cellsOf_size]) (hK _ _ h)

theorem made_u8s (n : Nat) : (madeCells (Value.int .u8 0).cells (n * 1)).toList = u8s (List.replicate n 0) := by rw [Nat.mul_one, made_zeros _ rfl, zeros_list, u8s_zeros]
theorem index_cnt {ops : Array Oper} {rest : List Oper} {o : Oper} {a : Act} {w : World} {Q : Exit → Act → World → Prop} (hgd : o.guard = none) (x i : Operand) (ho : o.op = .index 23 x i) {f : Nat → Int}
    (hx : a.eval x = .agg (cellsOf 16 (cI f))) {z : Int} (hi : a.eval i = .int .i64 z) (k : Nat) (hk : z = (k : Int)) (hkn : k < 16) (q : Int) (hq : f k = q)
    (h : wpList Tryz.prog ops Q rest (a.put o.dst (.int .i64 q)) w) : wpList Tryz.prog ops Q (o :: rest) a w := by
  subst hq
  exact index_cells hgd x i ho Tryz.underlying23 Tryz.underlying3 rfl size_int' hx hi k hk hkn h
theorem Rd.int {w : World} {A : Option Addr} {l : List Int} (h : Rd w A (ints l)) {i : Nat} (hi : i < l.length) : ∃ b off, A = some ⟨b, off, none⟩ ∧ w.cell? ⟨b, off + i, none⟩ = some (.int .i64 (nthI l i)) := by
  obtain ⟨b, off, hA, hc⟩ := h.at_ (by rw [ints_length]; omega)
  exact ⟨b, off, hA, hc i _ (ints_get l i hi)⟩
theorem mem_set_le {o : List Nat} {B i x : Nat} (h : ∀ y ∈ o, y ≤ B) (hx : x ≤ B) : ∀ y ∈ o.set i x, y ≤ B := by
  intro y hy
  rcases List.mem_or_eq_of_mem_set hy with hy | rfl
  · exact h y hy
  · exact hx
def chkE (f : Nat → Int) (xs : List Int) : Nat := if (chkT f xs).isSome then 0 else 8
theorem chkE_none {f : Nat → Int} {xs : List Int} (h : chkT f xs = none) : chkE f xs = 8 := by unfold chkE; rw [h]; rfl
theorem chk_many {f : Nat → Int} {xs : List Int} (h : 320 < xs.length) : chkT f xs = none := by unfold chkT; rw [if_pos h]
theorem chk_rows {f : Nat → Int} {xs : List Int} (h : xs.length ≤ 320) (hr : rowsT f 16 0 xs (List.replicate 320 0) = none) : chkT f xs = none := by unfold chkT; rw [if_neg (by omega), hr]
theorem chk_end {f : Nat → Int} {xs r : List Int} {o : List Nat} (h : xs.length ≤ 320) (hr : rowsT f 16 0 xs (List.replicate 320 0) = some (o, r)) : chkT f xs = endT f xs o r := by unfold chkT; rw [if_neg (by omega), hr]
def ChkRes (w w' : World) (e : Ending) (f : Nat → Int) (xs : List Int) : Prop := e = .returned (.int .i64 (chkE f xs : Nat)) ∧ Below w.heap.size w w'
theorem ChkRes.mk' {w w' : World} {e : Ending} {f : Nat → Int} {xs : List Int} {E : Nat} (h : chkE f xs = E) (he : e = .returned (.int .i64 (E : Int))) (hb : Below w.heap.size w w') : ChkRes w w' e f xs := ⟨by rw [he, h], hb⟩

set_option maxRecDepth 100000 in
set_option maxHeartbeats 4000000 in
theorem trcheck_any (f : Nat → Int) (A : Option Addr) (n c : Nat) (xs : List Int) (w : World) (hx : Rd w A (ints xs)) (hn : n = xs.length) (hc : n ≤ c) (hn1 : n ≤ 1001) :
    Calls Tryz.prog 40 #[treeV f A n c] w fun e w' => ChkRes w w' e f xs := by
  unfold treeV
  have HB : ∀ o, Below w.heap.size w (w.alloc o) := fun o => (Below.refl _ _).alloc (Nat.le_refl _) _
  have ka : Arr (w.alloc (.cells (cellsOf 17 (treeH f (.slice A n c))) 26)) w.heap.size 26 17 (treeH f (.slice A n c)) := Blk.new _ _ _
  have ca := Arr.cell ka 16 (by omega)
  rw [treeH_16] at ca
  have hb := HB (.cells (cellsOf 17 (treeH f (.slice A n c))) 26)
  have HN := Lib.hid hn
  clear HB hn
  by_cases hl : 320 < n
  · have hE := Lib.hid (chkE_none (chk_many (f := f) (xs := xs) (by rw [← HN.out]; exact hl)))
    go_enter Tryz.func40, Tryz.ntmps40
    go_wp2_with fail
    go_ret
    exact ChkRes.mk' hE.out rfl hb
  · obtain ⟨R, hR⟩ : ∃ R, rowsT f 16 0 xs (List.replicate 320 0) = R := ⟨_, rfl⟩
    have HR := Lib.hid hR
    clear hR
    have hl' : n ≤ 320 := by omega
    have hl2 : ¬ (320 : Int) < n := by omega
    clear hl
    go_enter Tryz.func40, Tryz.ntmps40
    go_upto_region 1 with (fail)
    change Code.wp _ _ _ _ (w.alloc (.cells (cellsOf 17 (treeH f (.slice A n c))) 26))
    generalize w.alloc (.cells (cellsOf 17 (treeH f (.slice A n c))) 26) = W1 at *
    go_wp2_with (first
      | (refine makes elem_u8 (z := .int .u8 0) (by kernel_rfl) rfl (.const (.int .i64 320)) (.const (.int .i64 320)) rfl 320 rfl rfl rfl (by omega) (by omega) (u8s (List.replicate 320 0)) (made_u8s 320) ?_; intro W2 hO; have ka2 := Arr.below ka hO.1 (Blk.lt ka); have hb2 := hb.trans (hO.1.mono hb.size); have ca2 := (Arr.cell ka2 16 (by omega)).trans (congrArg some treeH_16))
      | (refine load_cnt rfl (.tmp 18) rfl rfl ka2 ?_))
    have hO2 := hO.rebase hb
    clear hO ka ca hb ca2
    go_loopg [4, 20] 16 (fun gk v4 v20 wr => ∃ (k : Nat) (A' : Option Addr) (c' ny : Nat) (ys : List Int) (o : List Nat), k ≤ 16 ∧ gk = 16 - k ∧ v20 = .int .i64 (k : Int) ∧ v4 = .slice A' ny c' ∧ ny = ys.length ∧ ny ≤ n ∧ ny ≤ c' ∧ Rd w A' (ints ys) ∧
      Builds w wr 5 1 (some ⟨W1.heap.size, 0, none⟩) 320 320 (u8s o) ∧ o.length = 320 ∧ (∀ x ∈ o, x ≤ 15) ∧ Arr wr w.heap.size 26 17 (treeH f (.slice A n c)) ∧ rowsT f (16 - k) k ys o = R)
    case atStart => exact ⟨0, A, c, n, xs, _, by omega, rfl, rfl, rfl, HN.out, Nat.le_refl _, hc, hx, hO2, by simp, by simp, ka2, HR.out⟩
    case round =>
      clear hO2 ka2 hb2
      obtain ⟨k, A', c', ny, ys, o, hk, hgk, rfl, rfl, hny, hyn, hyc, hy, hO, ho, ho15, ka, hR⟩ := hrel
      have HY := Lib.hid hny
      have HO := Lib.hid (And.intro ho ho15)
      have HR2 := Lib.hid hR
      clear hny ho ho15 hR
      by_cases hlt : k < 16
      · obtain ⟨q, hq⟩ : ∃ q, f k = q := ⟨_, rfl⟩
        have HQ := Lib.hid hq
        by_cases h1 : q < 0
        · have hE := Lib.hid (chkE_none (chk_rows (f := f) (xs := xs) (by rw [← HN.out]; exact hl') (by rw [HR.out, ← HR2.out, show 16 - k = (15 - k) + 1 by omega, rows_bad (by left; rw [hq]; exact h1)])))
          clear hq
          go_wp2_with (refine index_cnt rfl (.tmp 19) (.tmp 20) rfl rfl rfl k rfl hlt q HQ.out ?_)
          go_ret
          exact ChkRes.mk' hE.out rfl hO.1
        · by_cases h2 : (ny : Int) < q
          · have hE := Lib.hid (chkE_none (chk_rows (f := f) (xs := xs) (by rw [← HN.out]; exact hl') (by rw [HR.out, ← HR2.out, show 16 - k = (15 - k) + 1 by omega, rows_bad (by right; left; rw [hq, ← HY.out]; exact h2)])))
            clear hq
            have h1' : decide (q < 0) = false := decide_eq_false h1
            go_wp2_with (refine index_cnt rfl (.tmp 19) (.tmp 20) rfl rfl rfl k rfl hlt q HQ.out ?_)
            go_ret
            exact ChkRes.mk' hE.out rfl hO.1
          · by_cases h3 : k = 0 ∧ 0 < q
            · have hE := Lib.hid (chkE_none (chk_rows (f := f) (xs := xs) (by rw [← HN.out]; exact hl') (by rw [HR.out, ← HR2.out, show 16 - k = (15 - k) + 1 by omega, rows_bad (by right; right; rw [hq]; exact h3)])))
              clear hq
              have h1' : decide (q < 0) = false := decide_eq_false h1
              have h2' : decide ((ny : Int) < q) = false := decide_eq_false h2
              obtain ⟨h3, h4⟩ := h3
              subst h3
              go_wp2_with (refine index_cnt rfl (.tmp 19) (.tmp 20) rfl rfl rfl 0 rfl hlt q HQ.out ?_)
              go_ret
              exact ChkRes.mk' hE.out rfl hO.1
            · have h1' : decide (q < 0) = false := decide_eq_false h1
              have h2' : decide ((ny : Int) < q) = false := decide_eq_false h2
              go_upto_region 8 with (refine index_cnt rfl (.tmp 19) (.tmp 20) rfl rfl rfl k rfl hlt q HQ.out ?_)
              have HR3 := Lib.hid (show innT f (15 - k) k (ys.drop q.toNat) ((ys.take q.toNat).drop 0) o = R by rw [← HR2.out, show 16 - k = (15 - k) + 1 by omega, rows_inn (by rw [hq, ← HY.out]; omega), hq])
              clear HR2 hq
              obtain ⟨m, rfl⟩ : ∃ m : Nat, q = (m : Int) := ⟨q.toNat, by omega⟩
              rw [Int.toNat_natCast] at HR3
              have hm : m ≤ ny := by omega
              have hkm : k = 0 → m = 0 := fun e => by omega
              go_cut [39] from 24 to 39 (fun v wx => v = .bool false ∧ wx = wr)
              case first =>
                by_cases hk0 : k = 0
                · obtain rfl := hkm hk0
                  subst hk0
                  go_wp2_with fail
                  go_meet
                  exact ⟨rfl, rfl⟩
                · have hkb : ((k : Int) == 0) = false := by rw [beq_eq_false_iff_ne]; omega
                  clear hkm
                  go_wp2_with fail
                  go_meet
                  exact ⟨rfl, rfl⟩
              case rest =>
                obtain ⟨rfl, rfl⟩ := hcut
                clear h1 h2 h3 h1' h2' hkm
                go_wp2_with fail
                obtain ⟨row, hrow⟩ : ∃ row, ys.take m = row := ⟨_, rfl⟩
                rw [hrow] at HR3
                have hrl : row.length = m := by rw [← hrow, List.length_take, ← HY.out]; omega
                have hyr := hy.take m
                rw [show (ints ys).take m = ints row by rw [← hrow]; simp [ints]] at hyr
                have HL := Lib.hid hrl
                have HG := Lib.hid hgk
                clear hrl hrow hgk
                go_loopg [44] m (fun gi v44 wr => ∃ (j : Nat) (o : List Nat), j ≤ m ∧ gi = m - j ∧ v44 = .int .i64 (j : Int) ∧
                  Builds w wr 5 1 (some ⟨W1.heap.size, 0, none⟩) 320 320 (u8s o) ∧ o.length = 320 ∧ (∀ x ∈ o, x ≤ 15) ∧ Arr wr w.heap.size 26 17 (treeH f (.slice A n c)) ∧ innT f (15 - k) k (ys.drop m) (row.drop j) o = R)
                case atStart => exact ⟨0, o, by omega, rfl, rfl, hO, HO.out.1, HO.out.2, ka, HR3.out⟩
                case round =>
                  clear hO ka HR3 HO
                  clear o
                  obtain ⟨j, o, hj, hgi, rfl, hO, ho, ho15, ka, hR⟩ := hrel
                  have HO := Lib.hid (And.intro ho ho15)
                  have HR3 := Lib.hid hR
                  clear ho ho15 hR
                  by_cases hjm : j < m
                  · obtain ⟨b, off, rfl, hcell⟩ := (hyr.below hO.1).int (i := j) (by rw [HL.out]; exact hjm)
                    obtain ⟨s, hs⟩ : ∃ s, nthI row j = s := ⟨_, rfl⟩
                    rw [hs] at hcell
                    have HS := Lib.hid hs
                    clear hs
                    by_cases h1 : s < 0
                    · have hE := Lib.hid (chkE_none (chk_rows (f := f) (xs := xs) (by rw [← HN.out]; exact hl') (by rw [HR.out, ← HR3.out, inn_bad (by rw [HL.out]; exact hjm) (by left; rw [HS.out]; exact h1)])))
                      go_wp2_with fail
                      go_ret
                      exact ChkRes.mk' hE.out rfl hO.1
                    · by_cases h2 : 320 ≤ s
                      · have hE := Lib.hid (chkE_none (chk_rows (f := f) (xs := xs) (by rw [← HN.out]; exact hl') (by rw [HR.out, ← HR3.out, inn_bad (by rw [HL.out]; exact hjm) (by right; left; rw [HS.out]; exact h2)])))
                        have h1' : decide (s < 0) = false := decide_eq_false h1
                        go_wp2_with fail
                        go_ret
                        exact ChkRes.mk' hE.out rfl hO.1
                      · have h1' : decide (s < 0) = false := decide_eq_false h1
                        obtain ⟨p, rfl⟩ : ∃ p : Nat, s = (p : Int) := ⟨s.toNat, by omega⟩
                        have hp : p < 320 := by omega
                        have h2' : decide ((320 : Int) ≤ (p : Int)) = false := decide_eq_false h2
                        have h3' : decide (320 ≤ p) = false := decide_eq_false (by omega)
                        clear h1 h2
                        have hco := hO.cell p (by omega)
                        rw [u8s_get o p (by rw [HO.out.1]; exact hp)] at hco
                        have hfo := hO.free p
                        have hx15 := nth_le_t HO.out.2 p
                        by_cases h0 : nth o p = 0
                        · rw [h0] at hco
                          have hO2 := hO.set p (by omega) (.int .u8 (k : Int))
                          rw [u8s_setT] at hO2
                          have HO2 := Lib.hid (And.intro (show (o.set p k).length = 320 by rw [List.length_set]; exact HO.out.1) (mem_set_le (i := p) HO.out.2 (show k ≤ 15 by omega)))
                          have hst := inn_step (f := f) (m := 15 - k) (n := k) (rest := ys.drop m) (row := row) (j := j) (o := o) (by rw [HL.out]; exact hjm) (by rw [HS.out, Int.toNat_natCast, h0]; omega)
                          rw [HS.out, Int.toNat_natCast] at hst
                          have HR4 := Lib.hid (hst.symm.trans HR3.out)
                          clear hst h0 hx15
                          have ka2 := Arr.far ka (p := ⟨W1.heap.size, p, none⟩) (fun e => own_blk_ne hO.2 ka (by decide) (by rw [e]; rfl)) (.int .u8 (k : Int))
                          go_wp2_with fail
                          go_roundg (m - (j + 1))
                          case measure => omega
                          case rel => exact ⟨j + 1, _, by omega, by omega, by go_num, hO2, HO2.out.1, HO2.out.2, ka2, HR4.out⟩
                        · have hE := Lib.hid (chkE_none (chk_rows (f := f) (xs := xs) (by rw [← HN.out]; exact hl') (by rw [HR.out, ← HR3.out, inn_bad (by rw [HL.out]; exact hjm) (by right; right; rw [HS.out, Int.toNat_natCast]; exact h0)])))
                          have h0' : 0 < nth o p := by omega
                          clear h0
                          generalize nth o p = x at *
                          go_wp2_with fail
                          go_ret
                          exact ChkRes.mk' hE.out rfl hO.1
                  · obtain rfl : j = m := by omega
                    have HR5 := Lib.hid (show rowsT f (15 - k) (k + 1) (ys.drop j) o = R by rw [← HR3.out, ← inn_end (row := row), HL.out])
                    clear HR3
                    go_wp2_with (refine tails rfl (.tmp 69) (.tmp 70) rfl Tryz.underlying24 size_int' rfl rfl j rfl hm hyc ?_; intro A2 hA2)
                    go_roundg (16 - (k + 1))
                    case measure => have := HG.out; omega
                    case rel => exact ⟨k + 1, A2, _, _, ys.drop j, o, by omega, by omega, by go_num, rfl, by rw [List.length_drop, ← HY.out], by omega, by omega, by have := hA2 w _ hy (by rw [ints_length, ← HY.out, Nat.mul_one]); rw [Nat.mul_one] at this; simpa [ints] using this, hO, HO.out.1, HO.out.2, ka, by rw [show 16 - (k + 1) = 15 - k by omega]; exact HR5.out⟩
      · obtain rfl : k = 16 := by omega
        have HE := Lib.hid (chk_end (f := f) (xs := xs) (by rw [← HN.out]; exact hl') (o := o) (r := ys) (by rw [HR.out, ← HR2.out]; rfl))
        have HGr := Lib.hid (show ∀ wx, Bs wx (some ⟨W1.heap.size, 0, none⟩) o → _ from fun wx hl => by have := grow_any (some ⟨W1.heap.size, 0, none⟩) 320 o 15 wx hl (by rw [HO.out.1]; omega) (by omega) (by omega); rw [HO.out.1] at this; exact this)
        have hbs : Bs wr (some ⟨W1.heap.size, 0, none⟩) o := rd_u8 hO.rd (fun x hx => by have := HO.out.2 x hx; omega)
        have hbw := hO.1
        clear HR2 hO
        by_cases hcan : canE o 15 = 0
        · simp only [hcan] at HGr
          by_cases hy0 : 0 < ny
          · have hE := Lib.hid (chkE_none (HE.out.trans (if_neg (fun h => by have := h.2.1; rw [HY.out, this] at hy0; simp at hy0))))
            clear HE hcan
            go_wp2_with (first
              | (go_at_call 57; refine (HGr.out _ hbs).mono ?_; rintro e W3 ⟨hb3, B, nn, d, f', xs', rfl, hown, rfl, rfl⟩; unfold treeV)
              | (refine store_new rfl 26 (.tmp 9) (.tmp 76) rfl _ _ rfl rfl rfl 26 _ (by rw [cellsOf_size]; exact tree_size) (by rw [cellsOf_size]; rfl) (cellsOf_one (fun k _ => treeH_one _ _ _ _ k)) ?_))
            go_ret
            exact ChkRes.mk' hE.out rfl ((hbw.trans (hb3.mono hbw.size)).alloc (Nat.le_trans hbw.size hb3.size) _)
          · obtain rfl : ny = 0 := by omega
            have hys : ys = [] := List.eq_nil_of_length_eq_zero HY.out.symm
            have hle := allP_le o 16
            rw [HO.out.1, ← symS_length] at hle
            have HSame := Lib.hid (fun wx B nn d (h1 : nn = (symS (allP o 16)).length) hg hxx => tsame_any (cntS (allP o 16)) f B A nn d n c (symS (allP o 16)) xs wx hg hxx h1 HN.out (by omega) hn1)
            obtain ⟨z, hz⟩ : ∃ z, sameT (cntS (allP o 16)) f (symS (allP o 16)) xs = z := ⟨_, rfl⟩
            rw [hz] at HSame
            unfold treeV at HSame
            have hE := Lib.hid (show chkE f xs = if z = true then 0 else 8 by unfold chkE; rw [HE.out]; unfold endT; rw [hz]; cases z <;> simp [hcan, hys])
            clear HE hcan hys hz hle
            cases z
            all_goals
              go_wp2_with (first
                | (go_at_call 57; refine (HGr.out _ hbs).mono ?_; rintro e W3 ⟨hb3, B, nn, d, f', xs', rfl, hown, rfl, rfl⟩; have hbx := hx.below (((hbw.trans (hb3.mono hbw.size))).alloc (Nat.le_trans hbw.size hb3.size) (.cells (cellsOf 17 (treeH (cntS (allP o 16)) (.slice B nn d))) 26)); have HGn := Lib.hid hown.1; have hgr := (own_rd hown).alloc (.cells (cellsOf 17 (treeH (cntS (allP o 16)) (.slice B nn d))) 26); have kx : Arr (W3.alloc (.cells (cellsOf 17 (treeH (cntS (allP o 16)) (.slice B nn d))) 26)) W3.heap.size 26 17 (treeH (cntS (allP o 16)) (.slice B nn d)) := Blk.new _ _ _; have kt := Arr.alloc (Arr.below ka hb3 (Blk.lt ka)) (.cells (cellsOf 17 (treeH (cntS (allP o 16)) (.slice B nn d))) 26); unfold treeV)
                | (refine store_new rfl 26 (.tmp 9) (.tmp 76) rfl _ _ rfl rfl rfl 26 _ (by rw [cellsOf_size]; exact tree_size) (by rw [cellsOf_size]; rfl) (cellsOf_one (fun k _ => treeH_one _ _ _ _ k)) ?_)
                | (refine load_arrG rfl 26 (.tmp 9) rfl rfl kx tree_under rfl tree_size ?_)
                | (refine load_arrG rfl 26 (.tmp 1) rfl rfl kt tree_under rfl tree_size ?_)
                | (go_at_call 39; refine (HSame.out _ _ _ _ (by have := HGn.out; rw [ints_length, Nat.mul_one] at this; exact this.symm) hgr hbx).mono ?_; rintro e W5 ⟨rfl, hb5⟩))
              go_ret
              exact ChkRes.mk' (hE.out.trans (by simp)) rfl (((hbw.trans (hb3.mono hbw.size)).alloc (Nat.le_trans hbw.size hb3.size) _).trans (hb5.mono (by have := hbw.size; have := hb3.size; simp; omega)))
        · have hE := Lib.hid (chkE_none (HE.out.trans (if_neg (fun h => hcan h.1))))
          have hne : (((canE o 15 : Nat) : Int) != 0) = true := by rw [bne_iff_ne]; omega
          simp only [if_neg hcan] at HGr
          generalize canE o 15 = E at *
          clear hcan HE
          go_wp2_with (first
            | (go_at_call 57; refine (HGr.out _ hbs).mono ?_; rintro e W3 ⟨hb3, B, nn, d, f', xs', rfl, hown, rfl, rfl⟩; unfold treeV)
            | (refine store_new rfl 26 (.tmp 9) (.tmp 76) rfl _ _ rfl rfl rfl 26 _ (by rw [cellsOf_size]; exact tree_size) (by rw [cellsOf_size]; rfl) (cellsOf_one (fun k _ => treeH_one _ _ _ _ k)) ?_))
          go_ret
          exact ChkRes.mk' hE.out rfl ((hbw.trans (hb3.mono hbw.size)).alloc (Nat.le_trans hbw.size hb3.size) _)
end Go.Proofs.YtahboomghjdjhaaGreat

/-
  Walks: the reference's Lengths.
-/
namespace Go.Proofs.YtahboomghjdjhaaGreat
open Go.RowKit

theorem nthI_part {xs : List Int} {a m j : Nat} (h : j < m) : nthI ((xs.drop a).take m) j = nthI xs (a + j) := by
  unfold nthI
  rw [List.getElem?_take, if_pos h, List.getElem?_drop]
theorem rows_zero {f : Nat → Int} {m : Nat} {xs : List Int} {o : List Nat} (h : f 0 ≠ 0) : rowsT f (m + 1) 0 xs o = none := rows_bad (by omega)
def TLenRes (w w' : World) (e : Ending) (r : Option (List Nat)) : Prop := Below w.heap.size w w' ∧ match r with
  | none => e = .returned (.tuple #[.slice none 0 0, .bool false])
  | some l => l.length = 320 ∧ ∃ B d, e = .returned (.tuple #[.slice B 320 d, .bool true]) ∧ Builds w w' 5 1 B 320 d (u8s l)
theorem TLenRes.yes {w w' : World} {e : Ending} {r : Option (List Nat)} {l : List Nat} (h : r = some l) (hl : l.length = 320) {B : Option Addr} {d : Nat} (hb : Builds w w' 5 1 B 320 d (u8s l)) (he : e = .returned (.tuple #[.slice B 320 d, .bool true])) : TLenRes w w' e r := by subst h; exact ⟨hb.1, hl, B, d, he, hb⟩
theorem TLenRes.no {w w' : World} {e : Ending} {r : Option (List Nat)} (h : r = none) (hb : Below w.heap.size w w') (he : e = .returned (.tuple #[.slice none 0 0, .bool false])) : TLenRes w w' e r := by subst h; exact ⟨hb, he⟩

set_option maxRecDepth 100000 in
set_option maxHeartbeats 4000000 in
theorem rlengths_any (f : Nat → Int) (A : Option Addr) (n c : Nat) (xs : List Int) (w : World) (hx : Rd w A (ints xs)) (hn : n = xs.length) (hn1 : n ≤ 1001) :
    Calls Tryz.prog 47 #[treeV f A n c] w fun e w' => TLenRes w w' e (chkT f xs) := by
  unfold treeV
  have HB : ∀ o, Below w.heap.size w (w.alloc o) := fun o => (Below.refl _ _).alloc (Nat.le_refl _) _
  have ka : Arr (w.alloc (.cells (cellsOf 17 (treeH f (.slice A n c))) 26)) w.heap.size 26 17 (treeH f (.slice A n c)) := Blk.new _ _ _
  have hb := HB (.cells (cellsOf 17 (treeH f (.slice A n c))) 26)
  have HN := Lib.hid hn
  clear HB hn
  have MK := fun (W1 : World) (ka : Arr W1 w.heap.size 26 17 (treeH f (.slice A n c))) => (Arr.cell ka 16 (by omega)).trans (congrArg some treeH_16)
  have MZ := fun (W1 : World) (ka : Arr W1 w.heap.size 26 17 (treeH f (.slice A n c))) => (Arr.cell ka 0 (by omega)).trans (congrArg some (treeH_lt (by omega)))
  by_cases hl : 320 < n
  · have hE := Lib.hid (chk_many (f := f) (xs := xs) (by rw [← HN.out]; exact hl))
    have ca := MK _ ka
    go_enter Tryz.func47, Tryz.ntmps47
    go_upto_region 1 with (fail)
    change Code.wp _ _ _ _ (w.alloc (.cells (cellsOf 17 (treeH f (.slice A n c))) 26))
    generalize w.alloc (.cells (cellsOf 17 (treeH f (.slice A n c))) 26) = W1 at *
    go_wp2_with (refine makes elem_u8 (z := .int .u8 0) (by kernel_rfl) rfl (.const (.int .i64 320)) (.const (.int .i64 320)) rfl 320 rfl rfl rfl (by omega) (by omega) (u8s (List.replicate 320 0)) (made_u8s 320) ?_; intro W2 hO; have ca2 := MK _ (Arr.below ka hO.1 (Blk.lt ka)))
    go_ret2
    exact TLenRes.no hE.out (hb.trans (hO.1.mono hb.size)) rfl
  · have hl2 : ¬ (320 : Int) < n := by omega
    have hl' : n ≤ 320 := by omega
    clear hl
    by_cases h0 : f 0 = 0
    · obtain ⟨R, hR⟩ : ∃ R, rowsT f 16 0 xs (List.replicate 320 0) = R := ⟨_, rfl⟩
      have HR := Lib.hid hR
      have HR1 := Lib.hid ((rows_one h0).symm.trans hR)
      rw [h0] at MZ
      clear hR h0
      go_enter Tryz.func47, Tryz.ntmps47
      go_upto_region 1 with (fail)
      change Code.wp _ _ _ _ (w.alloc (.cells (cellsOf 17 (treeH f (.slice A n c))) 26))
      generalize w.alloc (.cells (cellsOf 17 (treeH f (.slice A n c))) 26) = W1 at *
      go_wp2_with (refine makes elem_u8 (z := .int .u8 0) (by kernel_rfl) rfl (.const (.int .i64 320)) (.const (.int .i64 320)) rfl 320 rfl rfl rfl (by omega) (by omega) (u8s (List.replicate 320 0)) (made_u8s 320) ?_; intro W2 hO; have ka2 := Arr.below ka hO.1 (Blk.lt ka); have ca2 := MK _ ka2; have cz := MZ _ ka2)
      have hO2 := hO.rebase hb
      clear hO ka hb ca2 cz MZ
      go_loopg [5, 6] 15 (fun gk v5 v6 wr => ∃ (k a : Nat) (o : List Nat), 1 ≤ k ∧ k ≤ 16 ∧ gk = 16 - k ∧ v6 = .int .i64 (k : Int) ∧ v5 = .int .i64 (a : Int) ∧ a ≤ n ∧
        Builds w wr 5 1 (some ⟨W1.heap.size, 0, none⟩) 320 320 (u8s o) ∧ o.length = 320 ∧ (∀ x ∈ o, x ≤ 15) ∧ Arr wr w.heap.size 26 17 (treeH f (.slice A n c)) ∧ rowsT f (16 - k) k (xs.drop a) o = R)
      case atStart => exact ⟨1, 0, _, by omega, by omega, rfl, rfl, rfl, by omega, hO2, by simp, by simp, ka2, HR1.out⟩
      case round =>
        clear hO2 ka2 HR1
        obtain ⟨k, a, o, hk1, hk, hgk, rfl, rfl, han, hO, ho, ho15, ka, hR⟩ := hrel
        have HO := Lib.hid (And.intro ho ho15)
        have HR2 := Lib.hid hR
        have ca := MK _ ka
        clear ho ho15 hR
        by_cases hlt : k < 16
        · have hd : decide ((k : Int) ≤ 15) = true := decide_eq_true (by omega)
          obtain ⟨q, hq⟩ : ∃ q, f k = q := ⟨_, rfl⟩
          have HQ := Lib.hid hq
          have cq := (Arr.cell ka k (by omega)).trans (congrArg some (treeH_lt hlt))
          rw [hq] at cq
          have hxl : (xs.drop a).length = n - a := by rw [List.length_drop, ← HN.out]
          by_cases h1 : q < 0
          · have hE := Lib.hid (chk_rows (f := f) (xs := xs) (by rw [← HN.out]; exact hl') (by rw [HR.out, ← HR2.out, show 16 - k = (15 - k) + 1 by omega, rows_bad (by left; rw [hq]; exact h1)]))
            clear hq hxl
            go_wp2_with fail
            go_quiet (fail)
            go_wp2_with fail
            go_ret2
            exact TLenRes.no hE.out (below_drewN' hO.1 _) rfl
          · have h1' : decide (q < 0) = false := decide_eq_false h1
            have hwr : IntKind.i64.wrap ((n : Int) - (a : Int)) = (n : Int) - (a : Int) := IntWalk.i64_in _ (by omega)
            by_cases h2 : (n : Int) - a < q
            · have hE := Lib.hid (chk_rows (f := f) (xs := xs) (by rw [← HN.out]; exact hl') (by rw [HR.out, ← HR2.out, show 16 - k = (15 - k) + 1 by omega, rows_bad (by right; left; rw [hq, hxl]; omega)]))
              clear hq hxl
              go_wp2_with fail
              go_quiet (fail)
              go_wp2_with fail
              go_ret2
              exact TLenRes.no hE.out (below_drewN' hO.1 _) rfl
            · have h2' : decide ((n : Int) - a < q) = false := decide_eq_false h2
              have HR3 := Lib.hid (show innT f (15 - k) k ((xs.drop a).drop q.toNat) (((xs.drop a).take q.toNat).drop 0) o = R by rw [← HR2.out, show 16 - k = (15 - k) + 1 by omega, rows_inn (by rw [hq, hxl]; omega), hq])
              clear HR2 hq hxl
              obtain ⟨m, rfl⟩ : ∃ m : Nat, q = (m : Int) := ⟨q.toNat, by omega⟩
              rw [Int.toNat_natCast, List.drop_drop] at HR3
              have hm : m ≤ n - a := by omega
              go_wp2_with fail
              go_quiet (fail)
              go_wp2_with fail
              obtain ⟨row, hrow⟩ : ∃ row, (xs.drop a).take m = row := ⟨_, rfl⟩
              rw [hrow] at HR3
              have HI := Lib.hid (show ∀ j, j < m → nthI row j = nthI xs (a + j) from fun j hj => by rw [← hrow, nthI_part hj])
              have HL := Lib.hid (show row.length = m by rw [← hrow, List.length_take, List.length_drop, ← HN.out]; omega)
              have HG := Lib.hid hgk
              clear hrow hgk cq h1 h1' h2 h2' hwr
              go_loopg [7] m (fun gi v7 wr => ∃ (j : Nat) (o : List Nat), j ≤ m ∧ gi = m - j ∧ v7 = .int .i64 (j : Int) ∧
                Builds w wr 5 1 (some ⟨W1.heap.size, 0, none⟩) 320 320 (u8s o) ∧ o.length = 320 ∧ (∀ x ∈ o, x ≤ 15) ∧ Arr wr w.heap.size 26 17 (treeH f (.slice A n c)) ∧ innT f (15 - k) k (xs.drop (a + m)) (row.drop j) o = R)
              case atStart => exact ⟨0, o, by omega, rfl, rfl, hO.drewN _, HO.out.1, HO.out.2, ka, HR3.out⟩
              case round =>
                clear hO ka HR3 HO ca
                clear o
                obtain ⟨j, o, hj, hgi, rfl, hO, ho, ho15, ka, hR⟩ := hrel
                have HO := Lib.hid (And.intro ho ho15)
                have HR3 := Lib.hid hR
                clear ho ho15 hR
                have ca := MK _ ka
                have cq := (Arr.cell ka k (by omega)).trans (congrArg some ((treeH_lt hlt).trans (congrArg (Value.int .i64) HQ.out)))
                by_cases hjm : j < m
                · have hdj : decide ((j : Int) < (m : Int)) = true := decide_eq_true (by omega)
                  obtain ⟨b, off, rfl, hcell⟩ := (hx.below hO.1).int (i := a + j) (by rw [← HN.out]; omega)
                  obtain ⟨s, hs⟩ : ∃ s, nthI xs (a + j) = s := ⟨_, rfl⟩
                  have hs' := (HI.out j hjm).trans hs
                  rw [hs] at hcell
                  have HS := Lib.hid hs'
                  clear hs hs'
                  by_cases h1 : s < 0
                  · have hE := Lib.hid (chk_rows (f := f) (xs := xs) (by rw [← HN.out]; exact hl') (by rw [HR.out, ← HR3.out, inn_bad (by rw [HL.out]; exact hjm) (by left; rw [HS.out]; exact h1)]))
                    go_wp2_with fail
                    go_ret2
                    exact TLenRes.no hE.out hO.1 rfl
                  · by_cases h2 : 320 ≤ s
                    · have hE := Lib.hid (chk_rows (f := f) (xs := xs) (by rw [← HN.out]; exact hl') (by rw [HR.out, ← HR3.out, inn_bad (by rw [HL.out]; exact hjm) (by right; left; rw [HS.out]; exact h2)]))
                      have h1' : decide (s < 0) = false := decide_eq_false h1
                      go_wp2_with fail
                      go_ret2
                      exact TLenRes.no hE.out hO.1 rfl
                    · have h1' : decide (s < 0) = false := decide_eq_false h1
                      obtain ⟨p, rfl⟩ : ∃ p : Nat, s = (p : Int) := ⟨s.toNat, by omega⟩
                      have hp : p < 320 := by omega
                      have h2' : decide ((320 : Int) ≤ (p : Int)) = false := decide_eq_false h2
                      have h3' : decide (320 ≤ p) = false := decide_eq_false (by omega)
                      clear h1 h2
                      have hco := hO.cell p (by omega)
                      rw [u8s_get o p (by rw [HO.out.1]; exact hp)] at hco
                      have hfo := hO.free p
                      have hx15 := nth_le_t HO.out.2 p
                      by_cases h0 : nth o p = 0
                      · rw [h0] at hco
                        have hO2 := hO.set p (by omega) (.int .u8 (k : Int))
                        rw [u8s_setT] at hO2
                        have HO2 := Lib.hid (And.intro (show (o.set p k).length = 320 by rw [List.length_set]; exact HO.out.1) (mem_set_le (i := p) HO.out.2 (show k ≤ 15 by omega)))
                        have hst := inn_step (f := f) (m := 15 - k) (n := k) (rest := xs.drop (a + m)) (row := row) (j := j) (o := o) (by rw [HL.out]; exact hjm) (by rw [HS.out, Int.toNat_natCast, h0]; omega)
                        rw [HS.out, Int.toNat_natCast] at hst
                        have HR4 := Lib.hid (hst.symm.trans HR3.out)
                        clear hst h0 hx15
                        have ka2 := Arr.far ka (p := ⟨W1.heap.size, p, none⟩) (fun e => own_blk_ne hO.2 ka (by decide) (by rw [e]; rfl)) (.int .u8 (k : Int))
                        go_wp2_with fail
                        go_roundg (m - (j + 1))
                        case measure => omega
                        case rel => exact ⟨j + 1, _, by omega, by omega, by go_num, hO2, HO2.out.1, HO2.out.2, ka2, HR4.out⟩
                      · have hE := Lib.hid (chk_rows (f := f) (xs := xs) (by rw [← HN.out]; exact hl') (by rw [HR.out, ← HR3.out, inn_bad (by rw [HL.out]; exact hjm) (by right; right; rw [HS.out, Int.toNat_natCast]; exact h0)]))
                        have h0' : (((nth o p : Nat) : Int) != 0) = true := by rw [bne_iff_ne]; omega
                        clear h0
                        generalize nth o p = x at *
                        go_wp2_with fail
                        go_ret2
                        exact TLenRes.no hE.out hO.1 rfl
                · obtain rfl : j = m := by omega
                  have HR5 := Lib.hid (show rowsT f (15 - k) (k + 1) (xs.drop (a + j)) o = R by rw [← HR3.out, ← inn_end (row := row), HL.out])
                  clear HR3
                  go_wp2_with fail
                  go_roundg (16 - (k + 1))
                  case measure => have := HG.out; omega
                  case rel => exact ⟨k + 1, a + j, o, by omega, by omega, by omega, by go_num, by go_num, by omega, hO, HO.out.1, HO.out.2, ka, by rw [show 16 - (k + 1) = 15 - k by omega]; exact HR5.out⟩
        · obtain rfl : k = 16 := by omega
          have HE := Lib.hid (chk_end (f := f) (xs := xs) (by rw [← HN.out]; exact hl') (o := o) (r := xs.drop a) (by rw [HR.out, ← HR2.out]; rfl))
          clear HR2
          have hbs : Bs wr (some ⟨W1.heap.size, 0, none⟩) o := rd_u8 hO.rd (fun x hx => by have := HO.out.2 x hx; omega)
          have hbw := hO.1
          by_cases han2 : a = n
          · subst han2
            by_cases hcan : canE o 15 = 0
            · have hdr : xs.drop a = [] := List.drop_eq_nil_of_le (by rw [← HN.out]; exact Nat.le_refl _)
              obtain ⟨z, hz⟩ : ∃ z, sameT (cntS (allP o 16)) f (symS (allP o 16)) xs = z := ⟨_, rfl⟩
              have hE := Lib.hid (show chkT f xs = if z = true then some o else none by rw [HE.out]; unfold endT; rw [hz]; cases z <;> simp [hcan, hdr])
              have hle := allP_le o 16
              rw [HO.out.1] at hle
              have HS := Lib.hid (fun wx (b : Below wr.heap.size wr wx) => show wx.cell? ⟨w.heap.size, 0, none⟩ = some (.int .i64 (f 0)) ∧ wx.cell? ⟨w.heap.size, 1, none⟩ = some (.int .i64 (f 1)) ∧ wx.cell? ⟨w.heap.size, 2, none⟩ = some (.int .i64 (f 2)) ∧ wx.cell? ⟨w.heap.size, 3, none⟩ = some (.int .i64 (f 3)) ∧ wx.cell? ⟨w.heap.size, 4, none⟩ = some (.int .i64 (f 4)) ∧ wx.cell? ⟨w.heap.size, 5, none⟩ = some (.int .i64 (f 5)) ∧ wx.cell? ⟨w.heap.size, 6, none⟩ = some (.int .i64 (f 6)) ∧ wx.cell? ⟨w.heap.size, 7, none⟩ = some (.int .i64 (f 7)) ∧ wx.cell? ⟨w.heap.size, 8, none⟩ = some (.int .i64 (f 8)) ∧ wx.cell? ⟨w.heap.size, 9, none⟩ = some (.int .i64 (f 9)) ∧ wx.cell? ⟨w.heap.size, 10, none⟩ = some (.int .i64 (f 10)) ∧ wx.cell? ⟨w.heap.size, 11, none⟩ = some (.int .i64 (f 11)) ∧ wx.cell? ⟨w.heap.size, 12, none⟩ = some (.int .i64 (f 12)) ∧ wx.cell? ⟨w.heap.size, 13, none⟩ = some (.int .i64 (f 13)) ∧ wx.cell? ⟨w.heap.size, 14, none⟩ = some (.int .i64 (f 14)) ∧ wx.cell? ⟨w.heap.size, 15, none⟩ = some (.int .i64 (f 15)) ∧ wx.cell? ⟨w.heap.size, 16, none⟩ = some (.slice A a c) from by
                have kx := Arr.below ka b (Blk.lt ka)
                exact ⟨Arr.cell kx 0 (by omega), Arr.cell kx 1 (by omega), Arr.cell kx 2 (by omega), Arr.cell kx 3 (by omega), Arr.cell kx 4 (by omega), Arr.cell kx 5 (by omega), Arr.cell kx 6 (by omega), Arr.cell kx 7 (by omega), Arr.cell kx 8 (by omega), Arr.cell kx 9 (by omega), Arr.cell kx 10 (by omega), Arr.cell kx 11 (by omega), Arr.cell kx 12 (by omega), Arr.cell kx 13 (by omega), Arr.cell kx 14 (by omega), Arr.cell kx 15 (by omega), Arr.cell kx 16 (by omega)⟩)
              have HC := Lib.hid (fun wx (b : Below wr.heap.size wr wx) => show Calls Tryz.prog 63 #[.slice (some ⟨W1.heap.size, 0, none⟩) 320 320, .int .i64 15] wx (fun e w' => e = .returned (.int .i64 0) ∧ w' = wx) from by have := rcheck_any (some ⟨W1.heap.size, 0, none⟩) 320 o 15 wx (hbs.below b) (by rw [HO.out.1]; omega) (by omega) (by omega); rw [HO.out.1, hcan] at this; exact this)
              have HG := Lib.hid (fun wx (b : Below wr.heap.size wr wx) => show Calls Tryz.prog 55 #[.slice (some ⟨W1.heap.size, 0, none⟩) 320 320] wx (fun e w' => ∃ (B : Option Addr) (d : Nat), e = .returned (.agg (cellsOf 17 (treeH (cntS (allP o 16)) (.slice B (allP o 16).length d)))) ∧ Below wr.heap.size wr w' ∧ Rd w' B (ints (symS (allP o 16)))) from by
                have := rgrown_any (some ⟨W1.heap.size, 0, none⟩) 320 o wx (hbs.below b) (by rw [HO.out.1]; omega)
                rw [HO.out.1] at this
                exact this.mono fun e w' ⟨B, d, h1, h2⟩ => ⟨B, d, h1, b.trans (h2.1.mono b.size), h2.rd⟩)
              have HX := Lib.hid (fun wx B d (b : Below wr.heap.size wr wx) (hr : Rd wx B (ints (symS (allP o 16)))) => show Calls Tryz.prog 38 #[.agg (cellsOf 17 (treeH (cntS (allP o 16)) (.slice B (allP o 16).length d))), .agg #[(.int .i64 (f 0)), (.int .i64 (f 1)), (.int .i64 (f 2)), (.int .i64 (f 3)), (.int .i64 (f 4)), (.int .i64 (f 5)), (.int .i64 (f 6)), (.int .i64 (f 7)), (.int .i64 (f 8)), (.int .i64 (f 9)), (.int .i64 (f 10)), (.int .i64 (f 11)), (.int .i64 (f 12)), (.int .i64 (f 13)), (.int .i64 (f 14)), (.int .i64 (f 15)), (.slice A a c)]] wx (fun e w' => e = .returned (.bool z) ∧ Below wr.heap.size wr w') from by
                have := rsame_any (cntS (allP o 16)) f B A (allP o 16).length d a c (symS (allP o 16)) xs wx hr (hx.below (hbw.trans (b.mono hbw.size))) (symS_length _).symm HN.out (by omega) hn1
                rw [hz] at this
                exact this.mono fun e w' ⟨h1, h2⟩ => ⟨h1, b.trans (h2.mono b.size)⟩)
              clear HE hz hdr hcan hle hbs
              cases z
              all_goals
                go_upto_region 18 with (fail)
                have s0 := HS.out wr (Below.refl _ _)
                go_region_held3 (fun wx => wx.cell? ⟨w.heap.size, 0, none⟩ = some (.int .i64 (f 0)) ∧ wx.cell? ⟨w.heap.size, 1, none⟩ = some (.int .i64 (f 1)) ∧ wx.cell? ⟨w.heap.size, 2, none⟩ = some (.int .i64 (f 2)) ∧ wx.cell? ⟨w.heap.size, 3, none⟩ = some (.int .i64 (f 3)) ∧ wx.cell? ⟨w.heap.size, 4, none⟩ = some (.int .i64 (f 4)) ∧ wx.cell? ⟨w.heap.size, 5, none⟩ = some (.int .i64 (f 5)) ∧ wx.cell? ⟨w.heap.size, 6, none⟩ = some (.int .i64 (f 6)) ∧ wx.cell? ⟨w.heap.size, 7, none⟩ = some (.int .i64 (f 7)) ∧ wx.cell? ⟨w.heap.size, 8, none⟩ = some (.int .i64 (f 8)) ∧ wx.cell? ⟨w.heap.size, 9, none⟩ = some (.int .i64 (f 9)) ∧ wx.cell? ⟨w.heap.size, 10, none⟩ = some (.int .i64 (f 10)) ∧ wx.cell? ⟨w.heap.size, 11, none⟩ = some (.int .i64 (f 11)) ∧ wx.cell? ⟨w.heap.size, 12, none⟩ = some (.int .i64 (f 12)) ∧ wx.cell? ⟨w.heap.size, 13, none⟩ = some (.int .i64 (f 13)) ∧ wx.cell? ⟨w.heap.size, 14, none⟩ = some (.int .i64 (f 14)) ∧ wx.cell? ⟨w.heap.size, 15, none⟩ = some (.int .i64 (f 15)) ∧ wx.cell? ⟨w.heap.size, 16, none⟩ = some (.slice A a c)) (first | exact s0 | exact s2 | exact s3) (first
                  | (go_at_call 63; with_reducible refine Calls.mono (HC.out _ (by first | with_reducible exact (Below.refl _ _) | with_reducible exact below_drewN' (Below.refl _ _) _ | with_reducible exact Below.drew (Below.refl _ _))) ?_; rintro e wa ⟨rfl, rfl⟩)
                  | (go_at_call 55; with_reducible refine Calls.mono (HG.out _ (by first | with_reducible exact (Below.refl _ _) | with_reducible exact below_drewN' (Below.refl _ _) _ | with_reducible exact Below.drew (Below.refl _ _))) ?_; rintro e wb ⟨B, d, rfl, bb, rb⟩; have s2 := HS.out _ bb)
                  | (go_at_call 38; have hh := bb; clear hh; with_reducible refine Calls.mono (HX.out _ _ _ (by first | with_reducible exact bb | with_reducible exact below_drewN' bb _ | with_reducible exact Below.drew bb) (by first | with_reducible exact rb | with_reducible exact Rd.drewN rb _ | with_reducible exact Rd.drew rb)) ?_; rintro e wc ⟨rfl, bc⟩; have s3 := HS.out _ bc))
                go_wp2_with fail
                go_ret2
                first
                  | exact TLenRes.no (hE.out.trans (by simp)) (hbw.trans (bc.mono hbw.size)) rfl
                  | exact TLenRes.yes (hE.out.trans (by simp)) HO.out.1 (hO.below bc) rfl
            · have hE := Lib.hid (HE.out.trans (if_neg (fun h => hcan h.1)))
              have HC := Lib.hid (fun wx (hl : Bs wx (some ⟨W1.heap.size, 0, none⟩) o) => show Calls Tryz.prog 63 #[.slice (some ⟨W1.heap.size, 0, none⟩) 320 320, .int .i64 15] wx (fun e w' => e = .returned (.int .i64 (canE o 15 : Nat)) ∧ w' = wx) from by have := rcheck_any (some ⟨W1.heap.size, 0, none⟩) 320 o 15 wx hl (by rw [HO.out.1]; omega) (by omega) (by omega); rw [HO.out.1] at this; exact this)
              have hne : (((canE o 15 : Nat) : Int) != 0) = true := by rw [bne_iff_ne]; omega
              generalize canE o 15 = E at *
              clear hcan HE
              go_wp2_with fail
              go_quiet ((go_at_call 63; exact Calls.quiet_of_same (HC.out _ hbs)))
              go_wp2_with fail
              go_ret2
              exact TLenRes.no hE.out (below_drewN' hO.1 _) rfl
          · have hE := Lib.hid (HE.out.trans (if_neg (fun h => by have h2 := h.2.1; have := congrArg List.length h2; rw [List.length_drop, ← HN.out] at this; simp at this; omega)))
            have hne : ((a : Int) != (n : Int)) = true := by rw [bne_iff_ne]; omega
            have hne2 : (a != n) = true := by rw [bne_iff_ne]; omega
            clear HE han2
            go_wp2_with fail
            go_quiet (fail)
            go_wp2_with fail
            go_ret2
            exact TLenRes.no hE.out (below_drewN' hO.1 _) rfl
    · have hE := Lib.hid (chk_rows (f := f) (xs := xs) (by rw [← HN.out]; exact hl') (rows_zero h0))
      have ca := MK _ ka
      have cz := MZ _ ka
      go_enter Tryz.func47, Tryz.ntmps47
      go_upto_region 1 with (fail)
      change Code.wp _ _ _ _ (w.alloc (.cells (cellsOf 17 (treeH f (.slice A n c))) 26))
      generalize w.alloc (.cells (cellsOf 17 (treeH f (.slice A n c))) 26) = W1 at *
      have hne : (f 0 != 0) = true := by rw [bne_iff_ne]; exact h0
      clear h0
      generalize f 0 = q at *
      go_wp2_with (refine makes elem_u8 (z := .int .u8 0) (by kernel_rfl) rfl (.const (.int .i64 320)) (.const (.int .i64 320)) rfl 320 rfl rfl rfl (by omega) (by omega) (u8s (List.replicate 320 0)) (made_u8s 320) ?_; intro W2 hO; have ca2 := MK _ (Arr.below ka hO.1 (Blk.lt ka)); have cz2 := MZ _ (Arr.below ka hO.1 (Blk.lt ka)))
      go_ret2
      exact TLenRes.no hE.out (hb.trans (hO.1.mono hb.size)) rfl
end Go.Proofs.YtahboomghjdjhaaGreat
