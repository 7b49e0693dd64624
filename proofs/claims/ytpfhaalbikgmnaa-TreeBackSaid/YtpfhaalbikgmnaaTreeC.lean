/-
  Walks: the reference's Twin and Same, tree.Same.
-/
import Derived.Test.YtpfhaalbikgmnaaTreeB
import Derived.Deep.Cut
import Derived.Deep.DeepCutAuto
import Derived.Laws.StructEq
import Derived.Deep.QuietTactic
import Derived.BigQuiet
namespace Go.Proofs.Ytpfhaalbikgmnaa
open Go.RowKit

theorem cells16 (f : Nat → Int) (v : Value) : (cellsOf 17 (treeH f v))[16]? = some v := by rw [cellsOf_get _ _ _ (by omega)]; rfl

theorem treeH_put (f : Nat → Int) (v v' : Value) (k : Nat) (h : k < 17) : (if k = 16 then v' else treeH f v k) = treeH f v' k := by
  by_cases h16 : k = 16
  · subst h16; rw [if_pos rfl, treeH_16]
  · rw [if_neg h16, treeH_lt (by omega), treeH_lt (by omega)]

set_option maxRecDepth 100000 in
set_option maxHeartbeats 2000000 in
theorem rtwin_any (f : Nat → Int) (A : Option Addr) (n c : Nat) (xs : List Int) (w : World) (hl : Rd w A (ints xs)) (hn : n = xs.length) (hm : n ≤ 1001) :
    Calls Try.prog 9 #[treeV f A n c] w fun e w' =>
      ∃ (B : Option Addr) (d : Nat), e = .returned (treeV f B n d) ∧ Builds w w' 3 1 B n d (ints xs) := by
  have HN := Lib.hid hn
  clear hn
  have Z : Value.agg (cellsOf 17 (treeH (fun _ => 0) (.slice none 0 0))) = Value.agg #[.int .i64 0, .int .i64 0, .int .i64 0, .int .i64 0, .int .i64 0, .int .i64 0, .int .i64 0, .int .i64 0, .int .i64 0, .int .i64 0, .int .i64 0, .int .i64 0, .int .i64 0, .int .i64 0, .int .i64 0, .int .i64 0, .slice none 0 0] := rfl
  unfold treeV
  go_enter Try.func9, Try.ntmps9
  have HB : ∀ o o', Below w.heap.size w ((w.alloc o).alloc o') := fun o o' => ((Below.refl _ _).alloc (Nat.le_refl _) _).alloc (by simp) _
  have HL := Lib.hid hl
  have kt : Arr ((w.alloc (.cells (cellsOf 17 (treeH f (.slice A n c))) 26)).alloc (.cells (cellsOf 17 (treeH (fun _ => 0) (.slice none 0 0))) 26)) w.heap.size 26 17 (treeH f (.slice A n c)) := Blk.alloc (Blk.new _ _ _) _
  have kr : Arr ((w.alloc (.cells (cellsOf 17 (treeH f (.slice A n c))) 26)).alloc (.cells (cellsOf 17 (treeH (fun _ => 0) (.slice none 0 0))) 26)) (w.heap.size + 1) 26 17 (treeH (fun _ => 0) (.slice none 0 0)) := Blk.new' _ _ _ _ (by simp)
  have c16 := Arr.cell kt 16 (by omega)
  rw [treeH_16] at c16
  go_upto_region 1 with (fail)
  change Code.wp _ _ _ _ ((w.alloc (.cells (cellsOf 17 (treeH f (.slice A n c))) 26)).alloc (.cells (cellsOf 17 (treeH (fun _ => 0) (.slice none 0 0))) 26))
  have hb := HB (.cells (cellsOf 17 (treeH f (.slice A n c))) 26) (.cells (cellsOf 17 (treeH (fun _ => 0) (.slice none 0 0))) 26)
  have hl2 := (HL.out).below hb
  clear HB HL hl
  generalize (w.alloc (.cells (cellsOf 17 (treeH f (.slice A n c))) 26)).alloc (.cells (cellsOf 17 (treeH (fun _ => 0) (.slice none 0 0))) 26) = W2 at *
  go_wp2_with (first
    | (at_builtin; refine grow elem_int rfl (.const (.slice none 0 0)) (.tmp 4) rfl rfl (Builds.nil' hb _ _) rfl hl2 (by rw [ints_length, HN.out, Nat.mul_one]) (ints_one _) n (by omega) (ints xs) (by simp) (by omega) (by omega) ?_; intro B2 d2 w2 hB2 hg2; have kt2 := Blk.grown kt hg2 (fun e => by cases e); have kr2 := Blk.grown kr hg2 (fun e => by cases e); have f16 := Blk.frozen kt2 16; have lt16 := Blk.lt kt2; have c162 := Arr.cell kt2 16 (by omega); have kt3 := (Arr.set kt2 16 (.slice B2 n d2)).congr (treeH_put f (.slice A n c) (.slice B2 n d2)); have kr3 := Arr.far kr2 (p := ⟨w.heap.size, 16, none⟩) (by show w.heap.size + 1 ≠ w.heap.size; omega) (.slice B2 n d2); have hB3 : Builds w (w2.setCell ⟨w.heap.size, 16, none⟩ (.slice B2 n d2)) 3 1 B2 n d2 (ints xs) := ⟨hB2.1.setCell (p := ⟨w.heap.size, 16, none⟩) (Nat.le_refl _) _, own_far hB2.2 (p := ⟨w.heap.size, 16, none⟩) (own_blk_ne hB2.2 kt2 (by decide)) _⟩; clear hg2 hB2)
    | (refine load_arr rfl 26 (.tmp 1) rfl rfl kt3 tree_under rfl tree_size ?_)
    | (refine store_over rfl 26 (.tmp 2) (.tmp 7) rfl rfl rfl kr3 tree_size (fun k _ => treeH_one _ _ _ _ k) ?_; intro w5 hT5 hg5))
  refine bodyPost_ret (results_cell_row Try.results9 _ _ (w.heap.size + 1) 26 (cellsOf 17 (treeH f (.slice B2 n d2))) (0, 0) _ rfl hT5 tree_under rfl (by rw [tree_size, cellsOf_size])) rfl ⟨B2, d2, rfl, ?_⟩
  exact ⟨hB3.1.trans (only_below hg5 hB3.1.size (by omega)), hB3.2.kept hg5 (.inr (own_blk_ne hB3.2 kr3 (by decide)))⟩

/-! ### Arrays of numbers compared -/
def cI (f : Nat → Int) (i : Nat) : Value := .int .i64 (f i)
def eqF (n : Nat) (f g : Nat → Int) : Bool := (List.range n).all fun i => f i == g i
theorem eqF_iff {n : Nat} {f g : Nat → Int} : eqF n f g = true ↔ ∀ i, i < n → f i = g i := by
  unfold eqF
  rw [List.all_eq_true]
  exact ⟨fun h i hi => by simpa using h i (List.mem_range.2 hi), fun h i hi => by simpa using h i (List.mem_range.1 hi)⟩
section
variable {P : Program} (w : World)
theorem run_equalIn_ints (d : Nat) (t e : TypeId) (n : Nat) (ht : P.underlying t = some (.array n e)) (he : P.underlying e = some (.int .i64)) (hsz : ∀ w, (sizeOf e).run P w = .ok 1 w) (f g : Nat → Int) :
    (Op.equalIn (d + 2) t (.agg (cellsOf n (cI f))) (.agg (cellsOf n (cI g)))).run P w = .ok (eqF n f g) w := by
  unfold eqF
  rw [List.range_eq_range', Op.equalIn]
  simp only [Sem.run_bind, run_underlying ht, Result.andThen_ok, hsz, Std.Legacy.Range.forIn_eq_forIn_range', Std.Legacy.Range.size, Nat.sub_zero, Nat.add_sub_cancel, Nat.div_one]
  have hl : ∀ i ∈ List.range' 0 n 1, i < n := fun i hi => by simpa using (List.mem_range'_1.1 hi).2
  generalize List.range' 0 n 1 = l at hl ⊢
  induction l with
  | nil => simp
  | cons i l ih =>
    have hi : i < n := hl i (by simp)
    have px : ∀ f, (Go.part e (cellsOf n (cI f)) (i * 1)).run P w = .ok (cI f i) w := fun f => by
      simp [Go.part, isAgg, run_underlying he, cellsOf_get n _ i hi]
    have pe : (Op.equalIn (d + 1) e (cI f i) (cI g i)).run P w = .ok (f i == g i) w := by
      rw [cI, cI, run_equalIn_int w d e .i64 .i64 _ _ he]
    simp only [List.forIn_cons, Sem.run_bind, px, pe, Result.andThen_ok, List.all_cons]
    cases hb : (f i == g i)
    · simp
    · simp only [Bool.not_true, Bool.false_eq_true, if_false, Sem.run_pure, Result.andThen_ok, Bool.true_and]
      exact ih fun j hj => hl j (by simp [hj])
end
theorem size_int (w : World) : (sizeOf 3).run Try.prog w = .ok 1 w := by kernel_rfl
theorem cnt_eql (f g : Nat → Int) (w : World) : (binOp .eql 23 (.agg (cellsOf 16 (cI f))) (.agg (cellsOf 16 (cI g)))).run Try.prog w = .ok (.bool (eqF 16 f g)) w := by
  rw [run_eql_struct, run_equalIn_ints w 9998 _ 3 16 Try.underlying23 Try.underlying3 size_int f g]
  rfl
theorem cnt_neq (f g : Nat → Int) (w : World) : (binOp .neq 23 (.agg (cellsOf 16 (cI f))) (.agg (cellsOf 16 (cI g)))).run Try.prog w = .ok (.bool !(eqF 16 f g)) w := by
  rw [run_neq_struct, run_equalIn_ints w 9998 _ 3 16 Try.underlying23 Try.underlying3 size_int f g]
  rfl
/-- A tree's counts, loaded whole. -/
theorem load_cnt {ops : Array Oper} {rest : List Oper} {o : Oper} {a : Act} {w : World} {Q : Exit → Act → World → Prop} (hgd : o.guard = none) (x : Operand) (ho : o.op = .load 23 x)
    {g : Nat} (hx : a.eval x = .pointer (some ⟨g, 0, none⟩)) {t : TypeId} {f : Nat → Int} {v : Value} (hA : Arr w g t 17 (treeH f v))
    (h : wpList Try.prog ops Q rest (a.put o.dst (.agg (cellsOf 16 (cI f)))) w) : wpList Try.prog ops Q (o :: rest) a w := by
  refine wpList_load_mid hgd 23 x ho g 0 hx ((List.range 16).map (cI f)) _ ?_ Try.underlying23 rfl (by kernel_rfl) h
  intro j u hu
  have hj : j < 16 := by
    rcases Nat.lt_or_ge j 16 with h | h
    · exact h
    · rw [List.getElem?_eq_none (by simpa using h)] at hu; cases hu
  rw [Nat.zero_add, Arr.cell hA j (by omega), treeH_lt hj, ← hu]
  simp [hj, cI]

theorem upto_succ {p : Nat → Prop} {k : Nat} (h : ∀ i, i < k → p i) (hk : p k) : ∀ i, i < k + 1 → p i := fun i hi => by
  rcases Nat.lt_or_ge i k with h1 | h1
  · exact h i h1
  · obtain rfl : i = k := by omega
    exact hk
def sameT (f g : Nat → Int) (xs ys : List Int) : Bool := eqF 16 f g && decide (xs = ys)
theorem ints_nth_eq {xs ys : List Int} (h : xs.length = ys.length) (hh : ∀ i, i < xs.length → nthI xs i = nthI ys i) : xs = ys := by
  apply List.ext_getElem h
  intro i h1 h2
  have := hh i h1
  simpa [nthI, List.getElem?_eq_getElem h1, List.getElem?_eq_getElem h2] using this

set_option maxRecDepth 100000 in
set_option maxHeartbeats 2000000 in
theorem rsame_any (f g : Nat → Int) (A B : Option Addr) (n c m d : Nat) (xs ys : List Int) (w : World) (hx : Rd w A (ints xs)) (hy : Rd w B (ints ys)) (hn : n = xs.length) (hm : m = ys.length) (hn1 : n ≤ 1001) (hm1 : m ≤ 1001) :
    Calls Try.prog 12 #[treeV f A n c, treeV g B m d] w fun e w' => e = .returned (.bool (sameT f g xs ys)) ∧ Below w.heap.size w w' := by
  unfold treeV
  have CN := cnt_neq f g
  have HB : ∀ o o', Below w.heap.size w ((w.alloc o).alloc o') := fun o o' => ((Below.refl _ _).alloc (Nat.le_refl _) _).alloc (by simp) _
  have HN := Lib.hid hn
  have HM := Lib.hid hm
  clear hn hm
  have ka : Arr ((w.alloc (.cells (cellsOf 17 (treeH f (.slice A n c))) 26)).alloc (.cells (cellsOf 17 (treeH g (.slice B m d))) 26)) w.heap.size 26 17 (treeH f (.slice A n c)) := Blk.alloc (Blk.new _ _ _) _
  have kb : Arr ((w.alloc (.cells (cellsOf 17 (treeH f (.slice A n c))) 26)).alloc (.cells (cellsOf 17 (treeH g (.slice B m d))) 26)) (w.heap.size + 1) 26 17 (treeH g (.slice B m d)) := Blk.new' _ _ _ _ (by simp)
  have ca := Arr.cell ka 16 (by omega)
  have cb := Arr.cell kb 16 (by omega)
  rw [treeH_16] at ca cb
  have hb := HB (.cells (cellsOf 17 (treeH f (.slice A n c))) 26) (.cells (cellsOf 17 (treeH g (.slice B m d))) 26)
  have hx2 := hx.below hb
  have hy2 := hy.below hb
  clear HB hx hy
  by_cases he : eqF 16 f g = true
  · rw [he] at CN
    by_cases hl : n = m
    · subst hl
      go_enter Try.func12, Try.ntmps12
      go_upto_region 1 with (fail)
      change Code.wp _ _ _ _ ((w.alloc (.cells (cellsOf 17 (treeH f (.slice A n c))) 26)).alloc (.cells (cellsOf 17 (treeH g (.slice B n d))) 26))
      generalize (w.alloc (.cells (cellsOf 17 (treeH f (.slice A n c))) 26)).alloc (.cells (cellsOf 17 (treeH g (.slice B n d))) 26) = W2 at *
      go_wp2_with (first | (refine load_cnt rfl (.tmp 6) rfl rfl ka ?_) | (refine load_cnt rfl (.tmp 8) rfl rfl kb ?_))
      go_loopg [5] n (fun gk v wr => ∃ k : Nat, k ≤ n ∧ gk = n - k ∧ v = .int .i64 (k : Int) ∧ (∃ q, wr = W2.drewN q) ∧ ∀ i, i < k → nthI xs i = nthI ys i)
      case atStart => exact ⟨0, by omega, by omega, rfl, ⟨0, rfl⟩, fun i hi => by omega⟩
      case round =>
        obtain ⟨k, hk, hgk, rfl, ⟨q, rfl⟩, hh⟩ := hrel
        have HH := Lib.hid hh
        clear hh
        by_cases hlt : k < n
        · obtain ⟨b, off, rfl, hc1⟩ := hx2.at_ (by rw [ints_length, ← HN.out]; omega)
          obtain ⟨b', off', rfl, hc2⟩ := hy2.at_ (by rw [ints_length, ← HM.out]; omega)
          have h1 := hc1 k _ (ints_get xs k (by rw [← HN.out]; exact hlt))
          have h2 := hc2 k _ (ints_get ys k (by rw [← HM.out]; exact hlt))
          clear hc1 hc2
          by_cases hq : nthI xs k = nthI ys k
          · have hqb : (nthI xs k != nthI ys k) = false := by rw [hq]; simp
            have HQ := Lib.hid hq
            clear hq
            go_wp2_with fail
            go_quiet (fail)
            go_wp2_with fail
            go_roundg (n - (k + 1))
            case measure => omega
            case rel => exact ⟨k + 1, by omega, by omega, by go_num, ⟨_, rfl⟩, upto_succ HH.out HQ.out⟩
          · have hqb : (nthI xs k != nthI ys k) = true := by rw [bne_iff_ne]; exact hq
            have hS : sameT f g xs ys = false := by
              unfold sameT
              rw [decide_eq_false (fun e => hq (by rw [e])), Bool.and_false]
            clear hq
            go_wp2_with fail
            go_quiet (fail)
            go_wp2_with fail
            go_ret
            exact ⟨ret_bool hS.symm, below_drewN' (below_drewN' hb _) _⟩
        · obtain rfl : k = n := by omega
          have hS : sameT f g xs ys = true := by
            unfold sameT
            rw [he, Bool.true_and]
            exact decide_eq_true (ints_nth_eq (by rw [← HN.out, ← HM.out]) (fun i hi => HH.out i (by rw [HN.out]; exact hi)))
          go_wp2_with fail
          go_ret
          exact ⟨ret_bool hS.symm, below_drewN' hb _⟩
    · have hS : sameT f g xs ys = false := by
        unfold sameT
        rw [decide_eq_false (fun e => hl (by rw [HN.out, HM.out, e])), Bool.and_false]
      have hlb : ((n : Int) != (m : Int)) = true := by rw [bne_iff_ne]; omega
      have hlb' : (n != m) = true := by rw [bne_iff_ne]; omega
      clear hl
      go_enter Try.func12, Try.ntmps12
      go_upto_region 1 with (fail)
      change Code.wp _ _ _ _ ((w.alloc (.cells (cellsOf 17 (treeH f (.slice A n c))) 26)).alloc (.cells (cellsOf 17 (treeH g (.slice B m d))) 26))
      generalize (w.alloc (.cells (cellsOf 17 (treeH f (.slice A n c))) 26)).alloc (.cells (cellsOf 17 (treeH g (.slice B m d))) 26) = W2 at *
      go_wp2_with (first | (refine load_cnt rfl (.tmp 6) rfl rfl ka ?_) | (refine load_cnt rfl (.tmp 8) rfl rfl kb ?_))
      go_ret
      exact ⟨ret_bool hS.symm, hb⟩
  · have he' : eqF 16 f g = false := by simpa using he
    rw [he'] at CN
    have hS : sameT f g xs ys = false := by
      unfold sameT
      rw [he', Bool.false_and]
    clear he he'
    go_enter Try.func12, Try.ntmps12
    go_upto_region 1 with (fail)
    change Code.wp _ _ _ _ ((w.alloc (.cells (cellsOf 17 (treeH f (.slice A n c))) 26)).alloc (.cells (cellsOf 17 (treeH g (.slice B m d))) 26))
    generalize (w.alloc (.cells (cellsOf 17 (treeH f (.slice A n c))) 26)).alloc (.cells (cellsOf 17 (treeH g (.slice B m d))) 26) = W2 at *
    go_wp2_with (first | (refine load_cnt rfl (.tmp 6) rfl rfl ka ?_) | (refine load_cnt rfl (.tmp 8) rfl rfl kb ?_))
    go_ret
    exact ⟨ret_bool hS.symm, hb⟩

/-- slices.Equal on numbers. -/
def SameRes (w w' : World) (e : Ending) (b : Bool) : Prop := e = .returned (.bool b) ∧ ∃ q, w' = w.drewN q
set_option maxRecDepth 100000 in
set_option maxHeartbeats 2000000 in
theorem equal_any (A B : Option Addr) (n c m d : Nat) (xs ys : List Int) (w : World) (hx : Rd w A (ints xs)) (hy : Rd w B (ints ys)) (hn : n = xs.length) (hm : m = ys.length) (hn1 : n ≤ 1001) (hm1 : m ≤ 1001) :
    Calls Try.prog 31 #[.slice A n c, .slice B m d] w fun e w' => SameRes w w' e (decide (xs = ys)) := by
  have HN := Lib.hid hn
  have HM := Lib.hid hm
  clear hn hm
  by_cases hl : n = m
  · subst hl
    go_enter Try.func31, Try.ntmps31
    go_wp2_with fail
    go_loopg [13] n (fun gk v wr => ∃ k : Nat, k ≤ n ∧ gk = n - k ∧ v = .int .i64 (k : Int) ∧ (∃ q, wr = w.drewN q) ∧ ∀ i, i < k → nthI xs i = nthI ys i)
    case atStart => exact ⟨0, by omega, by omega, rfl, ⟨0, rfl⟩, fun i hi => by omega⟩
    case round =>
      obtain ⟨k, hk, hgk, rfl, ⟨q, rfl⟩, hh⟩ := hrel
      have HH := Lib.hid hh
      clear hh
      by_cases hlt : k < n
      · obtain ⟨b, off, rfl, hc1⟩ := hx.at_ (by rw [ints_length, ← HN.out]; omega)
        obtain ⟨b', off', rfl, hc2⟩ := hy.at_ (by rw [ints_length, ← HM.out]; omega)
        have h1 := hc1 k _ (ints_get xs k (by rw [← HN.out]; exact hlt))
        have h2 := hc2 k _ (ints_get ys k (by rw [← HM.out]; exact hlt))
        clear hc1 hc2
        by_cases hq : nthI xs k = nthI ys k
        · have hqb : (nthI xs k != nthI ys k) = false := by rw [hq]; simp
          have HQ := Lib.hid hq
          clear hq
          go_wp2_with fail
          go_quiet (fail)
          go_wp2_with fail
          go_roundg (n - (k + 1))
          case measure => omega
          case rel => exact ⟨k + 1, by omega, by omega, by go_num, ⟨_, rfl⟩, upto_succ HH.out HQ.out⟩
        · have hqb : (nthI xs k != nthI ys k) = true := by rw [bne_iff_ne]; exact hq
          have hS : decide (xs = ys) = false := decide_eq_false (fun e => hq (by rw [e]))
          clear hq
          go_wp2_with fail
          go_quiet (fail)
          go_wp2_with fail
          go_ret
          exact ⟨ret_bool hS.symm, _, by first | rfl | exact World.drewN_drewN _ _ _⟩
      · obtain rfl : k = n := by omega
        have hS : decide (xs = ys) = true := decide_eq_true (ints_nth_eq (by rw [← HN.out, ← HM.out]) (fun i hi => HH.out i (by rw [HN.out]; exact hi)))
        go_wp2_with fail
        go_ret
        exact ⟨ret_bool hS.symm, _, by first | rfl | exact World.drewN_drewN _ _ _⟩
  · have hS : decide (xs = ys) = false := decide_eq_false (fun e => hl (by rw [HN.out, HM.out, e]))
    have hlb : ((n : Int) != (m : Int)) = true := by rw [bne_iff_ne]; omega
    have hlb' : (n != m) = true := by rw [bne_iff_ne]; omega
    clear hl
    rw [hS]
    go_enter Try.func31, Try.ntmps31
    go_wp2_with fail
    go_ret
    exact ⟨rfl, 0, rfl⟩

set_option maxRecDepth 100000 in
set_option maxHeartbeats 2000000 in
theorem tsame_any (f g : Nat → Int) (A B : Option Addr) (n c m d : Nat) (xs ys : List Int) (w : World) (hx : Rd w A (ints xs)) (hy : Rd w B (ints ys)) (hn : n = xs.length) (hm : m = ys.length) (hn1 : n ≤ 1001) (hm1 : m ≤ 1001) :
    Calls Try.prog 15 #[treeV f A n c, treeV g B m d] w fun e w' => e = .returned (.bool (sameT f g xs ys)) ∧ Below w.heap.size w w' := by
  unfold treeV
  have CN := cnt_eql f g
  have HB : ∀ o o', Below w.heap.size w ((w.alloc o).alloc o') := fun o o' => ((Below.refl _ _).alloc (Nat.le_refl _) _).alloc (by simp) _
  have ka : Arr ((w.alloc (.cells (cellsOf 17 (treeH f (.slice A n c))) 26)).alloc (.cells (cellsOf 17 (treeH g (.slice B m d))) 26)) w.heap.size 26 17 (treeH f (.slice A n c)) := Blk.alloc (Blk.new _ _ _) _
  have kb : Arr ((w.alloc (.cells (cellsOf 17 (treeH f (.slice A n c))) 26)).alloc (.cells (cellsOf 17 (treeH g (.slice B m d))) 26)) (w.heap.size + 1) 26 17 (treeH g (.slice B m d)) := Blk.new' _ _ _ _ (by simp)
  have ca := Arr.cell ka 16 (by omega)
  have cb := Arr.cell kb 16 (by omega)
  rw [treeH_16] at ca cb
  have hb := HB (.cells (cellsOf 17 (treeH f (.slice A n c))) 26) (.cells (cellsOf 17 (treeH g (.slice B m d))) 26)
  have HE := Lib.hid (fun w hx hy => equal_any A B n c m d xs ys w hx hy hn hm hn1 hm1)
  have hx2 := hx.below hb
  have hy2 := hy.below hb
  clear HB hx hy hn hm
  by_cases he : eqF 16 f g = true
  · rw [he] at CN
    have hS : sameT f g xs ys = decide (xs = ys) := by unfold sameT; rw [he, Bool.true_and]
    rw [hS]
    generalize decide (xs = ys) = z at *
    clear he hS
    go_enter Try.func15, Try.ntmps15
    go_upto_region 1 with (fail)
    change Code.wp _ _ _ _ ((w.alloc (.cells (cellsOf 17 (treeH f (.slice A n c))) 26)).alloc (.cells (cellsOf 17 (treeH g (.slice B m d))) 26))
    generalize (w.alloc (.cells (cellsOf 17 (treeH f (.slice A n c))) 26)).alloc (.cells (cellsOf 17 (treeH g (.slice B m d))) 26) = W2 at *
    go_wp2_with (first | (refine load_cnt rfl (.tmp 5) rfl rfl ka ?_) | (refine load_cnt rfl (.tmp 7) rfl rfl kb ?_) | (go_at_call 31; refine (HE.out _ hx2 hy2).mono ?_; rintro e w' ⟨rfl, q, rfl⟩))
    go_ret
    exact ⟨rfl, below_drewN' hb _⟩
  · have he' : eqF 16 f g = false := by simpa using he
    rw [he'] at CN
    have hS : sameT f g xs ys = false := by
      unfold sameT
      rw [he', Bool.false_and]
    rw [hS]
    clear he he' hS
    go_enter Try.func15, Try.ntmps15
    go_upto_region 1 with (fail)
    change Code.wp _ _ _ _ ((w.alloc (.cells (cellsOf 17 (treeH f (.slice A n c))) 26)).alloc (.cells (cellsOf 17 (treeH g (.slice B m d))) 26))
    generalize (w.alloc (.cells (cellsOf 17 (treeH f (.slice A n c))) 26)).alloc (.cells (cellsOf 17 (treeH g (.slice B m d))) 26) = W2 at *
    go_wp2_with (first | (refine load_cnt rfl (.tmp 5) rfl rfl ka ?_) | (refine load_cnt rfl (.tmp 7) rfl rfl kb ?_))
    go_ret
    exact ⟨rfl, hb⟩
end Go.Proofs.Ytpfhaalbikgmnaa
