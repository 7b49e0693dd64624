/-
  Walks: the reference's Grown.
-/
import Derived.Test.YtpfhaalbikgmnaaTreeH
namespace Go.Proofs.Ytpfhaalbikgmnaa
open Go.RowKit

theorem elem_int : Elem Try.prog 24 3 1 8 := Elem.mk' Try.underlying24 (z := .int .i64 0) (by kernel_rfl) rfl (by omega)

/-- A row stored over another one: only its block has turned. -/
theorem store_over {P : Program} {ops : Array Oper} {rest : List Oper} {o : Oper} {a : Act} {w : World} {Q : Exit → Act → World → Prop} (hgd : o.guard = none) (ty : TypeId) (x y : Operand) (ho : o.op = .store ty x y)
    {g : Nat} (hx : a.eval x = .pointer (some ⟨g, 0, none⟩)) {t : TypeId} {n : Nat} {f f0 : Nat → Value} (hy : a.eval y = .agg (cellsOf n f)) (hA : Arr w g t n f0)
    (hi : (P.info? ty).map (·.size) = some n) (h1 : ∀ k, k < n → (f k).oneCell' = true)
    (h : ∀ w', Arr w' g t n f → w.grownBy w' (some g) → wpList P ops Q rest (a.put o.dst undef) w') : wpList P ops Q (o :: rest) a w :=
  wpList_store_row hgd ty x y ho g (cellsOf n f) hx hy t _ hA (by rw [hi, cellsOf_size]) (by rw [cellsOf_size, cellsOf_size]) (cellsOf_one h1)
    (h _ (setRow_heap w g _ _ t _ hA) ⟨rfl, rfl, rfl, by simp, fun k _ hne => setRow_other w g k _ (fun e => hne (by rw [e]))⟩)
theorem treeH_one (f : Nat → Int) (A : Option Addr) (n c : Nat) (k : Nat) : (treeH f (.slice A n c) k).oneCell' = true := by unfold treeH; split <;> rfl

/-- A tree under way in a box. -/
def TreeAt (W w : World) (g : Nat) (p : List (Nat × Nat)) (B : Option Addr) (d : Nat) : Prop :=
  Arr w g 26 17 (treeH (cntS p) (.slice B p.length d)) ∧ Builds W w 3 1 B p.length d (ints (symS p))

set_option maxRecDepth 100000 in
set_option maxHeartbeats 4000000 in
theorem rgrown_any (A : Option Addr) (c : Nat) (l : List Nat) (w : World) (hl : Bs w A l) (hm : l.length ≤ 1001) :
    Calls Try.prog 29 #[.slice A l.length c] w fun e w' =>
      ∃ (B : Option Addr) (d : Nat), e = .returned (treeV (cntS (allP l 16)) B (allP l 16).length d) ∧ Builds w w' 3 1 B (allP l 16).length d (ints (symS (allP l 16))) := by
  go_enter Try.func29, Try.ntmps29
  go_wp2_with fail
  have kr : Arr ((w.alloc (.cells (cellsOf 17 (treeH (fun _ => 0) (.slice none 0 0))) 26)).alloc (.cells (cellsOf 17 (treeH (fun _ => 0) (.slice none 0 0))) 26)) w.heap.size 26 17 (treeH (fun _ => 0) (.slice none 0 0)) := Blk.alloc (Blk.new _ _ _) _
  have kt : Arr ((w.alloc (.cells (cellsOf 17 (treeH (fun _ => 0) (.slice none 0 0))) 26)).alloc (.cells (cellsOf 17 (treeH (fun _ => 0) (.slice none 0 0))) 26)) (w.heap.size + 1) 26 17 (treeH (fun _ => 0) (.slice none 0 0)) := Blk.new' _ _ _ _ (by simp)
  have hb : Below w.heap.size w ((w.alloc (.cells (cellsOf 17 (treeH (fun _ => 0) (.slice none 0 0))) 26)).alloc (.cells (cellsOf 17 (treeH (fun _ => 0) (.slice none 0 0))) 26)) := ((Below.refl _ _).alloc (Nat.le_refl _) _).alloc (by simp) _
  change Code.wp _ _ _ _ ((w.alloc (.cells (cellsOf 17 (treeH (fun _ => 0) (.slice none 0 0))) 26)).alloc (.cells (cellsOf 17 (treeH (fun _ => 0) (.slice none 0 0))) 26))
  generalize (w.alloc (.cells (cellsOf 17 (treeH (fun _ => 0) (.slice none 0 0))) 26)).alloc (.cells (cellsOf 17 (treeH (fun _ => 0) (.slice none 0 0))) 26) = W2 at *
  go_loopg [4] 15 (fun gk v wr => ∃ (n : Nat) (B : Option Addr) (d : Nat), 1 ≤ n ∧ n ≤ 16 ∧ gk = 16 - n ∧ v = .int .i64 (n : Int) ∧ Arr wr w.heap.size 26 17 (treeH (fun _ => 0) (.slice none 0 0)) ∧ TreeAt w wr (w.heap.size + 1) (allP l n) B d)
  case atStart => exact ⟨1, none, 0, by omega, by omega, rfl, rfl, kr, kt, Builds.nil' hb _ _⟩
  case round =>
    clear kr kt hb
    obtain ⟨n, B, d, hn1, hn, hgk, rfl, kr, ht⟩ := hrel
    by_cases hlt : n < 16
    · have hd : decide ((n : Int) ≤ 15) = true := decide_eq_true (by omega)
      go_wp2_with fail
      go_loopg [5] l.length (fun gk v wr => ∃ (j : Nat) (B : Option Addr) (d : Nat), j ≤ l.length ∧ gk = l.length - j ∧ v = .int .i64 (j : Int) ∧ Arr wr w.heap.size 26 17 (treeH (fun _ => 0) (.slice none 0 0)) ∧ TreeAt w wr (w.heap.size + 1) (part l n j) B d)
      case atStart => exact ⟨0, B, d, by omega, by omega, rfl, kr, by rw [part_zero]; exact ht⟩
      case round =>
        have hgo := hgk
        clear kr ht hgk
        obtain ⟨j, B, d, hj, hgk, rfl, kr, hT, hB⟩ := hrel
        have hp := part_len (l := l) (k := n) (j := j) hlt
        by_cases hjl : j < l.length
        · have hp := hp hjl
          obtain ⟨b, off, rfl, hc, hx⟩ := (hl.below hB.1).at_ hjl
          by_cases hit : nth l j = n
          · have e1 : (((nth l j : Nat) : Int) == (n : Int)) = true := by rw [beq_iff_eq]; omega
            have HIT := Lib.hid (part_hit hit (by omega))
            clear hit
            generalize nth l j = x at *
            generalize part l n j = pre at *
            have hq0 := cntS_le pre n
            obtain ⟨q, hq⟩ : ∃ q, cntS pre n = q := ⟨_, rfl⟩
            rw [hq] at hq0
            have hq1 : 0 ≤ q := hq0.1
            have hq2 : q ≤ 20000 := by omega
            clear hq0
            have hp2 : pre.length ≤ 20000 := by omega
            have c1 : wr.cell? ⟨w.heap.size + 1, n, none⟩ = some (.int .i64 q) := by rw [Arr.cell hT n (by omega), treeH_lt hlt, hq]
            have f1 := Blk.frozen hT n
            have hT1 := Arr.set hT n (.int .i64 (q + 1))
            have c16 : (wr.setCell ⟨w.heap.size + 1, n, none⟩ (.int .i64 (q + 1))).cell? ⟨w.heap.size + 1, 16, none⟩ = some (.slice B pre.length d) := by
              rw [Arr.cell hT1 16 (by omega)]; rw [if_neg (by omega), treeH_16]
            have hB1 : Builds w (wr.setCell ⟨w.heap.size + 1, n, none⟩ (.int .i64 (q + 1))) 3 1 B pre.length d (ints (symS pre)) := ⟨hB.1.setCell (p := ⟨w.heap.size + 1, n, none⟩) (by show w.heap.size ≤ w.heap.size + 1; omega) _, own_far hB.2 (p := ⟨w.heap.size + 1, n, none⟩) (own_blk_ne hB.2 hT (by decide)) _⟩
            have kr1 := Arr.far kr (p := ⟨w.heap.size + 1, n, none⟩) (by show w.heap.size ≠ w.heap.size + 1; omega) (.int .i64 (q + 1))
            have HNE := Lib.hid (And.intro (own_blk_ne hB1.2 hT1 (by decide)) (own_blk_ne hB1.2 kr1 (by decide)))
            have HQ := Lib.hid hq
            have hlt1 := Blk.lt hT1
            clear hq
            go_wp2_with (at_builtin; refine grow elem_int rfl (.tmp 31) (.tmp 33) rfl rfl (hB1.alloc _) rfl (Rd.new' _ _ _ (ints [(j : Int)]) _ (by simp) rfl) rfl (ints_one _) (pre.length + 1) rfl (ints (symS pre ++ [(j : Int)])) (ints_append _ _).symm (by omega) (by omega) ?_; intro B2 d2 w2 hB2 hg2; have hT2 := Blk.grown (Blk.alloc hT1 (.cells #[.int .i64 (j : Int)] 3)) hg2 (fun e => HNE.out.1 e.symm); have c2 := Blk.cell hT2 16; have f2 := Blk.frozen hT2 16)
            go_roundg (l.length - (j + 1))
            case measure => omega
            case rel =>
              refine ⟨j + 1, B2, d2, by omega, by omega, by go_num, ?_, ?_⟩
              · exact Blk.far (Blk.grown (Blk.alloc kr1 (.cells #[.int .i64 (j : Int)] 3)) hg2 (fun e => HNE.out.2 e.symm)) (p := ⟨w.heap.size + 1, 16, none⟩) (by show w.heap.size ≠ w.heap.size + 1; omega) _
              · rw [HIT.out]
                have el : (pre ++ [(n, j)]).length = pre.length + 1 := by simp
                unfold TreeAt
                rw [el]
                refine ⟨?_, ⟨hB2.1.setCell (p := ⟨w.heap.size + 1, 16, none⟩) (by show w.heap.size ≤ w.heap.size + 1; omega) _, ?_⟩⟩
                · refine (Arr.set hT2 16 (.slice B2 (pre.length + 1) d2)).congr fun i hi => ?_
                  by_cases h16 : i = 16
                  · subst h16; rw [if_pos rfl, treeH_16]
                  · rw [if_neg h16, treeH_lt (by omega), treeH_lt (by omega), cntS_snoc]
                    by_cases hjk : i = n
                    · subst hjk; rw [if_pos rfl, if_pos rfl, HQ.out]
                    · rw [if_neg hjk, if_neg hjk]
                · have e2 : symS (pre ++ [(n, j)]) = symS pre ++ [(j : Int)] := by simp [symS]
                  rw [e2]
                  exact own_far hB2.2 (own_blk_ne hB2.2 hT2 (by decide)) _
          · have e1 : (((nth l j : Nat) : Int) == (n : Int)) = false := by rw [beq_eq_false_iff_ne]; omega
            have HM := Lib.hid (part_miss (k := n) (l := l) (j := j) (fun h => hit h.1))
            clear hit
            generalize nth l j = x at *
            go_wp2_with fail
            go_roundg (l.length - (j + 1))
            case measure => omega
            case rel => exact ⟨j + 1, B, d, by omega, by omega, by go_num, kr, by rw [HM.out]; exact ⟨hT, hB⟩⟩
        · obtain rfl : j = l.length := by omega
          go_wp2_with fail
          go_roundg (16 - (n + 1))
          case measure => omega
          case rel => exact ⟨n + 1, B, d, by omega, by omega, by omega, by go_num, kr, by rw [← part_full]; exact ⟨hT, hB⟩⟩
    · obtain rfl : n = 16 := by omega
      obtain ⟨hT, hB⟩ := ht
      go_wp2_with (first
        | (refine load_arr rfl 26 (.tmp 3) rfl rfl hT tree_under rfl tree_size ?_)
        | (refine store_over rfl 26 (.tmp 2) (.tmp 36) rfl rfl rfl kr tree_size (fun k _ => treeH_one _ _ _ _ k) ?_; intro w5 hT5 hg5))
      refine bodyPost_ret (results_cell_row Try.results29 _ _ w.heap.size 26 (cellsOf 17 (treeH (cntS (allP l 16)) (.slice B (allP l 16).length d))) (0, 0) _ rfl hT5 tree_under rfl (by rw [tree_size, cellsOf_size])) rfl ⟨B, d, rfl, ?_⟩
      exact ⟨hB.1.trans (only_below hg5 hB.1.size (Nat.le_refl _)), hB.2.kept hg5 (.inr (own_blk_ne hB.2 kr (by decide)))⟩
end Go.Proofs.Ytpfhaalbikgmnaa
