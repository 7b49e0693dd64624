/-
  Walks: the kinds of lengths and distances.
-/
import Derived.Test.YtkeempohhpjenaaReachA
namespace Go.Proofs.Ytkeempohhpjenaa
open Go.RowKit

set_option maxHeartbeats 400000 in
set_option maxRecDepth 100000 in
theorem longs_any (w : World) :
    Calls Try.prog 23 #[] w fun e w' => 
      ∃ A' c', e = .returned (.agg #[.int .i64 257, .slice A' 29 c']) ∧ w'.ownsRow w.heap.size 51 3 (.slice A' 29 c') 29 (symCells longT) ∧ Below w.heap.size w w' := by
  obtain ⟨i0, hi0, hz0, hz1, hz2⟩ := info_parts info_sym
  go_enter Try.func23, Try.ntmps23
  go_wp2_with fail
  refine (of_longs _ _ _ (Sl.new' _ _ _ _ _ (by simp) rfl)).mono ?_
  rintro e w1 ⟨A1, c1, rfl, hown, hbel⟩
  obtain ⟨g, hA, hg⟩ := own_at hown (by omega)
  subst hA
  have hblk : Blk w1 w.heap.size 41 #[.int .i64 0, .slice none 0 0] := ((Blk.new w _ _).alloc _).below hbel (by simp; omega)
  have hb : Below w.heap.size w w1 := (((Below.refl _ _).alloc (Nat.le_refl _) _).alloc (by simp) _).trans (hbel.mono (by simp; omega))
  have hz : w.heap.size + 2 ≤ w1.heap.size := by have := hbel.size; simpa using this
  have hg2 : w.heap.size + 2 ≤ g := by simpa using hg
  have hgl : g < w1.heap.size := (hown.lt g rfl).2
  have hc83 : w1.cell? ⟨g, 83, none⟩ = some (.int .i64 32) := hown.cellAt 83 (by omega)
  have hf83 := hown.frozenAt 83
  have hown1 := own_far_base (base' := w.heap.size) hown (by simp; omega)
  clear hown hg hbel
  have hown2 := (hown1.stored 83 (.int .i64 31)).1
  have hset : (symCells long0).set 83 (.int .i64 31) ++ [.int .i64 0, .int .i64 258, .int .i64 1] = symCells longT := rfl
  have Hset := Lib.hid hset; clear hset
  have hbx : Below w.heap.size w (w1.setCell ⟨g, 83, none⟩ (.int .i64 31)) := hb.setCell (by simp; omega) _
  have hblkx : Blk (w1.setCell ⟨g, 83, none⟩ (.int .i64 31)) w.heap.size 41 #[.int .i64 0, .slice none 0 0] := hblk.far (by simp; omega) _
  go_wp2_with
                  (at_builtin
                   refine wpList_app _ rfl (.tmp 20) (.tmp 22) _ rfl w.heap.size 51 i0 _ 3 24 Try.underlying39 hi0 hz0 hz1 hz2 rfl (by omega) (.slice (some ⟨g, 0, none⟩) 28 c1) 28 _ rfl (by exact (hown2.alloc _).alloc _) (some ⟨w1.heap.size + 1, 0, none⟩) 1 1 [.int .i64 0, .int .i64 258, .int .i64 1] rfl rfl (by exact Sl.new' _ _ _ _ _ (by simp) rfl) (by simp) (by simp [Value.oneCell']) 29 rfl _ Hset.out.symm (by simp only [maxLen]; omega) (by omega) (by simp; omega) ?_
                   intro A3 c3 w3 hown3 hg3 hat3
                   have hb3 : Below w.heap.size w w3 := (((hbx.alloc (by simp; omega) _).alloc (by simp; omega) _).grown hg3 (by simp; omega) (own_row_ge hown1))
                   have hblk3 : Blk w3 w1.heap.size 41 #[.int .i64 257, .slice (some ⟨g, 0, none⟩) 28 c1] := (((Blk.new' _ _ _ _ (by simp)).alloc _).grown hg3 (by simp [Value.ownBlock]; omega))
                   have hblkr : Blk w3 w.heap.size 41 #[.int .i64 0, .slice none 0 0] := (((hblkx.alloc _).alloc _).grown hg3 (by simp [Value.ownBlock]; omega))
                   have c30 : w3.cell? ⟨w1.heap.size, 0, none⟩ = some (.int .i64 257) := hblk3.cell 0
                   have c31 : w3.cell? ⟨w1.heap.size, 1, none⟩ = some (.slice (some ⟨g, 0, none⟩) 28 c1) := hblk3.cell 1
                   have f31 := hblk3.frozen 1
                   have r30 : w3.cell? ⟨w.heap.size, 0, none⟩ = some (.int .i64 0) := hblkr.cell 0
                   have r31 : w3.cell? ⟨w.heap.size, 1, none⟩ = some (.slice none 0 0) := hblkr.cell 1
                   have q30 := hblkr.frozen 0
                   have q31 := hblkr.frozen 1
                   have hz3 : w1.heap.size < w3.heap.size := by have := hg3.size; simp at this; omega
                   have n1 := own_blk_ne hown3 hblk3 (by decide)
                   have n2 := own_blk_ne hown3 hblkr (by decide)
                   have N := Lib.hid (And.intro n1 n2)
                   clear n1 n2 hblk3 hblkr hg3 hat3)
  refine bodyPost_ret (v := .agg #[.int .i64 257, .slice A3 29 c3]) (by simp [results, Try.results23, go_sem, r30, r31]) rfl ⟨A3, c3, rfl, ?_, ?_⟩
  · exact own_far (own_far (own_far hown3 N.out.1 _) N.out.2 _) N.out.2 _
  · exact ((hb3.setCell (by simp; omega) _).setCell (by simp) _).setCell (by simp) _
end Go.Proofs.Ytkeempohhpjenaa
