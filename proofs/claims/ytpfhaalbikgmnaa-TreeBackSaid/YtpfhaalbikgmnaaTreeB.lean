/-
  Walks: the reference's Grow.
-/
import Derived.Test.YtpfhaalbikgmnaaTreeA
namespace Go.Proofs.Ytpfhaalbikgmnaa
open Go.RowKit

set_option maxRecDepth 100000 in
set_option maxHeartbeats 2000000 in
theorem rgrow_any (A : Option Addr) (c : Nat) (l : List Nat) (m : Int) (w : World) (hl : Bs w A l) (hm : l.length ≤ 1001) (h1 : -9223372036854775808 ≤ m) (h2 : m ≤ 9223372036854775807) :
    Calls Try.prog 11 #[.slice A l.length c, .int .i64 m] w fun e w' => Below w.heap.size w w' ∧
      ∃ (B : Option Addr) (n d : Nat) (f : Nat → Int) (xs : List Int), e = .returned (.tuple #[treeV f B n d, .int .i64 (canE l m)]) ∧ w'.ownsRow w.heap.size 3 1 (.slice B n d) n (ints xs) ∧
        if canE l m = 0 then f = cntS (allP l 16) ∧ xs = symS (allP l 16) else f = (fun _ => 0) ∧ xs = [] := by
  have HK := Lib.hid fun w hl => rcheck_any A c l m w hl hm h1 h2
  have HG := Lib.hid fun w hl => rgrown_any A c l w hl hm
  by_cases he : canE l m = 0
  · simp only [if_pos he]
    rw [he] at HK ⊢
    clear he
    go_enter Try.func11, Try.ntmps11
    go_wp2_with fail
    refine (HK.out _ (hl.alloc (.cells (cellsOf 17 (treeH (fun _ => 0) (.slice none 0 0))) 26))).mono ?_
    rintro e W ⟨rfl, hW⟩
    have hT : Arr W w.heap.size 26 17 (treeH (fun _ => 0) (.slice none 0 0)) := by rw [hW]; exact Blk.new _ _ _
    have hb : Below w.heap.size w W := by rw [hW]; exact (Below.refl _ _).alloc (Nat.le_refl _) _
    clear hW
    have hl1 := hl.below hb
    go_wp2_with fail
    refine (HG.out _ hl1).mono ?_
    rintro e W3 ⟨B, d, rfl, hB⟩
    have hT3 := Arr.below hT hB.1 (Blk.lt hT)
    have hB3 := hB.rebase hb
    unfold treeV
    go_wp2_with (refine store_over rfl 26 (.tmp 4) (.tmp 15) rfl rfl rfl hT3 tree_size (fun k _ => treeH_one _ _ _ _ k) ?_; intro w5 hT5 hg5)
    have cs := fun i hi => Arr.cell hT5 i hi
    refine bodyPost_ret (v := .tuple #[treeV (cntS (allP l 16)) B (allP l 16).length d, .int .i64 0]) (by simp [results, Try.results11, go_sem, cs]; rfl) rfl ?_
    exact ⟨hB3.1.trans (only_below hg5 hB3.1.size (Nat.le_refl _)), B, _, d, _, _, rfl, hB3.2.kept hg5 (.inr (own_blk_ne hB3.2 hT3 (by decide))), rfl, rfl⟩
  · have hne : (((canE l m : Nat) : Int) != 0) = true := by rw [bne_iff_ne]; omega
    simp only [if_neg he]
    clear he
    generalize canE l m = E at *
    go_enter Try.func11, Try.ntmps11
    go_wp2_with fail
    refine (HK.out _ (hl.alloc (.cells (cellsOf 17 (treeH (fun _ => 0) (.slice none 0 0))) 26))).mono ?_
    rintro e W ⟨rfl, hW⟩
    have hT : Arr W w.heap.size 26 17 (treeH (fun _ => 0) (.slice none 0 0)) := by rw [hW]; exact Blk.new _ _ _
    have hb : Below w.heap.size w W := by rw [hW]; exact (Below.refl _ _).alloc (Nat.le_refl _) _
    clear hW
    go_wp2_with (refine store_over (f := treeH (fun _ => 0) (.slice none 0 0)) rfl 26 (.tmp 4) (.tmp 12) rfl rfl rfl hT tree_size (fun k _ => treeH_one _ _ _ _ k) ?_; intro w5 hT5 hg5)
    have cs := fun i hi => Arr.cell hT5 i hi
    refine bodyPost_ret (v := .tuple #[treeV (fun _ => 0) none 0 0, .int .i64 (E : Int)]) (by simp [results, Try.results11, go_sem, cs]; rfl) rfl ?_
    exact ⟨hb.trans (only_below hg5 hb.size (Nat.le_refl _)), none, 0, 0, _, _, rfl, World.ownsRow_nil _ _ _ _, rfl, rfl⟩
end Go.Proofs.Ytpfhaalbikgmnaa
