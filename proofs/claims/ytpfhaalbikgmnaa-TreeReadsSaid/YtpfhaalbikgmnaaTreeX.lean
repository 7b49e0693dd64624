/-
  Walks: the law TreeReads.
-/
import Derived.Test.YtpfhaalbikgmnaaTreeW
namespace Go.Proofs.Ytpfhaalbikgmnaa
open Go.RowKit

set_option maxRecDepth 100000 in
set_option maxHeartbeats 4000000 in
theorem law_reads' (f : Nat → Int) (B : Option Addr) (xs : List Int) (cb : Nat) (A : Option Addr) (b : List Nat) (c : Nat) (a : Int) (w : World) (nb nx : Nat) (hnb : nb = b.length) (hnx : nx = xs.length)
    (hB : Rd w B (ints xs)) (_ : nx ≤ cb) (hbm : nx ≤ maxLen) (hl : Bs w A b) (hA : A = none → b = []) (hm : nb ≤ maxLen) (h1 : -9223372036854775808 ≤ a) (h2 : a ≤ 9223372036854775807) :
    Calls Try.prog 5 #[.agg (cellsOf 17 (treeH f (.slice B nx cb))), .slice A nb c, .int .i64 a] w fun e w' => e = .returned (.bool true) ∧ Below w.heap.size w w' := by
  unfold maxLen at hm hbm
  have HA := Lib.hid hA
  have HN := Lib.hid (And.intro hnb hnx)
  have k3 : Arr (w.alloc (.cells (cellsOf 17 (treeH f (.slice B nx cb))) 26)) w.heap.size 26 17 (treeH f (.slice B nx cb)) := Blk.new _ _ _
  have hb0 : Below w.heap.size w (w.alloc (.cells (cellsOf 17 (treeH f (.slice B nx cb))) 26)) := (Below.refl _ _).alloc (Nat.le_refl _) _
  have c3 := (Arr.cell k3 16 (by omega)).trans (congrArg some treeH_16)
  clear hA hnb hnx
  by_cases hbig : 1000 < nx ∨ 1000 < nb
  · have hcases : 1000 < nx ∨ (¬ 1000 < nx ∧ 1000 < nb) := by omega
    clear hbig
    rcases hcases with hq | ⟨hp, hq⟩
    all_goals
      go_enter Try.func5, Try.ntmps5
      go_upto_region 1 with (fail)
      change Code.wp _ _ _ _ (w.alloc (.cells (cellsOf 17 (treeH f (.slice B nx cb))) 26))
      generalize w.alloc (.cells (cellsOf 17 (treeH f (.slice B nx cb))) 26) = W0 at *
      go_wp2_with fail
      go_ret
      exact ⟨rfl, hb0⟩
  · have g1 : nx ≤ 1000 := by omega
    have g2 : nb ≤ 1000 := by omega
    clear hbig
    go_enter Try.func5, Try.ntmps5
    go_upto_region 1 with (fail)
    change Code.wp _ _ _ _ (w.alloc (.cells (cellsOf 17 (treeH f (.slice B nx cb))) 26))
    generalize w.alloc (.cells (cellsOf 17 (treeH f (.slice B nx cb))) 26) = W0 at *
    have HTw := Lib.hid (fun wx (h : Rd wx B (ints xs)) => rtwin_is f B nx cb xs wx h HN.out.2 (by omega))
    have hB0 := hB.below hb0
    go_upto_region 4 with (first
      | (refine load_arr rfl 26 (.tmp 3) rfl rfl k3 tree_under rfl tree_size ?_)
      | (go_at_call 9; refine (HTw.out _ hB0).mono ?_; rintro e W1 ⟨B1, d1, rfl, hT1⟩)
      | (refine store_new rfl 26 (.tmp 7) (.tmp 25) rfl _ _ rfl rfl rfl 26 _ (by rw [cellsOf_size]; exact tree_size) (by rw [cellsOf_size]; rfl) (cellsOf_one (fun k _ => treeH_one _ _ _ _ k)) ?_))
    change Code.wp _ _ _ _ (W1.alloc (.cells (cellsOf 17 (treeH f (.slice B1 nx d1))) 26))
    have k7 : Arr (W1.alloc (.cells (cellsOf 17 (treeH f (.slice B1 nx d1))) 26)) W1.heap.size 26 17 (treeH f (.slice B1 nx d1)) := Blk.new _ _ _
    have hb2 : Below W0.heap.size W0 (W1.alloc (.cells (cellsOf 17 (treeH f (.slice B1 nx d1))) 26)) := hT1.1.alloc hT1.1.size _
    have hr7 := hT1.rd.alloc (.cells (cellsOf 17 (treeH f (.slice B1 nx d1))) 26)
    have hbx2 := hb0.trans (hb2.mono hb0.size)
    replace k3 := Arr.below k3 hb2 (Blk.lt k3)
    have hd7 := hT1.cap
    generalize W1.alloc (.cells (cellsOf 17 (treeH f (.slice B1 nx d1))) 26) = W2 at *
    clear c3 hb0 hb2 hT1 HTw hB0
    have hl2 := hl.below hbx2
    have hrl := hl2.rd HA.out
    go_upto_region 5 with (at_builtin; refine grow elem_u8 rfl (.const (.slice none 0 0)) (.tmp 26) rfl rfl (Builds.nil_ W2 _ _) rfl hrl (by rw [u8s_length, HN.out.1, Nat.mul_one]) (u8s_one _) nb (by omega) (u8s b) rfl (by omega) (by omega) ?_; intro A3 c3 W3 hB3 hg3)
    clear hg3
    have hb3 := hbx2.trans (hB3.1.mono hbx2.size)
    replace k3 := Arr.below k3 hB3.1 (Blk.lt k3)
    replace k7 := Arr.below k7 hB3.1 (Blk.lt k7)
    replace hr7 := hr7.below hB3.1
    have hin3 := hB3.rd
    have hl3 := rd_u8 hin3 hl2.2
    clear hrl hl2 hbx2 hB3
    have HX1 := Lib.hid (fun wx (hr : Rd wx B1 (ints xs)) (h : Bs wx A3 b) => show Calls Try.prog 20 #[.agg (cellsOf 17 (treeH f (.slice B1 nx d1))), .slice A3 nb c3, .int .i64 a] wx (fun e w' => ReadRes wx w' e (nxT f xs b a)) from tnext_any f B1 A3 nx d1 nb c3 xs b a wx hr HN.out.2 hd7 (by omega) h HN.out.1 (by omega) h1 h2)
    have HX2 := Lib.hid (fun wx (hr : Rd wx B (ints xs)) (h : Bs wx A b) => show Calls Try.prog 21 #[.agg (cellsOf 17 (treeH f (.slice B nx cb))), .slice A nb c, .int .i64 a] wx (fun e w' => ReadRes wx w' e (nxT f xs b a)) from rnext_any f B A nx cb nb c xs b a wx hr HN.out.2 (by omega) h HN.out.1 (by omega) h1 h2)
    unfold ReadRes at HX1 HX2
    generalize nxT f xs b a = r at *
    obtain ⟨r1, r2, r3⟩ := r
    dsimp only at HX1 HX2
    go_upto_region 6 with (first
      | (refine load_arr rfl 26 (.tmp 7) rfl rfl k7 tree_under rfl tree_size ?_)
      | (go_at_call 20; refine (HX1.out _ hr7 hl3).mono ?_; rintro e W4 ⟨rfl, b4⟩))
    have hb4 := hb3.trans (b4.mono hb3.size)
    replace k3 := Arr.below k3 b4 (Blk.lt k3)
    replace k7 := Arr.below k7 b4 (Blk.lt k7)
    replace hr7 := hr7.below b4
    replace hin3 := hin3.below b4
    clear hl3 b4 hb3 HX1
    have hx4 := hB.below hb4
    have hl4 := hl.below hb4
    go_upto_region 7 with (first
      | (refine load_arr rfl 26 (.tmp 3) rfl rfl k3 tree_under rfl tree_size ?_)
      | (go_at_call 21; refine (HX2.out _ hx4 hl4).mono ?_; rintro e W5 ⟨rfl, b5⟩))
    have hb5 := hb4.trans (b5.mono hb4.size)
    replace k3 := Arr.below k3 b5 (Blk.lt k3)
    replace k7 := Arr.below k7 b5 (Blk.lt k7)
    replace hr7 := hr7.below b5
    replace hin3 := hin3.below b5
    clear b5 hb4 HX2 hx4 hl4
    have hx5 := hB.below hb5
    have HS := Lib.hid (fun wx (hr : Rd wx B1 (ints xs)) (h : Rd wx B (ints xs)) => show Calls Try.prog 12 #[.agg (cellsOf 17 (treeH f (.slice B1 nx d1))), .agg (cellsOf 17 (treeH f (.slice B nx cb)))] wx (fun e w' => e = .returned (.bool true) ∧ Below wx.heap.size wx w') from by
      have := rsame_any f f B1 B nx d1 nx cb xs xs wx hr h HN.out.2 HN.out.2 (by omega) (by omega)
      rw [sameT_refl] at this
      exact this)
    have MC1 := fun (wx : World) (h : Bs wx A3 b) => show (convert 22 9 (.slice A3 nb c3)).run Try.prog wx = .ok (.string (str b)) wx from by
      have := conv_bytes (P := Try.prog) wx 22 5 Try.underlying22 Try.underlying5 9 Try.underlying9 A3 b c3 h (fun h => List.map_eq_nil_iff.1 (hin3.2 h))
      rw [← HN.out.1] at this
      exact this
    have MC2 := fun (wx : World) (h : Bs wx A b) => show (convert 22 9 (.slice A nb c)).run Try.prog wx = .ok (.string (str b)) wx from by
      have := conv_bytes (P := Try.prog) wx 22 5 Try.underlying22 Try.underlying5 9 Try.underlying9 A b c h HA.out
      rw [← HN.out.1] at this
      exact this
    have HM := Lib.hid (And.intro MC1 MC2)
    clear MC1 MC2
    go_wp2_with (first
      | (refine load_arrG rfl 26 (.tmp 7) rfl rfl k7 tree_under rfl tree_size ?_)
      | (refine load_arrG rfl 26 (.tmp 3) rfl rfl k3 tree_under rfl tree_size ?_)
      | (go_at_call 12; refine (HS.out _ hr7 hx5).mono ?_; rintro e W6 ⟨rfl, b6⟩; have hb6 := hb5.trans (b6.mono hb5.size); have cv1 := HM.out.1 W6 (rd_u8 (hin3.below b6) hl.2); have cv2 := HM.out.2 W6 (hl.below hb6)))
    go_ret
    exact ⟨rfl, hb6⟩

theorem law_reads (f : Nat → Int) (B : Option Addr) (xs : List Int) (cb : Nat) (A : Option Addr) (b : List Nat) (c : Nat) (a : Int) (w : World)
    (hB : Rd w B (ints xs)) (hbc : xs.length ≤ cb) (hbm : xs.length ≤ maxLen) (hin : InBs w A b) (h1 : -9223372036854775808 ≤ a) (h2 : a ≤ 9223372036854775807) :
    Calls Try.prog 5 #[treeV f B xs.length cb, .slice A b.length c, .int .i64 a] w fun e w' => e = .returned (.bool true) ∧ Below w.heap.size w w' :=
  law_reads' f B xs cb A b c a w _ _ rfl rfl hB hbc hbm hin.1 hin.2.1 hin.2.2 h1 h2
end Go.Proofs.Ytpfhaalbikgmnaa
