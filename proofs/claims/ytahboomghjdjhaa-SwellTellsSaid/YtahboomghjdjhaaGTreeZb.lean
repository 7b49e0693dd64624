/-
  Plain: a code's bits, put behind a pen, are read as its symbol.
-/
import Derived.Test.YtahboomghjdjhaaG12
import Derived.Test.YtahboomghjdjhaaGTreeW
import Derived.Test.YtahboomghjdjhaaGTreeZ
namespace Go.Proofs.Ytahboomghjdjhaa

theorem cnt_app_zeros (l : List Nat) (k n : Nat) : cnt (l ++ List.replicate k 0) n = cnt l n := by
  unfold cnt
  by_cases h : n = 0
  · rw [if_pos h, if_pos h]
  · rw [if_neg h, if_neg h, List.count_append, List.count_replicate]
    simp [show ¬ (0 = n) by omega]
theorem cnt_pad (l : List Nat) : cnt (padL l) = cnt l := by funext n; exact cnt_app_zeros l _ n
theorem codeAt_pad {l : List Nat} {i : Nat} (hi : i < l.length) : codeAt (padL l) i = codeAt l i := by
  unfold codeAt
  rw [padL_nth, cnt_pad, show (padL l).take i = l.take i by unfold padL; rw [List.take_append_of_le_length (by omega)]]
theorem gF_ok {l : List Nat} {m : Int} (h : canE l m = 0) : gF l m = cntS (allP l 16) ∧ gX l m = symS (allP l 16) := by unfold gF gX; rw [if_pos h, if_pos h]; exact ⟨rfl, rfl⟩
theorem chk_gF {l : List Nat} {m : Int} (h : canE l m = 0) : chkE (gF l m) (gX l m) = 0 := by
  rw [(gF_ok h).1, (gF_ok h).2]; exact chkE_some (chk_grown h)
theorem nx_back {l : List Nat} {m : Int} {p : List Nat} {q s : Nat} (hc : canE l m = 0) (hs : s < l.length) (h0 : nth l s ≠ 0) (hP : Pen p q) :
    nxT (gF l m) (gX l m) (putL p q (rev (codeAt l s).1 (nth l s)) (nth l s)) (q : Int) = (s, q + nth l s, 0) := by
  obtain ⟨c1, c2, c3, c4, c5, c6⟩ := canE_ok hc
  rw [(gF_ok hc).1, (gF_ok hc).2, nx_some (chk_grown hc) (by omega), Int.toNat_natCast]
  have hput := hP.put (rev (codeAt l s).1 (nth l s)) (nth l s)
  have hlen := hput.1.len
  have hsp : s < (padL l).length := by rw [padL_length c3]; omega
  have := rd_back (l := padL l) (b := putL p q (rev (codeAt l s).1 (nth l s)) (nth l s)) (canE_15 hc) (s := s) (P := q) hsp (by rw [padL_nth]; exact h0) (by rw [padL_nth]; omega)
    (fun j hj => by
      rw [padL_nth] at hj ⊢
      rw [codeAt_pad hs, hput.2, if_neg (by omega), if_pos (by omega), Nat.add_sub_cancel_left, rev_bit _ _ j hj])
    (nth (padL l) s) 0 (by omega)
  rw [padL_nth, codeAt_pad hs] at this
  have hf := code_fits (l := l) (fun x hx => by have := c4 x hx; omega) c5 hs
  rw [Nat.div_eq_of_lt hf] at this
  exact this
end Go.Proofs.Ytahboomghjdjhaa
