/-
  Walks: the law TreeGrows.
-/
import Derived.Test.YtahboomghjdjhaaGreatG11
import Derived.Test.YtahboomghjdjhaaGreatG16
import Derived.Test.YtahboomghjdjhaaGreatGOpenT
namespace Go.Proofs.YtahboomghjdjhaaGreat
open Go.RowKit

def gF (l : List Nat) (m : Int) : Nat → Int := if canE l m = 0 then cntS (allP l 16) else fun _ => 0
def gX (l : List Nat) (m : Int) : List Int := if canE l m = 0 then symS (allP l 16) else []
theorem gX_len (l : List Nat) (m : Int) : (gX l m).length ≤ l.length := by
  unfold gX
  split
  · rw [symS_length]; exact allP_le l 16
  · simp
theorem growRes {w w' : World} {e : Ending} {l : List Nat} {m : Int} (h : Below w.heap.size w w' ∧
      ∃ (B : Option Addr) (n d : Nat) (f : Nat → Int) (xs : List Int), e = .returned (.tuple #[treeV f B n d, .int .i64 (canE l m)]) ∧ w'.ownsRow w.heap.size 3 1 (.slice B n d) n (ints xs) ∧
        if canE l m = 0 then f = cntS (allP l 16) ∧ xs = symS (allP l 16) else f = (fun _ => 0) ∧ xs = []) :
    ∃ (B : Option Addr) (d : Nat), e = .returned (.tuple #[.agg (cellsOf 17 (treeH (gF l m) (.slice B (gX l m).length d))), .int .i64 (canE l m)]) ∧ Builds w w' 3 1 B (gX l m).length d (ints (gX l m)) := by
  obtain ⟨hb, B, n, d, f, xs, he, ho, hif⟩ := h
  have hn := ho.1
  rw [ints_length, Nat.mul_one] at hn
  have hfx : f = gF l m ∧ xs = gX l m := by
    unfold gF gX
    split at hif
    · rename_i h0; rw [if_pos h0, if_pos h0]; exact hif
    · rename_i h0; rw [if_neg h0, if_neg h0]; exact hif
  obtain ⟨rfl, rfl⟩ := hfx
  subst hn
  exact ⟨B, d, he, hb, ho⟩
theorem grow_is (A : Option Addr) (c nl : Nat) (l : List Nat) (m : Int) (w : World) (hl : Bs w A l) (hn : nl = l.length) (hm : nl ≤ 1001) (h1 : -9223372036854775808 ≤ m) (h2 : m ≤ 9223372036854775807) :
    Calls Tryz.prog 57 #[.slice A nl c, .int .i64 m] w fun e w' => ∃ (B : Option Addr) (d : Nat), e = .returned (.tuple #[.agg (cellsOf 17 (treeH (gF l m) (.slice B (gX l m).length d))), .int .i64 (canE l m)]) ∧ Builds w w' 3 1 B (gX l m).length d (ints (gX l m)) := by
  subst hn
  exact (grow_any A c l m w hl hm h1 h2).mono fun e w' h => growRes h
end Go.Proofs.YtahboomghjdjhaaGreat
