/-
  Walks: New, Check, last.
-/
import Derived.Test.YtocmodieeceonaaMemF
import Derived.Test.YtocmodieeceonaaOpen
import Derived.Test.YtocmodieeceonaaRows
import Derived.Deep.RegionHeld3
namespace Go.Proofs.Ytocmodieeceonaa
open Go.RowKit

theorem info_u8 : (Try.prog.info? 5).map (fun i => (i.zero, i.size, i.bytes)) = some (some (.int .u8 0), 1, 1) := by kernel_rfl

/-- The last ones of some bytes. -/
def lastL (s : Nat) (l : List Nat) : List Nat := l.drop (l.length - s)

/-- A window that the call made. -/
def WinAt (w w' : World) (B : Option Addr) (d s : Nat) (l : List Nat) (v : Value) : Prop :=
  v = .agg #[.int .i64 (s : Int), .slice B l.length d] ∧ w'.ownsRow w.heap.size 5 1 (.slice B l.length d) l.length (u8s l)

theorem check_no (A : Option Addr) (c : Nat) (l : List Nat) (s : Int) (w : World) (hm : l.length ≤ 1000000000) (h1 : -9223372036854775808 ≤ s) (h2 : s ≤ 9223372036854775807) (h : ¬ (1 ≤ s ∧ s ≤ 32768 ∧ (l.length : Int) ≤ s)) :
    Calls Try.prog 11 #[.agg #[.int .i64 s, .slice A l.length c]] w fun e w' => e = .returned (.int .i64 8) ∧ Below w.heap.size w w' := by
  go_enter Try.func11, Try.ntmps11
  have q : s < 1 ∨ (¬ s < 1 ∧ 32768 < s) ∨ (¬ s < 1 ∧ ¬ 32768 < s ∧ s < l.length) := by omega
  rcases q with q | ⟨q1, q2⟩ | ⟨q1, q2, q3⟩
  all_goals (go_wp2_with fail; go_ret; exact ⟨rfl, (Below.refl _ _).alloc (Nat.le_refl _) _⟩)

theorem check_yes (A : Option Addr) (c : Nat) (l : List Nat) (s : Nat) (w : World) (h1 : 1 ≤ s) (h2 : s ≤ 32768) (h : l.length ≤ s) :
    Calls Try.prog 11 #[.agg #[.int .i64 s, .slice A l.length c]] w fun e w' => e = .returned (.int .i64 0) ∧ Below w.heap.size w w' := by
  go_enter Try.func11, Try.ntmps11
  go_wp2_with fail
  go_ret; exact ⟨rfl, (Below.refl _ _).alloc (Nat.le_refl _) _⟩

theorem new_no (s : Int) (w : World) (h1 : -9223372036854775808 ≤ s) (h2 : s ≤ 9223372036854775807) (h : s < 1 ∨ 32768 < s) :
    Calls Try.prog 9 #[.int .i64 s] w fun e w' => e = .returned (.tuple #[.agg #[.int .i64 0, .slice none 0 0], .int .i64 2]) ∧ Below w.heap.size w w' := by
  go_enter Try.func9, Try.ntmps9
  have q : s < 1 ∨ (¬ s < 1 ∧ 32768 < s) := by omega
  rcases q with q | ⟨q1, q2⟩
  all_goals (
    go_wp2_with fail
    refine bodyPost_ret (v := .tuple #[.agg #[.int .i64 0, .slice none 0 0], .int .i64 2]) (by simp [results, Try.results9, go_sem]) rfl ⟨rfl, ?_⟩
    exact (Below.refl _ _).alloc (Nat.le_refl _) _)

theorem new_yes (s : Nat) (w : World) (h1 : 1 ≤ s) (h2 : s ≤ 32768) :
    Calls Try.prog 9 #[.int .i64 s] w fun e w' => e = .returned (.tuple #[.agg #[.int .i64 s, .slice none 0 0], .int .i64 0]) ∧ Below w.heap.size w w' := by
  go_enter Try.func9, Try.ntmps9
  go_wp2_with fail
  refine bodyPost_ret (v := .tuple #[.agg #[.int .i64 s, .slice none 0 0], .int .i64 0]) (by simp [results, Try.results9, go_sem]) rfl ⟨rfl, ?_⟩
  exact (Below.refl _ _).alloc (Nat.le_refl _) _


theorem Sl.drop {w : World} {A : Option Addr} {xs : List Value} (h : Sl w A xs) (k : Nat) : Sl w (A.map fun x => x.add k) (xs.drop k) := fun hn => by
  rw [List.length_drop] at hn
  obtain ⟨b, off, e, hc⟩ := h (by omega)
  subst e
  refine ⟨b, off + k, by simp [add_plain], fun i u hu => ?_⟩
  rw [List.getElem?_drop] at hu
  rw [Nat.add_assoc]
  exact hc _ _ hu
theorem Bs.drop {w : World} {A : Option Addr} {l : List Nat} (h : Bs w A l) (k : Nat) : Bs w (A.map fun x => x.add k) (l.drop k) :=
  ⟨by have := h.1.drop k; rwa [← List.map_drop] at this, fun x hx => h.2 x (List.mem_of_mem_drop hx)⟩
theorem drop_nil {A : Option Addr} {l : List Nat} (h : A = none → l = []) (k : Nat) : (A.map fun x => x.add k) = none → l.drop k = [] := by
  intro e
  have : A = none := by simpa using e
  rw [h this]; simp

set_option maxHeartbeats 1000000 in
theorem last_any (s : Nat) (A : Option Addr) (c : Nat) (l : List Nat) (w : World) (hs1 : 1 ≤ s) (hs2 : s ≤ 32768) (hm : l.length ≤ 1000000000) (hc : l.length ≤ c) (hl : Bs w A l) (hA : A = none → l = []) :
    Calls Try.prog 13 #[.int .i64 s, .slice A l.length c] w fun e w' => Below w.heap.size w w' ∧ ∃ B d, e = .returned (.agg #[.int .i64 s, .slice B (lastL s l).length d]) ∧
      w'.ownsRow w.heap.size 5 1 (.slice B (lastL s l).length d) (lastL s l).length (u8s (lastL s l)) := by
  obtain ⟨i0, hi0, hz0, hz1, hz2⟩ := info_parts info_u8
  have HD := Lib.hid (And.intro (hl.drop (l.length - s)) (drop_nil hA (l.length - s)))
  have hlen : (lastL s l).length = l.length - (l.length - s) := by simp [lastL]
  have hle : (lastL s l).length ≤ 32768 := by omega
  change Hid (Bs w _ (lastL s l) ∧ (_ → lastL s l = [])) at HD
  by_cases hlt : s < l.length
  · generalize lastL s l = L at *
    have hL : l.length - (l.length - s) = L.length := hlen.symm
    have HL := Lib.hid hlen
    have HA := Lib.hid hA
    clear hlen hA
    go_enter Try.func13, Try.ntmps13
    have HS := Lib.hid fun (o : Obj) => And.intro (HD.out.1.alloc o) (fun h => by rw [HD.out.2 h]; rfl : (A.map fun x => x.add (l.length - s)) = none → L.length = 0)
    go_wp2_with (at_builtin; refine wpList_app _ rfl (.const (.slice none 0 0)) (.tmp 17) _ rfl w.heap.size 5 i0 _ 1 1 Try.underlying22 hi0 hz0 hz1 hz2 rfl (by omega) (.slice none 0 0) 0 [] rfl (World.ownsRow_nil _ _ _ _) (A.map fun x => x.add (l.length - s)) L.length L.length (u8s L) rfl (by simp [u8s]) (HS.out _).1.1 (HS.out (.cells #[] 0)).2 (u8s_one L) L.length (by omega) (u8s L) rfl (by simp only [maxLen]; omega) (by omega) (by simp) ?_; intro A1 c1 w1 hown hg hat; have k1 : Blk w1 w.heap.size 24 #[.int .i64 0, .slice none 0 0] := (Blk.new _ _ _).grown hg (by simp [Value.ownBlock]); have x1 := Blk.cells k1; have y1 := Blk.frozens k1)
    have b1 : Below w.heap.size w w1 := ((Below.refl _ _).alloc (Nat.le_refl _) _).grown hg (by simp) (by simp [Value.ownBlock])
    have ne := own_blk_ne hown k1 (by decide)
    refine bodyPost_ret (v := .agg #[.int .i64 s, .slice A1 L.length c1]) (by simp [results, Try.results13, go_sem, x1]) rfl ⟨?_, A1, c1, rfl, ?_⟩
    · exact (b1.setCell (Nat.le_refl _) _).setCell (Nat.le_refl _) _
    · exact own_far (own_far hown ne _) ne _
  · have h0 : l.length - s = 0 := by omega
    have eL : lastL s l = l := by unfold lastL; rw [h0]; rfl
    rw [eL]
    have h1 : IntKind.i64.wrap ((l.length : Int) - s) = (l.length : Int) - s := IntWalk.i64_in _ (by omega)
    have hA0 : A = none → l.length = 0 := fun h => by rw [hA h]; rfl
    have HA := Lib.hid hA0
    clear hA hA0 HD eL
    rcases Nat.eq_zero_or_pos l.length with hz | hz
    · obtain rfl := List.eq_nil_of_length_eq_zero hz
      go_enter Try.func13, Try.ntmps13
      go_wp2_with (at_builtin; refine wpList_app _ rfl (.const (.slice none 0 0)) (.tmp 17) _ rfl w.heap.size 5 i0 _ 1 1 Try.underlying22 hi0 hz0 hz1 hz2 rfl (by omega) (.slice none 0 0) 0 [] rfl (World.ownsRow_nil _ _ _ _) A 0 0 (u8s []) rfl (by simp [u8s]) (hl.alloc _).1 HA.out (u8s_one _) 0 (by omega) (u8s []) rfl (by simp only [maxLen]; omega) (by omega) (by simp) ?_; intro A1 c1 w1 hown hg hat; have k1 : Blk w1 w.heap.size 24 #[.int .i64 0, .slice none 0 0] := (Blk.new _ _ _).grown hg (by simp [Value.ownBlock]); have x1 := Blk.cells k1; have y1 := Blk.frozens k1)
      have b1 : Below w.heap.size w w1 := ((Below.refl _ _).alloc (Nat.le_refl _) _).grown hg (by simp) (by simp [Value.ownBlock])
      have ne := own_blk_ne hown k1 (by decide)
      refine bodyPost_ret (v := .agg #[.int .i64 s, .slice A1 0 c1]) (by simp [results, Try.results13, go_sem, x1]) rfl ⟨?_, A1, c1, rfl, ?_⟩
      · exact (b1.setCell (Nat.le_refl _) _).setCell (Nat.le_refl _) _
      · exact own_far (own_far hown ne _) ne _
    · go_enter Try.func13, Try.ntmps13
      go_wp2_with (at_builtin; refine wpList_app _ rfl (.const (.slice none 0 0)) (.tmp 17) _ rfl w.heap.size 5 i0 _ 1 1 Try.underlying22 hi0 hz0 hz1 hz2 rfl (by omega) (.slice none 0 0) 0 [] rfl (World.ownsRow_nil _ _ _ _) A l.length l.length (u8s l) rfl (by simp [u8s]) (hl.alloc _).1 HA.out (u8s_one _) l.length (by omega) (u8s l) rfl (by simp only [maxLen]; omega) (by omega) (by simp) ?_; intro A1 c1 w1 hown hg hat; have k1 : Blk w1 w.heap.size 24 #[.int .i64 0, .slice none 0 0] := (Blk.new _ _ _).grown hg (by simp [Value.ownBlock]); have x1 := Blk.cells k1; have y1 := Blk.frozens k1)
      have b1 : Below w.heap.size w w1 := ((Below.refl _ _).alloc (Nat.le_refl _) _).grown hg (by simp) (by simp [Value.ownBlock])
      have ne := own_blk_ne hown k1 (by decide)
      refine bodyPost_ret (v := .agg #[.int .i64 s, .slice A1 l.length c1]) (by simp [results, Try.results13, go_sem, x1]) rfl ⟨?_, A1, c1, rfl, ?_⟩
      · exact (b1.setCell (Nat.le_refl _) _).setCell (Nat.le_refl _) _
      · exact own_far (own_far hown ne _) ne _

end Go.Proofs.Ytocmodieeceonaa
