/-
  Walks: bytes.Clone, slices.Clone of ints.
-/
import Derived.Test.YtahboomghjdjhaaGreatG06
import Derived.Test.YtahboomghjdjhaaGreatG32
import Derived.Test.YtahboomghjdjhaaGreatG41
namespace Go.Proofs.YtahboomghjdjhaaGreat
open Go.RowKit

set_option maxRecDepth 100000 in
set_option maxHeartbeats 1000000 in
theorem bclone_any (A : Option Addr) (n c : Nat) (xs : List Nat) (w : World) (h : Rd w A (u8s xs)) (hn : n = xs.length) (hm : n ≤ 1000000) :
    Calls Tryz.prog 17 #[.slice A n c] w fun e w' => ∃ A' c', e = .returned (.slice A' n c') ∧ w'.ownsRow w.heap.size 5 1 (.slice A' n c') n (u8s xs) ∧ Below w.heap.size w w' := by
  rcases A with _ | ad
  · have hx : xs = [] := List.map_eq_nil_iff.1 (h.2 rfl)
    subst hx
    subst hn
    have e1 := fun n => Lib.run_eql_slice_nil (P := Tryz.prog) w 22 5 none n c 0 0 Tryz.underlying22
    go_enter Tryz.func17, Tryz.ntmps17
    go_wp2_with fail
    go_ret
    exact ⟨none, 0, rfl, World.ownsRow_nil _ _ _ _, Below.refl _ _⟩
  · have e1 := Lib.run_eql_slice_nil (P := Tryz.prog) w 22 5 (some ad) n c 0 0 Tryz.underlying22
    have h1 := h.alloc (.cells #[] 5)
    have HN := Lib.hid hn
    clear hn
    go_enter Tryz.func17, Tryz.ntmps17
    go_wp2_with (first
      | (at_builtin
         go_loud (refine grow_own (base := w.heap.size) (xs := []) selem_u8 rfl (.tmp 5) (.tmp 6) rfl rfl (by exact World.ownsRow_made w #[] 0 (Nat.le_refl _) (by omega) rfl) (by simp) rfl h1 (by rw [u8s_length, Nat.mul_one]; exact HN.out.symm) (u8s_one _) n (Nat.zero_add _) (u8s xs) (List.nil_append _) (by omega) (by omega) ?_)
         intro A1 c1 w1 hown hg))
    go_ret
    exact ⟨A1, c1, rfl, hown, ((Below.refl _ _).alloc (Nat.le_refl _) _).grown hg (by simp) (by simp [Value.ownBlock])⟩
set_option maxRecDepth 100000 in
set_option maxHeartbeats 1000000 in
theorem iclone_any (A : Option Addr) (n c : Nat) (xs : List Int) (w : World) (h : Rd w A (ints xs)) (hn : n = xs.length) (hm : n ≤ 1000000) :
    Calls Tryz.prog 19 #[.slice A n c] w fun e w' => ∃ A' c', e = .returned (.slice A' n c') ∧ w'.ownsRow w.heap.size 3 1 (.slice A' n c') n (ints xs) ∧ Below w.heap.size w w' := by
  rcases A with _ | ad
  · have hx : xs = [] := List.map_eq_nil_iff.1 (h.2 rfl)
    subst hx
    subst hn
    have e1 := fun n => Lib.run_eql_slice_nil (P := Tryz.prog) w 24 3 none n c 0 0 Tryz.underlying24
    go_enter Tryz.func19, Tryz.ntmps19
    go_wp2_with fail
    go_ret
    exact ⟨none, 0, rfl, World.ownsRow_nil _ _ _ _, Below.refl _ _⟩
  · have e1 := Lib.run_eql_slice_nil (P := Tryz.prog) w 24 3 (some ad) n c 0 0 Tryz.underlying24
    have h1 := h.alloc (.cells #[] 3)
    have HN := Lib.hid hn
    clear hn
    go_enter Tryz.func19, Tryz.ntmps19
    go_wp2_with (first
      | (at_builtin
         go_loud (refine grow_own (base := w.heap.size) (xs := []) elem_int rfl (.tmp 5) (.tmp 6) rfl rfl (by exact World.ownsRow_made w #[] 0 (Nat.le_refl _) (by omega) rfl) (by simp) rfl h1 (by rw [ints_length, Nat.mul_one]; exact HN.out.symm) (by intro u hu; obtain ⟨x, _, rfl⟩ := List.mem_map.1 hu; rfl) n (Nat.zero_add _) (ints xs) (List.nil_append _) (by omega) (by omega) ?_)
         intro A1 c1 w1 hown hg))
    go_ret
    exact ⟨A1, c1, rfl, hown, ((Below.refl _ _).alloc (Nat.le_refl _) _).grown hg (by simp) (by simp [Value.ownBlock])⟩
end Go.Proofs.YtahboomghjdjhaaGreat
