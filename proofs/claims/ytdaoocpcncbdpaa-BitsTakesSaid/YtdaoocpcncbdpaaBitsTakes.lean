/-
  The law BitsTakes, walked.
-/
import Derived.Test.YtdaoocpcncbdpaaBitsB
import Derived.Test.YtdaoocpcncbdpaaOpen
namespace Go.Proofs.Ytdaoocpcncbdpaa
open Go.RowKit

theorem info_u8 : (Try.prog.info? 5).map (fun i => (i.zero, i.size, i.bytes)) = some (some (.int .u8 0), 1, 1) := by kernel_rfl

set_option maxHeartbeats 400000 in
theorem takes_walk (A : Option Addr) (l : List Nat) (c : Nat) (at_ n : Int) (v : Nat) (w : World) (hin : InBs w A l)
    (h1 : -9223372036854775808 ≤ at_) (h2 : at_ ≤ 9223372036854775807) (h3 : -9223372036854775808 ≤ n) (h4 : n ≤ 9223372036854775807) (hv : v < 4294967296) :
    Calls Try.prog 3 #[.slice A l.length c, .int .i64 at_, .int .i64 n, .int .u32 v] w fun e w' => e = .returned (.bool true) ∧ Below w.heap.size w w' := by
  obtain ⟨hl, hA, hm⟩ := hin
  unfold maxLen at hm
  obtain ⟨i0, hi0, hz0, hz1, hz2⟩ := info_parts info_u8
  by_cases hbig : 10000 < l.length
  · go_enter Try.func3, Try.ntmps3
    go_wp2_with fail
    go_ret
    exact ⟨rfl, Below.refl _ _⟩
  · have hn0 : A = none → l.length = 0 := fun h => by rw [hA h]; rfl
    have HA := Lib.hid hn0; clear hn0
    have HA' := Lib.hid hA; clear hA
    go_enter Try.func3, Try.ntmps3
    go_wp2_with (at_builtin; refine wpList_app _ rfl (.const (.slice none 0 0)) (.tmp 21) _ rfl w.heap.size 5 i0 _ 1 1 Try.underlying22 hi0 hz0 hz1 hz2 rfl (by omega) (.slice none 0 0) 0 [] rfl (World.ownsRow_nil _ _ _ _) A l.length c (u8s l) rfl (by simp [u8s]) hl.1 HA.out (u8s_one l) l.length (by omega) (u8s l) rfl (by simp only [maxLen]; omega) (by omega) (Nat.le_refl _) ?_; intro A1 c1 w1 hown hg hat)
    have hB1 : Below w.heap.size w w1 := (Below.refl _ _).grown hg (Nat.le_refl _) (by simp [Value.ownBlock])
    have ho1 : Bs w1 A1 l := Bs.of_own hown hl.2
    have hl1 : Bs w1 A l := hl.below hB1
    have hA1 : A1 = none → l = [] := own_nil hown
    clear hg hat
    refine (take_any A1 c1 l at_ n _ ho1 (by omega) h1 h2).mono ?_
    rintro e w' ⟨rfl, rfl⟩
    go_wp2_with fail
    refine (rtake_any A c l at_ n _ hl1 (by omega) h1 h2).mono ?_
    rintro e w' ⟨rfl, rfl⟩
    go_wp2_with fail
    refine (turn_any v n _ hv h3 h4).mono ?_
    rintro e w' ⟨rfl, rfl⟩
    go_wp2_with fail
    refine (rturn_any v n _ hv h3 h4).mono ?_
    rintro e w' ⟨rfl, rfl⟩
    have hc1 := conv_bytes (P := Try.prog) w1 22 5 Try.underlying22 Try.underlying5 9 Try.underlying9 A1 l c1 ho1 hA1
    have hc2 := conv_bytes (P := Try.prog) w1 22 5 Try.underlying22 Try.underlying5 9 Try.underlying9 A l c hl1 HA'.out
    clear hA1
    go_wp2_with fail
    go_outline
    go_ret
    exact ⟨rfl, hB1⟩
end Go.Proofs.Ytdaoocpcncbdpaa
