/-
  Walks: Push.
-/
import Derived.Test.YtocmodieeceonaaSlideA
namespace Go.Proofs.Ytocmodieeceonaa
open Go.RowKit

/-- May bytes and a size be a window? -/
def MayW (s : Int) (l : List Nat) : Prop := 1 ≤ s ∧ s ≤ 32768 ∧ (l.length : Int) ≤ s

/-- What is answered: a window of the call's own, and an error. -/
def WinRes (w w' : World) (e : Ending) (s : Nat) (l : List Nat) (E : Nat) : Prop :=
  Below w.heap.size w w' ∧ ∃ B d, e = .returned (.tuple #[.agg #[.int .i64 (s : Int), .slice B l.length d], .int .i64 (E : Int)]) ∧ w'.ownsRow w.heap.size 5 1 (.slice B l.length d) l.length (u8s l)

theorem WinRes.none_ {w w' : World} {e : Ending} {E : Nat} (h : Below w.heap.size w w') (he : e = .returned (.tuple #[.agg #[.int .i64 0, .slice none 0 0], .int .i64 (E : Int)])) : WinRes w w' e 0 [] E :=
  ⟨h, none, 0, he, World.ownsRow_nil _ _ _ _⟩

set_option maxHeartbeats 1000000 in
theorem push_bad (A B : Option Addr) (c d : Nat) (l b : List Nat) (s : Int) (w : World) (hm : l.length ≤ 1000000000) (h1 : -9223372036854775808 ≤ s) (h2 : s ≤ 9223372036854775807) (h : ¬ MayW s l) :
    Calls Try.prog 12 #[.agg #[.int .i64 s, .slice A l.length c], .slice B b.length d] w fun e w' => WinRes w w' e 0 [] 8 := by
  have HC := Lib.hid fun w => check_no A c l s w hm h1 h2 h
  clear h
  go_enter Try.func12, Try.ntmps12
  go_wp2_with fail
  refine (HC.out _).mono ?_
  rintro e w1 ⟨rfl, hb1⟩
  obtain ⟨b1, z1, z2, k1, k2⟩ := box2 hb1
  have c2 := Blk.cells k2
  have f2 := Blk.frozens k2
  clear hb1
  go_wp2_with fail
  refine bodyPost_ret (v := .tuple #[.agg #[.int .i64 0, .slice none 0 0], .int .i64 8]) (by simp [results, Try.results12, go_sem, c2]) rfl (WinRes.none_ ?_ rfl)
  exact (b1.setCell (by simp) _).setCell (by simp) _

set_option maxHeartbeats 1000000 in
theorem push_many (A B : Option Addr) (c d : Nat) (l b : List Nat) (s : Nat) (w : World) (h : MayW s l) (hb : 131072 < b.length) (hbm : b.length ≤ 1000000000) :
    Calls Try.prog 12 #[.agg #[.int .i64 s, .slice A l.length c], .slice B b.length d] w fun e w' => WinRes w w' e 0 [] 4 := by
  obtain ⟨h1, h2, h3⟩ := h
  have HC := Lib.hid fun w => check_yes A c l s w (by omega) (by omega) (by omega)
  go_enter Try.func12, Try.ntmps12
  go_wp2_with fail
  refine (HC.out _).mono ?_
  rintro e w1 ⟨rfl, hb1⟩
  obtain ⟨b1, z1, z2, k1, k2⟩ := box2 hb1
  have c2 := Blk.cells k2
  have f2 := Blk.frozens k2
  clear hb1
  go_wp2_with fail
  refine bodyPost_ret (v := .tuple #[.agg #[.int .i64 0, .slice none 0 0], .int .i64 4]) (by simp [results, Try.results12, go_sem, c2]) rfl (WinRes.none_ ?_ rfl)
  exact (b1.setCell (by simp) _).setCell (by simp) _

set_option maxHeartbeats 1000000 in
theorem push_ok (A B : Option Addr) (c d : Nat) (l b : List Nat) (s : Nat) (w : World) (h : MayW s l) (hbm : b.length ≤ 131072) (hc : l.length ≤ c) (hl : Bs w A l) (hA : A = none → l = []) (hb : Bs w B b) (hB : B = none → b = []) :
    Calls Try.prog 12 #[.agg #[.int .i64 s, .slice A l.length c], .slice B b.length d] w fun e w' => WinRes w w' e s (lastL s (l ++ b)) 0 := by
  obtain ⟨i0, hi0, hz0, hz1, hz2⟩ := info_parts info_u8
  obtain ⟨h1, h2, h3⟩ := h
  have HC := Lib.hid fun w => check_yes A c l s w (by omega) (by omega) (by omega)
  have hA0 : A = none → l.length = 0 := fun h => by rw [hA h]; rfl
  have hB0 : B = none → b.length = 0 := fun h => by rw [hB h]; rfl
  have HA := Lib.hid (And.intro hA0 hB0)
  clear hA hB hA0 hB0
  go_enter Try.func12, Try.ntmps12
  go_wp2_with fail
  refine (HC.out _).mono ?_
  rintro e w1 ⟨rfl, hb1⟩
  obtain ⟨b1, z1, z2, k1, k2⟩ := box2 hb1
  have c1 := Blk.cells k1
  have hl1 := hl.below b1
  have hb1' := hb.below b1
  clear hb1
  go_wp2_with fail
  have S1 : Sl w1.drew A (u8s l) := hl1.1
  have S2 : Sl w1.drew B (u8s b) := hb1'.1
  have S3 := u8s_one b
  have S4 := u8s_append l b
  have S5 : (u8s l).length = l.length * 1 := by simp [u8s]
  have S6 : (u8s b).length = b.length * 1 := by simp [u8s]
  have S7 : (l ++ b).length = l.length + b.length := by simp
  have S8 : l.length + b.length ≤ maxLen := by simp only [maxLen]; omega
  have S9 : (l.length + b.length) * 1 ≤ 140737488355328 := by omega
  have T1 : ∀ x ∈ l ++ b, x < 256 := fun x hx => (List.mem_append.1 hx).elim (hl.2 x) (hb.2 x)
  have T2 : (l ++ b).length ≤ 1000000000 := by simp; omega
  generalize hLL : l ++ b = L at *
  have HLL := Lib.hid hLL; clear hLL
  have SS := Lib.hid (And.intro S1 (And.intro S2 (And.intro S3 (And.intro S4 (And.intro S5 (And.intro S6 (And.intro S7 (And.intro S8 S9))))))))
  have TT := Lib.hid (And.intro T1 T2)
  clear S1 S2 S3 S4 S5 S6 S7 S8 S9 T1 T2
  go_region_held3 (fun wx => wx.cell? ⟨w.heap.size, 0, none⟩ = some (.int .i64 s)) (first | exact Blk.cell k1 0 | exact x3 | exact x4 | (simp [World.cell?_setCell_other]; exact x4)) (first
    | (refine step_full _ rfl (.tmp 29) (.tmp 30) _ rfl 5 i0 _ 1 1 Try.underlying22 hi0 hz0 hz1 hz2 rfl (by omega) A l.length (u8s l) rfl SS.out.2.2.2.2.1 SS.out.1 HA.out.1 B b.length d (u8s b) rfl SS.out.2.2.2.2.2.1 SS.out.2.1 HA.out.2 SS.out.2.2.1 L.length SS.out.2.2.2.2.2.2.1 (u8s L) SS.out.2.2.2.1 SS.out.2.2.2.2.2.2.2.1 SS.out.2.2.2.2.2.2.2.2 ?_; intro A3 c3 w3 hs3 hn3 hc3 hg3; have k3 : Blk w3 w.heap.size 24 #[.int .i64 s, .slice A l.length c] := Blk.grown (Blk.drew k1) hg3 (by simp); have k4 : Blk w3 (w.heap.size + 1) 24 #[.int .i64 0, .slice none 0 0] := Blk.grown (Blk.drew k2) hg3 (by simp); have b3 : Below w.heap.size w w3 := Below.grown (b1.drew) hg3 (by exact b1.size) (by simp); have x3 : w3.cell? ⟨w.heap.size, 0, none⟩ = some (.int .i64 s) := Blk.cell k3 0)
    | (go_at_call 13; refine (last_any s A3 c3 L _ (Int.ofNat_le.1 h1) (Int.ofNat_le.1 h2) TT.out.2 hc3 ⟨by exact hs3, TT.out.1⟩ (fun h => List.eq_nil_of_length_eq_zero (hn3 h))).mono ?_; rintro e w4 ⟨hb4, A4, c4, rfl, hown4⟩; have k5 : Blk w4 w.heap.size 24 #[.int .i64 s, .slice A l.length c] := Blk.below (by exact k3) hb4 (by exact Blk.lt k3); have k6 : Blk w4 (w.heap.size + 1) 24 #[.int .i64 0, .slice none 0 0] := Blk.below (by exact k4) hb4 (by exact Blk.lt k4); have c6 := Blk.cells k6; have f6 := Blk.frozens k6; have x4 : w4.cell? ⟨w.heap.size, 0, none⟩ = some (.int .i64 s) := Blk.cell k5 0))
  have hle : (lastL s L).length ≤ 1000000000 := by have := TT.out.2; simp [lastL]; omega
  have ne := own_blk_ne hown4 k6 (by decide)
  have hown5 := own_far_base (base' := w.heap.size) hown4 b3.size
  have b4 := b3.trans (hb4.mono b3.size)
  clear hb4 hown4 x3 x4 hl hb hl1 hb1' hs3
  generalize hMM : lastL s L = M at *
  have HMM := Lib.hid hMM; clear hMM
  go_wp2_with fail
  refine bodyPost_ret (v := .tuple #[.agg #[.int .i64 s, .slice A4 M.length c4], .int .i64 0]) (by simp [results, Try.results12, go_sem, c6]) rfl ?_
  rw [HLL.out, HMM.out]
  refine ⟨?_, A4, c4, rfl, ?_⟩
  · exact (b4.setCell (by simp) _).setCell (by simp) _
  · exact own_far (own_far hown5 ne _) ne _
end Go.Proofs.Ytocmodieeceonaa
