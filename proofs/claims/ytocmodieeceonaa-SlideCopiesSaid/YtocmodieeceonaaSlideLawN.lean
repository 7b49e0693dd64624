/-
  SlideNames, walked.
-/
import Derived.Test.YtocmodieeceonaaSlideLawS
import Derived.Test.YtocmodieeceonaaFrame
namespace Go.Proofs.Ytocmodieeceonaa
open Go.RowKit

/-- A copy, what it answers only to be read. -/
theorem copy_rd (A : Option Addr) (c : Nat) (l : List Nat) (s nl dist n : Nat) (w : World) (M T : List Nat) (hM : lastL s (copyL l dist n) = M) (hT : (copyL l dist n).drop l.length = T) (hnl : nl = l.length) (h : MayW s l) (hn : n ≤ 258) (hd1 : 1 ≤ dist) (hd2 : dist ≤ l.length) (hb : ∀ x ∈ l, x < 256) (hl : Rd w A (u8s l)) :
    Calls Try.prog 8 #[.agg #[.int .i64 s, .slice A nl c], .int .i64 dist, .int .i64 n] w fun e w' => ∃ B d C f, e = .returned (.tuple #[.agg #[.int .i64 (s : Int), .slice B M.length d], .slice C T.length f, .int .i64 0]) ∧ Below w.heap.size w w' ∧ Rd w' B (u8s M) ∧ Rd w' C (u8s T) ∧ M.length ≤ d :=
  (copy_is A c l s nl dist n w M T hM hT hnl h hn hd1 hd2 (rd_u8 hl hb) (fun e => List.map_eq_nil_iff.1 (hl.2 e))).mono fun e w' ⟨hbw, B, d, C, f, he, h1, h2⟩ => ⟨B, d, C, f, he, hbw, own_rd h1, own_rd h2, own_cap h1⟩
theorem copy_nay (A : Option Addr) (c : Nat) (l : List Nat) (s dist n : Int) (nl : Nat) (w : World) (E : Nat) (hE : copyE s l dist n = E) (h0 : E ≠ 0) (hnl : nl = l.length) (hm : l.length ≤ 1000000000) (h1 : -9223372036854775808 ≤ s) (h2 : s ≤ 9223372036854775807) :
    Calls Try.prog 8 #[.agg #[.int .i64 s, .slice A nl c], .int .i64 dist, .int .i64 n] w fun e w' => ∃ B d C f, e = .returned (.tuple #[.agg #[.int .i64 0, .slice B 0 d], .slice C 0 f, .int .i64 (E : Int)]) ∧ Below w.heap.size w w' := by
  subst hnl
  exact (copy_no A c l s dist n w E hE h0 hm h1 h2).mono fun e w' ⟨hbw, B, d, C, f, he, h1, h2⟩ => ⟨B, d, C, f, he, hbw⟩

set_option maxHeartbeats 4000000 in
set_option maxRecDepth 100000 in
theorem names_walk (w : World) : Calls Try.prog 3 #[] w fun e w' => e = .returned (.bool true) ∧ Below w.heap.size w w' := by
  obtain ⟨m, hm⟩ : ∃ m, m = [97, 98, 99] := ⟨_, rfl⟩
  obtain ⟨t, ht⟩ : ∃ m, m = [99, 99, 99, 99] := ⟨_, rfl⟩
  have n3 : 3 = m.length := by subst hm; rfl
  have n4 : t.length = 4 := by subst ht; rfl
  have bm : ∀ x ∈ m, x < 256 := by subst hm; simp
  have bt : ∀ x ∈ t, x < 256 := by subst ht; simp
  have mw : MayW (4 : Nat) m := ⟨by omega, by omega, by omega⟩
  have C1 := Lib.hid fun A c w hl => copy_rd A c m 4 3 1 4 w t t (by subst hm ht; decide) (by subst hm ht; decide) n3 mw (by omega) (by omega) (by omega) bm hl
  have C2 := Lib.hid fun A c w hl => copy_rd A c m 4 3 3 0 w m [] (by subst hm; decide) (by subst hm; decide) n3 mw (by omega) (by omega) (by omega) bm hl
  have C3 := Lib.hid fun A c w => copy_nay A c m 4 4 3 3 w 60 (by subst hm; decide) (by omega) n3 (by omega) (by omega) (by omega)
  have C4 := Lib.hid fun A c w => copy_nay A c m 4 0 3 3 w 2 (by subst hm; decide) (by omega) n3 (by omega) (by omega) (by omega)
  have C5 := Lib.hid fun A c w => copy_nay A c m 4 1 259 3 w 2 (by subst hm; decide) (by omega) n3 (by omega) (by omega) (by omega)
  have sm : str m = ⟨#[97, 98, 99]⟩ := by subst hm; rfl
  have st : str t = ⟨#[99, 99, 99, 99]⟩ := by subst ht; rfl
  have N := Lib.hid (And.intro n3 n4)
  have B := Lib.hid (And.intro bm bt)
  have S := Lib.hid (And.intro sm st)
  have um : u8s [97, 98, 99] = u8s m := by rw [hm]
  have U := Lib.hid um
  clear n3 n4 bm bt mw sm st hm ht um
  go_enter Try.func3, Try.ntmps3
  go_wp2_with fail
  refine (abc_any _).mono ?_
  rintro e w1 ⟨b1, A1, d1, rfl, hown1⟩
  have r1 := own_rd hown1
  rw [U.out] at r1
  clear hown1
  go_wp2_with fail
  refine (C1.out _ _ _ ?_).mono ?_
  · exact r1.alloc _
  rintro e w2 ⟨B2, d2, A2, f2, rfl, hb2, _, ra, _⟩
  obtain ⟨b2, z2, k1⟩ := box1 hb2
  replace r1 := r1.below b2
  replace b1 := b1.trans (b2.mono b1.size)
  have c1 := Blk.cells k1
  clear hb2 b2
  go_wp2_with fail
  refine (C2.out _ _ _ ?_).mono ?_
  · exact r1.alloc _
  rintro e w3 ⟨B3, d3, A3, f3, rfl, hb3, rx, _, zx⟩
  obtain ⟨b3, z3, _⟩ := box1 hb3
  replace r1 := r1.below b3
  replace ra := ra.below b3
  replace k1 := Blk.below k1 b3 (Blk.lt k1)
  replace b1 := b1.trans (b3.mono b1.size)
  replace c1 := Blk.cells k1
  have y1 := Blk.lt k1
  clear hb3 b3
  go_wp2_with fail
  refine (C3.out _ _ _).mono ?_
  rintro e w4 ⟨B4, d4, A4, f4, rfl, hb4⟩
  obtain ⟨b4, z4, k3⟩ := box1 hb4
  replace ra := ra.below b4
  replace rx := rx.below b4
  replace k1 := Blk.below k1 b4 (Blk.lt k1)
  replace b1 := b1.trans (b4.mono b1.size)
  replace c1 := Blk.cells k1
  have y1 := Blk.lt k1
  clear hb4 b4
  go_wp2_with fail
  refine (C4.out _ _ _).mono ?_
  rintro e w5 ⟨B5, d5, A5, f5, rfl, hb5⟩
  obtain ⟨b5, z5, _⟩ := box1 hb5
  replace ra := ra.below b5
  replace rx := rx.below b5
  replace k1 := Blk.below k1 b5 (Blk.lt k1)
  replace k3 := Blk.below k3 b5 (Blk.lt k3)
  replace b1 := b1.trans (b5.mono b1.size)
  replace c1 := Blk.cells k1
  have y1 := Blk.lt k1
  clear hb5 b5
  go_wp2_with fail
  refine (C5.out _ _ _).mono ?_
  rintro e w6 ⟨B6, d6, A6, f6, rfl, hb6⟩
  obtain ⟨b6, z6, _⟩ := box1 hb6
  replace ra := ra.below b6
  replace rx := rx.below b6
  replace k3 := Blk.below k3 b6 (Blk.lt k3)
  replace b1 := b1.trans (b6.mono b1.size)
  clear hb6 b6 c1 k1
  go_wp2_with fail
  refine (new_no 0 _ (by omega) (by omega) (by omega)).mono ?_
  rintro e w7 ⟨rfl, hb7⟩
  obtain ⟨b7, z7, _⟩ := box1 hb7
  replace ra := ra.below b7
  replace rx := rx.below b7
  replace k3 := Blk.below k3 b7 (Blk.lt k3)
  replace b1 := b1.trans (b7.mono b1.size)
  clear hb7 b7
  go_wp2_with fail
  refine (new_no 32769 _ (by omega) (by omega) (by omega)).mono ?_
  rintro e w8 ⟨rfl, hb8⟩
  obtain ⟨b8, z8, _⟩ := box1 hb8
  replace ra := ra.below b8
  replace rx := rx.below b8
  replace k3 := Blk.below k3 b8 (Blk.lt k3)
  replace b1 := b1.trans (b8.mono b1.size)
  clear hb8 b8
  go_wp2_with fail
  refine (alive_any _).mono ?_
  rintro e w9 ⟨rfl, hb9⟩
  obtain ⟨b9, z9, _⟩ := box1 hb9
  replace ra := ra.below b9
  replace rx := rx.below b9
  replace k3 := Blk.below k3 b9 (Blk.lt k3)
  replace b1 := b1.trans (b9.mono b1.size)
  have c3 := Blk.cells k3
  have y3 := Blk.lt k3
  have hca := conv_bytes (P := Try.prog) w9 22 5 Try.underlying22 Try.underlying5 9 Try.underlying9 A2 t f2 (rd_u8 ra B.out.2) (fun e => List.map_eq_nil_iff.1 (ra.2 e))
  have hcx := conv_bytes (P := Try.prog) w9 22 5 Try.underlying22 Try.underlying5 9 Try.underlying9 B3 m d3 (rd_u8 rx B.out.1) (fun e => List.map_eq_nil_iff.1 (rx.2 e))
  rw [S.out.2] at hca
  rw [S.out.1] at hcx
  clear hb9 b9
  go_wp2_with fail
  refine (check_no none 0 [] 0 _ (by simp) (by omega) (by omega) (by omega)).mono ?_
  rintro e w10 ⟨rfl, hb10⟩
  go_wp2_with fail
  go_ret
  exact ⟨rfl, b1.trans (hb10.mono b1.size)⟩
end Go.Proofs.Ytocmodieeceonaa
