/-
  Walks: BlockNames.
-/
import Derived.Lib.SlBytesConst
import Derived.Test.YtfcefhaaphieeaaG39
import Derived.Test.YtfcefhaaphieeaaG40
namespace Go.Proofs.Ytfcefhaaphieeaa
open Go.RowKit

theorem conv_konst (w : World) (g : Nat) (C : Array Value) (n c : Nat) (hg : g = w.heap.size) :
    (convert 22 22 (.slice (some ⟨g, 0, none⟩) n c)).run Try.prog (w.alloc (.cells C 5)) = .ok (.slice (some ⟨g, 0, none⟩) n c) (w.alloc (.cells C 5 (C.size, C.size + 1))) := by
  subst hg
  exact Lib.run_convert_bytes_const w _ _ C n c Try.underlying22 Try.underlying5
theorem new_byts (w : World) (A : Option Addr) (l : List Nat) (cs : Array Value) (t : TypeId) (fr : Nat × Nat) (hA : A = some ⟨w.heap.size, 0, none⟩) (hc : cs.toList = u8s l) : Rd (w.alloc (.cells cs t fr)) A (u8s l) := by
  subst hA
  refine ⟨fun _ => ⟨_, _, rfl, fun i u hu => ?_⟩, fun e => by cases e⟩
  have : (w.alloc (.cells cs t fr)).heap[w.heap.size]? = some (.cells cs t fr) := heap_alloc_new w _
  rw [← hc] at hu
  simp only [World.cell?, this]
  simpa using hu

set_option maxRecDepth 100000 in
set_option maxHeartbeats 8000000 in
theorem law_names11 (w : World) : Calls Try.prog 5 #[] w fun e w' => e = .returned (.bool true) ∧ Below w.heap.size w w' := by
  have HL := Lib.hid fun (a : Int) (k : Nat) (x y : Nat) (wx : World) (h1 : -9223372036854775808 ≤ a) (h2 : a ≤ 9223372036854775807) (hk : k < 256) (hv : longV a k [] [] = (x, y)) => show Calls Try.prog 9 #[.int .i64 a, .int .u8 (k : Int), .slice none 0 0, .slice none 0 0] wx (fun e w' => e = .returned (.tuple #[.int .i64 (x : Int), .int .i64 (y : Int)]) ∧ Below wx.heap.size wx w') from by
    have := blong_any a k none 0 0 [] none 0 0 [] wx h1 h2 hk Rd.nil_ rfl (by simp) (by simp) Rd.nil_ rfl (by simp) (by simp)
    rw [hv] at this
    exact this
  have HB := Lib.hid fun (a : Int) (x y : Nat) (wx : World) (h1 : -9223372036854775808 ≤ a) (h2 : a ≤ 9223372036854775807) (hv : bestV a [] [] = (x, y)) => show Calls Try.prog 11 #[.int .i64 a, .slice none 0 0, .slice none 0 0] wx (fun e w' => e = .returned (.tuple #[.int .u8 (x : Int), .int .i64 (y : Int)]) ∧ Below wx.heap.size wx w') from by
    have := bbest_any a none 0 0 [] none 0 0 [] wx h1 h2 Rd.nil_ rfl (by simp) (by simp) Rd.nil_ rfl (by simp) (by simp)
    rw [hv] at this
    exact this
  have HB3 := Lib.hid fun (R : Option Addr) (rc : Nat) (T : Option Addr) (c : Nat) (wx : World) (hR : Rd wx R (u8s [97, 98, 99])) (hT : Rd wx T (tkV tk3)) => show Calls Try.prog 11 #[.int .i64 0, .slice R 3 rc, .slice T 3 c] wx (fun e w' => e = .returned (.tuple #[.int .u8 1, .int .i64 0]) ∧ Below wx.heap.size wx w') from by
    have := bbest_any 0 R 3 rc [97, 98, 99] T 3 c tk3 wx (by omega) (by omega) hR rfl (by decide) (by decide) hT rfl (by decide) (by
      intro t ht
      simp only [tk3, List.mem_cons, List.not_mem_nil, or_false] at ht
      rcases ht with rfl | rfl | rfl <;> simp [TkN])
    rw [best_three] at this
    exact this
  have HW1 := Lib.hid fun (wx : World) => show Calls Try.prog 19 #[.agg #[.slice none 0 0, .int .i64 1], .int .u8 0, .slice none 0 0, .slice none 0 0, .bool false] wx (fun e w' => Below wx.heap.size wx w' ∧ ∃ X k c N, e = .returned (.tuple #[.agg #[.slice X k c, .int .i64 ((N : Nat) : Int)], .int .i64 8])) from by
    have := write_any none 0 0 [] 1 0 none 0 0 [] none 0 0 [] false wx Rd.nil_ rfl (by omega) (by simp) (by simp) (by omega) (by omega) (by omega) Rd.nil_ (by simp) rfl (by simp) Rd.nil_ rfl (by simp) (by simp)
    rw [write_no1] at this
    exact this.mono fun e w' ⟨a, X, c, b, _⟩ => ⟨a, X, _, c, _, b⟩
  have HW2 := Lib.hid fun (T : Option Addr) (c : Nat) (wx : World) (hT : Rd wx T (tkV [⟨0, 1, 2⟩])) => show Calls Try.prog 19 #[.agg #[.slice none 0 0, .int .i64 0], .int .u8 1, .slice none 0 0, .slice T 1 c, .bool false] wx (fun e w' => Below wx.heap.size wx w' ∧ ∃ X k c N, e = .returned (.tuple #[.agg #[.slice X k c, .int .i64 ((N : Nat) : Int)], .int .i64 8])) from by
    have := write_any none 0 0 [] 0 1 none 0 0 [] T 1 c [⟨0, 1, 2⟩] false wx Rd.nil_ rfl (by omega) (by simp) (by simp) (by omega) (by omega) (by omega) Rd.nil_ (by simp) rfl (by simp) hT rfl (by simp) (by simp [TkN])
    rw [write_no2] at this
    exact this.mono fun e w' ⟨a, X, c, b, _⟩ => ⟨a, X, _, c, _, b⟩
  have HI := Lib.hid fun wx => show Calls Try.prog 20 #[.int .u8 1, .string ⟨#[]⟩, .slice none 0 0, .string ⟨#[3, 0]⟩, .int .i64 10] wx (fun e w' => e = .returned (.bool true) ∧ Below wx.heap.size wx w') from
    bis_any 1 _ [] none 0 0 [] _ [3, 0] 10 wx rfl (by decide) (by decide) (by omega) Rd.nil_ rfl (by simp) (by simp) rfl (by decide) is_ten.1 is_ten.2.1 is_ten.2.2
  go_enter Try.func5, Try.ntmps5
  go_wp2_with fail
  refine (HL.out 0 0 _ _ _ (by omega) (by omega) (by omega) long_0).mono ?_
  rintro e w1 ⟨rfl, b1⟩
  go_wp2_with fail
  refine (HL.out 6 0 _ _ _ (by omega) (by omega) (by omega) long_6).mono ?_
  rintro e w2 ⟨rfl, b2⟩
  have b2 := b1.trans (b2.mono b1.size)
  clear b1
  go_wp2_with fail
  rw [conv_konst w2 w2.heap.size #[.int .u8 97, .int .u8 98, .int .u8 99] 3 3 rfl]
  go_wp2_with fail
  have hR : Rd (w2.alloc (.cells #[.int .u8 97, .int .u8 98, .int .u8 99] 5 (3, 4))) (some ⟨w2.heap.size, 0, none⟩) (u8s [97, 98, 99]) := new_byts w2 _ [97, 98, 99] _ _ _ rfl rfl
  have hT : Rd ((w2.alloc (.cells #[.int .u8 97, .int .u8 98, .int .u8 99] 5 (3, 4))).alloc (.cells #[.int .u8 97, .int .i64 0, .int .i64 0, .int .u8 98, .int .i64 0, .int .i64 0, .int .u8 99, .int .i64 0, .int .i64 0] 43)) (some ⟨w2.heap.size + 1, 0, none⟩) (tkV tk3) := Rd.new' _ #[.int .u8 97, .int .i64 0, .int .i64 0, .int .u8 98, .int .i64 0, .int .i64 0, .int .u8 99, .int .i64 0, .int .i64 0] _ (tkV tk3) _ (by simp) rfl
  have hR := hR.alloc (.cells #[.int .u8 97, .int .i64 0, .int .i64 0, .int .u8 98, .int .i64 0, .int .i64 0, .int .u8 99, .int .i64 0, .int .i64 0] 43)
  have b3' : Below w.heap.size w ((w2.alloc (.cells #[.int .u8 97, .int .u8 98, .int .u8 99] 5 (3, 4))).alloc (.cells #[.int .u8 97, .int .i64 0, .int .i64 0, .int .u8 98, .int .i64 0, .int .i64 0, .int .u8 99, .int .i64 0, .int .i64 0] 43)) := (b2.alloc b2.size _).alloc (by have := b2.size; simp; omega) _
  generalize (w2.alloc (.cells #[.int .u8 97, .int .u8 98, .int .u8 99] 5 (3, 4))).alloc (.cells #[.int .u8 97, .int .i64 0, .int .i64 0, .int .u8 98, .int .i64 0, .int .i64 0, .int .u8 99, .int .i64 0, .int .i64 0] 43) = W3 at *
  refine (HB3.out _ 3 _ 3 W3 hR hT).mono ?_
  rintro e w3 ⟨rfl, b3⟩
  have b3 := b3'.trans (b3.mono b3'.size)
  clear b2 hR hT b3'
  go_wp2_with fail
  refine (HB.out 0 _ _ _ (by omega) (by omega) best_none).mono ?_
  rintro e w4 ⟨rfl, b4⟩
  have b4 := b3.trans (b4.mono b3.size)
  clear b3
  go_wp2_with fail
  refine (HL.out 0 3 _ _ _ (by omega) (by omega) (by omega) long_3).mono ?_
  rintro e w5 ⟨rfl, b5⟩
  have b5 := b4.trans (b5.mono b4.size)
  clear b4
  go_wp2_with fail
  refine (HL.out 8 0 _ _ _ (by omega) (by omega) (by omega) long_8).mono ?_
  rintro e w6 ⟨rfl, b6⟩
  have b6 := b5.trans (b6.mono b5.size)
  clear b5
  go_wp2_with fail
  refine (HB.out (-1) _ _ _ (by omega) (by omega) best_no).mono ?_
  rintro e w7 ⟨rfl, b7⟩
  have b7 := b6.trans (b7.mono b6.size)
  clear b6
  go_wp2_with fail
  refine (HW1.out _).mono ?_
  rintro e w8 ⟨b8, X8, n8, c8, N8, rfl⟩
  have b8 := b7.trans (b8.mono b7.size)
  clear b7
  go_wp2_with fail
  have hT2 : Rd ((w8.alloc (.cells #[.slice X8 n8 c8, .int .i64 ((N8 : Nat) : Int)] 45)).alloc (.cells #[.int .u8 0, .int .i64 1, .int .i64 2] 43)) (some ⟨w8.heap.size + 1, 0, none⟩) (tkV [⟨0, 1, 2⟩]) := Rd.new' _ #[.int .u8 0, .int .i64 1, .int .i64 2] _ (tkV [⟨0, 1, 2⟩]) _ (by simp) rfl
  have b9' : Below w.heap.size w ((w8.alloc (.cells #[.slice X8 n8 c8, .int .i64 ((N8 : Nat) : Int)] 45)).alloc (.cells #[.int .u8 0, .int .i64 1, .int .i64 2] 43)) := (b8.alloc b8.size _).alloc (by have := b8.size; simp; omega) _
  generalize (w8.alloc (.cells #[.slice X8 n8 c8, .int .i64 ((N8 : Nat) : Int)] 45)).alloc (.cells #[.int .u8 0, .int .i64 1, .int .i64 2] 43) = W9 at *
  refine (HW2.out _ 1 W9 hT2).mono ?_
  rintro e w9 ⟨b9, X9, n9, c9, N9, rfl⟩
  have b9 := b9'.trans (b9.mono b9'.size)
  clear b8 hT2 b9'
  go_wp2_with fail
  refine (HI.out _).mono ?_
  rintro e w10 ⟨rfl, b10⟩
  have b10 : Below w.heap.size w w10 := (b9.alloc b9.size _).trans (b10.mono (by have := b9.size; simp; omega))
  clear b9
  go_wp2_with fail
  refine (balive11_any _).mono ?_
  rintro e w11 ⟨rfl, b11⟩
  go_wp2_with fail
  go_ret
  exact ⟨rfl, b10.trans (b11.mono b10.size)⟩
