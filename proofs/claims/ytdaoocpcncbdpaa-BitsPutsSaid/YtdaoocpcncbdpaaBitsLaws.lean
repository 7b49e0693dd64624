/-
  ten, alive: the chapter's pen. Words for the laws without the reference.
-/
import Derived.Test.YtdaoocpcncbdpaaPenD
import Derived.Test.YtdaoocpcncbdpaaOpen
namespace Go.Proofs.Ytdaoocpcncbdpaa
open Go.RowKit

theorem u8s_two (a b : Nat) : u8s [a, b] = [.int .u8 (a : Int), .int .u8 (b : Int)] := rfl

theorem put_is (A : Option Addr) (c : Nat) (l : List Nat) (n : Nat) (v k : Nat) (w : World) (m : List Nat) (N : Nat) (hm : putL l n v k = m) (hN : n + k = N)
    (hl : Bs w A l) (hA : A = none → l = []) (h2 : n ≤ 8388608) (h : mayB l n = true)
    (hv : v < 4294967296) (hf : fitsB v k = true) (hfull : n + k ≤ 8388608) :
    Calls Try.prog 15 #[.agg #[.slice A l.length c, .int .i64 n], .int .u32 v, .int .i64 k] w fun e w' => PenRes w w' e m N 0 := by
  subst hm hN; exact put_ok A c l n v k w hl hA h2 h hv hf hfull

/-- The chapter's pen. -/
def TenRes (w w' : World) (e : Ending) : Prop :=
  Below w.heap.size w w' ∧ ∃ A c, e = .returned (.tuple #[.agg #[.slice A 2 c, .int .i64 10], .bool true]) ∧ w'.ownsRow w.heap.size 5 1 (.slice A 2 c) 2 (u8s [29, 0])

set_option maxHeartbeats 1000000 in
theorem ten_any (w : World) : Calls Try.prog 23 #[] w fun e w' => TenRes w w' e := by
  obtain ⟨m, hm⟩ : ∃ m, m = [5] := ⟨_, rfl⟩
  obtain ⟨m2, hm2⟩ : ∃ m, m = [29, 0] := ⟨_, rfl⟩
  have p1 : putL [] 0 5 3 = m := by subst hm; decide
  have p2 : putL m 3 3 7 = m2 := by subst hm hm2; decide
  have q1 : mayB m (3 : Nat) = true := by subst hm; decide
  have l2 : m2.length = 2 := by subst hm2; rfl
  have b1 : ∀ x ∈ m, x < 256 := by subst hm; simp
  have HH := Lib.hid (And.intro p1 (And.intro p2 (And.intro q1 (And.intro b1 (And.intro hm2 l2)))))
  clear p1 p2 q1 b1 hm hm2 l2
  go_enter Try.func23, Try.ntmps23
  go_wp2_with fail
  refine (put_is none 0 [] 0 5 3 _ m 3 HH.out.1 rfl Bs.nil_ (fun _ => rfl) (by decide) (by decide) (by decide) (by decide) (by decide)).mono ?_
  rintro e w1 ⟨hb1, A1, c1, rfl, hown1⟩
  obtain ⟨b1, z1, k1⟩ := box1 hb1
  have hl1 : Bs w1 A1 m := Bs.of_own hown1 HH.out.2.2.2.1
  have hn1 := Lib.hid (own_nil hown1)
  clear hb1 hown1
  go_wp2_with fail
  refine (put_is A1 c1 m 3 3 7 _ m2 10 HH.out.2.1 rfl (hl1.alloc _) hn1.out (by decide) HH.out.2.2.1 (by decide) (by decide) (by decide)).mono ?_
  rintro e w2 ⟨hb2, A2, c2, rfl, hown2⟩
  obtain ⟨b2, z2, k2⟩ := box1 hb2
  have k3 : Blk w2 w.heap.size 33 #[.slice none 0 0, .int .i64 0] := Blk.below (Blk.alloc k1 _) hb2 (by simp; omega)
  have b3 := b1.trans (b2.mono b1.size)
  have hown3 := own_far_base (base' := w.heap.size) hown2 (by simp; omega)
  have x2 := Blk.cells k2
  have x3 := Blk.cells k3
  have y2 := Blk.frozens k2
  have y3 := Blk.frozens k3
  have z3 : w1.heap.size < w2.heap.size := z2
  clear hb2 hown2 b2
  go_wp2_with fail
  refine bodyPost_ret (v := .tuple #[.agg #[.slice A2 m2.length c2, .int .i64 10], .bool true]) (by simp [results, Try.results23, go_sem, x2, x3]) rfl ?_
  have ne2 := own_blk_ne hown3 k2 (by decide)
  have ne3 := own_blk_ne hown3 k3 (by decide)
  refine ⟨?_, A2, c2, ?_, ?_⟩
  · exact (((b3.setCell b1.size _).setCell b1.size _).setCell (Nat.le_refl _) _).setCell (Nat.le_refl _) _
  · rw [HH.out.2.2.2.2.2]
  · rw [← HH.out.2.2.2.2.1, ← HH.out.2.2.2.2.2]
    exact own_far (own_far (own_far (own_far hown3 ne2 _) ne2 _) ne3 _) ne3 _

theorem take_is (A : Option Addr) (c : Nat) (l : List Nat) (at_ n : Int) (w : World) (v e : Nat) (hv : takeV l at_ n = v) (he : takeE l at_ n = e) (hl : Bs w A l) (hm : l.length ≤ 1000000000)
    (h1 : -9223372036854775808 ≤ at_) (h2 : at_ ≤ 9223372036854775807) :
    Calls Try.prog 10 #[.slice A l.length c, .int .i64 at_, .int .i64 n] w fun o w' => o = .returned (.tuple #[.int .u32 (v : Int), .int .i64 (e : Int)]) ∧ w = w' := by
  subst hv he; exact take_any A c l at_ n w hl hm h1 h2

theorem two_bytes (w : World) (A : Option Addr) (a b : Nat) (t : TypeId) (hA : A = some ⟨w.heap.size, 0, none⟩) (ha : a < 256) (hb : b < 256) : Bs (w.alloc (.cells #[.int .u8 (a : Int), .int .u8 (b : Int)] t)) A [a, b] := by
  subst hA
  exact ⟨Sl.new _ _ _ _ rfl, by simp; omega⟩

theorem bytes_str (a b : Nat) : str [a, b] = ⟨#[UInt8.ofNat a, UInt8.ofNat b]⟩ := rfl

set_option maxHeartbeats 1000000 in
theorem alive_any (w : World) : Calls Try.prog 22 #[] w fun e w' => e = .returned (.bool true) ∧ Below w.heap.size w w' := by
  go_enter Try.func22, Try.ntmps22
  go_wp2_with fail
  refine (ten_any _).mono ?_
  rintro e w1 ⟨b1, A1, c1, rfl, hown1⟩
  go_wp2_with fail
  have ht := two_bytes (w1.alloc (.cells #[.slice A1 2 c1, .int .i64 10] 33)) (some ⟨w1.heap.size + 1, 0, none⟩) 181 3 5 (by simp) (by omega) (by omega)
  have v1 : takeV [181, 3] 4 6 = 59 := by decide +kernel
  have v2 : takeE [181, 3] 4 6 = 0 := by decide +kernel
  refine (take_is (some ⟨w1.heap.size + 1, 0, none⟩) 2 [181, 3] 4 6 _ 59 0 v1 v2 ht (by simp) (by omega) (by omega)).mono ?_
  clear v1 v2 ht
  rintro e w2 ⟨rfl, rfl⟩
  have hB : Bs w1 A1 [29, 0] := Bs.of_own hown1 (by simp)
  have hn := own_nil hown1
  have hc := conv_bytes (P := Try.prog) _ 22 5 Try.underlying22 Try.underlying5 9 Try.underlying9 A1 [29, 0] c1 ((hB.alloc (.cells #[.slice A1 2 c1, .int .i64 10] 33)).alloc (.cells #[.int .u8 181, .int .u8 3] 5)) hn
  rw [show str [29, 0] = ⟨#[29, 0]⟩ from rfl] at hc
  simp only [List.length_cons, List.length_nil, Nat.zero_add, Nat.reduceAdd] at hc
  clear hn
  go_wp2_with fail
  go_ret
  exact ⟨rfl, (b1.alloc b1.size _).alloc (by simp; have := b1.size; omega) _⟩
end Go.Proofs.Ytdaoocpcncbdpaa
