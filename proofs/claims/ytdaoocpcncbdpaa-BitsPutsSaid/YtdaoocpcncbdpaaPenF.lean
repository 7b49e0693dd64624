/-
  Walks: the reference's Put and Align.
-/
import Derived.Test.YtdaoocpcncbdpaaPenE
namespace Go.Proofs.Ytdaoocpcncbdpaa
open Go.RowKit

theorem rmay_is (A : Option Addr) (c : Nat) (l : List Nat) (n : Int) (t : Bool) (w : World) (h : mayB l n = t) (hl : Bs w A l) (hm : l.length ≤ 1000000000) (h1 : -9223372036854775808 ≤ n) (h2 : n ≤ 9223372036854775807) :
    Calls Try.prog 30 #[.agg #[.slice A l.length c, .int .i64 n]] w fun e w' => e = .returned (.bool t) ∧ Below w.heap.size w w' := by
  subst h; exact may_any A c l n w hl hm h1 h2
theorem fits_is (v : Nat) (n : Int) (t : Bool) (w : World) (h : fitsB v n = t) (hv : v < 4294967296) (h1 : -9223372036854775808 ≤ n) (h2 : n ≤ 9223372036854775807) :
    Calls Try.prog 26 #[.int .u32 v, .int .i64 n] w fun e w' => e = .returned (.bool t) ∧ w = w' := by
  subst h; exact fits_any v n w hv h1 h2

set_option maxHeartbeats 1000000 in
theorem rput_bad (A : Option Addr) (c : Nat) (l : List Nat) (n : Int) (v : Nat) (k : Int) (w : World) (hl : Bs w A l) (hm : l.length ≤ 1000000000) (h1 : -9223372036854775808 ≤ n) (h2 : n ≤ 9223372036854775807) (h : mayB l n = false) :
    Calls Try.prog 16 #[.agg #[.slice A l.length c, .int .i64 n], .int .u32 v, .int .i64 k] w fun e w' => PenRes w w' e [] 0 8 := by
  have HC := Lib.hid fun w hl => rmay_is A c l n false w h hl hm h1 h2
  clear h
  go_enter Try.func16, Try.ntmps16
  go_wp2_with fail
  refine (HC.out _ ((hl.alloc _).alloc _)).mono ?_
  rintro e w1 ⟨rfl, hb1⟩
  obtain ⟨b1, z1, z2, k1, k2⟩ := box2 hb1
  have c2 := Blk.cells k2
  have f2 := Blk.frozens k2
  have c1 := Blk.cells k1
  clear hb1
  go_wp2_with fail
  refine bodyPost_ret (v := .tuple #[.agg #[.slice none 0 0, .int .i64 0], .int .i64 8]) (by simp [results, Try.results16, go_sem, c2]) rfl (PenRes.none_ ?_ rfl)
  exact (b1.setCell (by simp) _).setCell (by simp) _

set_option maxHeartbeats 1000000 in
theorem rput_unfit (A : Option Addr) (c : Nat) (l : List Nat) (n : Nat) (v : Nat) (k : Int) (w : World) (hl : Bs w A l) (hm : l.length ≤ 1000000000) (h2 : n ≤ 8388608) (h : mayB l n = true)
    (hv : v < 4294967296) (hk1 : -9223372036854775808 ≤ k) (hk2 : k ≤ 9223372036854775807) (hf : fitsB v k = false) :
    Calls Try.prog 16 #[.agg #[.slice A l.length c, .int .i64 n], .int .u32 v, .int .i64 k] w fun e w' => PenRes w w' e [] 0 2 := by
  have HC := Lib.hid fun w hl => rmay_is A c l n true w h hl hm (by omega) (by omega)
  have HN := Lib.hid fun w => fits_is v k false w hf hv hk1 hk2
  clear h hf
  go_enter Try.func16, Try.ntmps16
  go_wp2_with fail
  refine (HC.out _ ((hl.alloc _).alloc _)).mono ?_
  rintro e w1 ⟨rfl, hb1⟩
  obtain ⟨b1, z1, z2, k1, k2⟩ := box2 hb1
  have c2 := Blk.cells k2
  have f2 := Blk.frozens k2
  have c1 := Blk.cells k1
  clear hb1
  go_wp2_with fail
  refine (HN.out _).mono ?_
  rintro e w1 ⟨rfl, rfl⟩
  go_wp2_with fail
  refine bodyPost_ret (v := .tuple #[.agg #[.slice none 0 0, .int .i64 0], .int .i64 2]) (by simp [results, Try.results16, go_sem, c2]) rfl (PenRes.none_ ?_ rfl)
  exact (b1.setCell (by simp) _).setCell (by simp) _

set_option maxHeartbeats 1000000 in
theorem rput_full (A : Option Addr) (c : Nat) (l : List Nat) (n : Nat) (v k : Nat) (w : World) (hl : Bs w A l) (hm : l.length ≤ 1000000000) (h2 : n ≤ 8388608) (h : mayB l n = true)
    (hv : v < 4294967296) (hf : fitsB v k = true) (hfull : 8388608 < n + k) :
    Calls Try.prog 16 #[.agg #[.slice A l.length c, .int .i64 n], .int .u32 v, .int .i64 k] w fun e w' => PenRes w w' e [] 0 9 := by
  have hk := (fitsB_true hf).2.1
  have HC := Lib.hid fun w hl => rmay_is A c l n true w h hl hm (by omega) (by omega)
  have HN := Lib.hid fun w => fits_is v k true w hf hv (by omega) (by omega)
  clear h hf
  go_enter Try.func16, Try.ntmps16
  go_wp2_with fail
  refine (HC.out _ ((hl.alloc _).alloc _)).mono ?_
  rintro e w1 ⟨rfl, hb1⟩
  obtain ⟨b1, z1, z2, k1, k2⟩ := box2 hb1
  have c2 := Blk.cells k2
  have f2 := Blk.frozens k2
  have c1 := Blk.cells k1
  clear hb1
  go_wp2_with fail
  refine (HN.out _).mono ?_
  rintro e w1 ⟨rfl, rfl⟩
  go_wp2_with fail
  refine bodyPost_ret (v := .tuple #[.agg #[.slice none 0 0, .int .i64 0], .int .i64 9]) (by simp [results, Try.results16, go_sem, c2]) rfl (PenRes.none_ ?_ rfl)
  exact (b1.setCell (by simp) _).setCell (by simp) _

set_option maxHeartbeats 1000000 in
theorem rput_ok (A : Option Addr) (c : Nat) (l : List Nat) (n : Nat) (v k : Nat) (w : World) (hl : Bs w A l) (hA : A = none → l = []) (h2 : n ≤ 8388608) (h : mayB l n = true)
    (hv : v < 4294967296) (hf : fitsB v k = true) (hfull : n + k ≤ 8388608) :
    Calls Try.prog 16 #[.agg #[.slice A l.length c, .int .i64 n], .int .u32 v, .int .i64 k] w fun e w' => PenRes w w' e (putL l n v k) (n + k) 0 := by
  have hP := (Pen.of_may hl.2 h).1
  have hlen := hP.len
  have hm : l.length ≤ 2000000 := by omega
  have hk := (fitsB_true hf).2.1
  have HC := Lib.hid fun w hl => rmay_is A c l n true w h hl (by omega) (by omega) (by omega)
  have HN := Lib.hid fun w => fits_is v k true w hf hv (by omega) (by omega)
  have HS := Lib.hid fun w hl => rset_ok A c l n v k w hl hA hP hv (by omega) (by omega)
  clear h hf hA hP hlen
  obtain ⟨m, hmm⟩ : ∃ m, putL l n v k = m := ⟨_, rfl⟩
  rw [hmm] at HS ⊢
  clear hmm
  go_enter Try.func16, Try.ntmps16
  go_wp2_with fail
  refine (HC.out _ ((hl.alloc _).alloc _)).mono ?_
  rintro e w1 ⟨rfl, hb1⟩
  obtain ⟨b1, z1, z2, k1, k2⟩ := box2 hb1
  have c1 := Blk.cells k1
  have hl1 := hl.below b1
  clear hb1
  go_wp2_with fail
  refine (HN.out _).mono ?_
  rintro e w1 ⟨rfl, rfl⟩
  go_wp2_with fail
  refine (HS.out _ hl1).mono ?_
  rintro e w2 ⟨hb2, A2, c2, rfl, hown2⟩
  have b2 := b1.trans (hb2.mono b1.size)
  have k3 := Blk.below k2 hb2 (Blk.lt k2)
  have c3 := Blk.cells k3
  have f3 := Blk.frozens k3
  have hne := own_blk_ne hown2 k3 (by decide)
  have hown3 := own_far_base (base' := w.heap.size) hown2 b1.size
  clear hb2 c1
  go_wp2_with fail
  refine bodyPost_ret (v := .tuple #[.agg #[.slice A2 m.length c2, .int .i64 ((n + k : Nat) : Int)], .int .i64 0]) (by simp [results, Try.results16, go_sem, c3]) rfl ?_
  exact ⟨(b2.setCell (by simp) _).setCell (by simp) _, A2, c2, rfl, own_far (own_far hown3 hne _) hne _⟩

set_option maxHeartbeats 1000000 in
theorem ralign_bad (A : Option Addr) (c : Nat) (l : List Nat) (n : Int) (w : World) (hl : Bs w A l) (hm : l.length ≤ 1000000000) (h1 : -9223372036854775808 ≤ n) (h2 : n ≤ 9223372036854775807) (h : mayB l n = false) :
    Calls Try.prog 18 #[.agg #[.slice A l.length c, .int .i64 n]] w fun e w' => PenRes w w' e [] 0 8 := by
  have HC := Lib.hid fun w hl => rmay_is A c l n false w h hl hm h1 h2
  clear h
  go_enter Try.func18, Try.ntmps18
  go_wp2_with fail
  refine (HC.out _ ((hl.alloc _).alloc _)).mono ?_
  rintro e w1 ⟨rfl, hb1⟩
  obtain ⟨b1, z1, z2, k1, k2⟩ := box2 hb1
  have c2 := Blk.cells k2
  have f2 := Blk.frozens k2
  have c1 := Blk.cells k1
  clear hb1
  go_wp2_with fail
  refine bodyPost_ret (v := .tuple #[.agg #[.slice none 0 0, .int .i64 0], .int .i64 8]) (by simp [results, Try.results18, go_sem, c2]) rfl (PenRes.none_ ?_ rfl)
  exact (b1.setCell (by simp) _).setCell (by simp) _

set_option maxHeartbeats 1000000 in
theorem ralign_ok (A : Option Addr) (c : Nat) (l : List Nat) (n : Nat) (w : World) (hl : Bs w A l) (hA : A = none → l = []) (h2 : n ≤ 8388608) (h : mayB l n = true) :
    Calls Try.prog 18 #[.agg #[.slice A l.length c, .int .i64 n]] w fun e w' => PenRes w w' e l (8 * l.length) 0 := by
  have hP := (Pen.of_may hl.2 h).1
  have hlen := hP.len
  have hm : l.length ≤ 2000000 := by omega
  have HC := Lib.hid fun w hl => rmay_is A c l n true w h hl (by omega) (by omega) (by omega)
  have HT := Lib.hid fun w hl => twin_any A c l n w hl hA (by omega)
  have HL := Lib.hid hlen
  have hn1 : n ≤ 8 * l.length := by omega
  have hn2 : 8 * l.length < n + 8 := by omega
  clear h hA hP hlen
  go_enter Try.func18, Try.ntmps18
  go_wp2_with fail
  refine (HC.out _ ((hl.alloc _).alloc _)).mono ?_
  rintro e w1 ⟨rfl, hb1⟩
  obtain ⟨b1, z1, z2, k1, k2⟩ := box2 hb1
  have c1 := Blk.cells k1
  have hl1 := hl.below b1
  clear hb1
  go_wp2_with fail
  refine (HT.out _ hl1).mono ?_
  rintro e w2 ⟨A2, c2, rfl, hown2, hb2⟩
  have b2 := b1.trans (hb2.mono b1.size)
  have k3 := Blk.below k2 hb2 (Blk.lt k2)
  have hown3 := own_far_base (base' := w.heap.size) hown2 b1.size
  clear hb2 c1 hown2
  go_wp2_with fail
  go_loopg [] (8 * l.length - n) (fun gk wr => ∃ i : Nat, i ≤ 8 * l.length - n ∧ gk = 8 * l.length - n - i ∧ Blk wr w2.heap.size 33 #[.slice A2 l.length c2, .int .i64 ((n + i : Nat) : Int)] ∧ Blk wr (w.heap.size + 1) 33 #[.slice none 0 0, .int .i64 0] ∧ wr.ownsRow w.heap.size 5 1 (.slice A2 l.length c2) l.length (u8s l) ∧ Below w.heap.size w wr)
  case atStart => exact ⟨0, by omega, by omega, Blk.new _ _ _, Blk.alloc k3 _, hown3.alloc _, b2.alloc b2.size _⟩
  case round =>
    obtain ⟨i, hi, hgk, kp, kr, hown, hb⟩ := hrel
    have cp := Blk.cells kp
    have fp := Blk.frozens kp
    have cr := Blk.cells kr
    have fr := Blk.frozens kr
    have yp := Blk.lt kp
    have yr := Blk.lt kr
    have h3 : w.heap.size + 1 < w2.heap.size := Blk.lt k3
    have hne := own_blk_ne hown kp (by decide)
    have hner := own_blk_ne hown kr (by decide)
    by_cases hlt : i < 8 * l.length - n
    · have hN : n + i < 8 * l.length := by omega
      have hmod : ((n + i : Nat) : Int) % 8 ≠ 0 := by omega
      obtain ⟨N, hNN⟩ : ∃ N, n + i = N := ⟨_, rfl⟩
      rw [hNN] at hmod
      have ht : (((N : Int) % 8) != 0) = true := by rw [bne_iff_ne]; exact hmod
      have HK := Lib.hid (Blk.set_ kp 1 (.int .i64 ((N + 1 : Nat) : Int)))
      have HR := Lib.hid (Blk.far kr (p := ⟨w2.heap.size, 1, none⟩) (by show w.heap.size + 1 ≠ w2.heap.size; omega) (.int .i64 ((N + 1 : Nat) : Int)))
      have HO := Lib.hid (own_far hown (p := ⟨w2.heap.size, 1, none⟩) hne (.int .i64 ((N + 1 : Nat) : Int)))
      have HB := Lib.hid (hb.setCell (p := ⟨w2.heap.size, 1, none⟩) (by show w.heap.size ≤ w2.heap.size; omega) (.int .i64 ((N + 1 : Nat) : Int)))
      have hNle : N ≤ 100000000 := by omega
      have HNN := Lib.hid hNN
      rw [hNN] at cp
      clear hNN hmod kp kr hown hb hne hner
      go_wp2_with fail
      go_roundg (8 * l.length - n - (i + 1))
      case measure => omega
      case rel =>
        have e1 : ((N : Int) + 1) = ((N + 1 : Nat) : Int) := by omega
        rw [e1]
        refine ⟨i + 1, by omega, rfl, ?_, HR.out, HO.out, HB.out⟩
        rw [show n + (i + 1) = N + 1 by have := HNN.out; omega]
        exact HK.out
    · obtain ⟨N, hNN⟩ : ∃ N, n + i = N := ⟨_, rfl⟩
      have hN8 : N = 8 * l.length := by omega
      have ht : (((N : Int) % 8) != 0) = false := by rw [bne_eq_false_iff_eq]; omega
      have HN := Lib.hid hN8
      rw [hNN] at cp
      clear hNN hN8
      go_wp2_with fail
      refine bodyPost_ret (v := .tuple #[.agg #[.slice A2 l.length c2, .int .i64 (N : Int)], .int .i64 0]) (by simp [results, Try.results18, go_sem, cr]) rfl ?_
      rw [HN.out]
      exact ⟨(hb.setCell (by simp) _).setCell (by simp) _, A2, c2, rfl, own_far (own_far hown hner _) hner _⟩
end Go.Proofs.Ytdaoocpcncbdpaa
