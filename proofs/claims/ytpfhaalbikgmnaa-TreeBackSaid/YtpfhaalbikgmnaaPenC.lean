/-
  Walks: Put, Align.
-/
import Derived.Test.YtpfhaalbikgmnaaPenB
namespace Go.Proofs.Ytpfhaalbikgmnaa
open Go.RowKit

/-- What a pen's function answers: the pen or the empty one, and the error. -/
def PenRes (w w' : World) (e : Ending) (l : List Nat) (n E : Nat) : Prop :=
  Below w.heap.size w w' ∧ ∃ A c, e = .returned (.tuple #[.agg #[.slice A l.length c, .int .i64 (n : Int)], .int .i64 (E : Int)]) ∧ w'.ownsRow w.heap.size 5 1 (.slice A l.length c) l.length (u8s l)

theorem PenRes.none_ {w w' : World} {e : Ending} {E : Nat} (h : Below w.heap.size w w') (he : e = .returned (.tuple #[.agg #[.slice none 0 0, .int .i64 0], .int .i64 (E : Int)])) : PenRes w w' e [] 0 E :=
  ⟨h, none, 0, he, World.ownsRow_nil _ _ _ _⟩

set_option maxHeartbeats 1000000 in
theorem put_bad (A : Option Addr) (c : Nat) (l : List Nat) (n : Int) (v : Nat) (k : Int) (w : World) (hl : Bs w A l) (hm : l.length ≤ 1000000000) (h1 : -9223372036854775808 ≤ n) (h2 : n ≤ 9223372036854775807) (h : mayB l n = false) :
    Calls Try.prog 24 #[.agg #[.slice A l.length c, .int .i64 n], .int .u32 v, .int .i64 k] w fun e w' => PenRes w w' e [] 0 8 := by
  have hc := fun w hl => pcheck_any A c l n w hl hm h1 h2
  rw [show pchkE l n = 8 by unfold pchkE; rw [h]; rfl] at hc
  have HC := Lib.hid hc; clear hc h
  go_enter Try.func24, Try.ntmps24
  go_wp2_with fail
  refine (HC.out _ ((hl.alloc _).alloc _)).mono ?_
  rintro e w1 ⟨rfl, hb1⟩
  obtain ⟨b1, z1, z2, k1, k2⟩ := box2 hb1
  have c2 := Blk.cells k2
  have f2 := Blk.frozens k2
  have c1 := Blk.cells k1
  clear hb1
  go_wp2_with fail
  refine bodyPost_ret (v := .tuple #[.agg #[.slice none 0 0, .int .i64 0], .int .i64 8]) (by simp [results, Try.results24, go_sem, c2]) rfl (PenRes.none_ ?_ rfl)
  exact (b1.setCell (by simp) _).setCell (by simp) _

set_option maxHeartbeats 1000000 in
theorem put_unfit (A : Option Addr) (c : Nat) (l : List Nat) (n : Nat) (v : Nat) (k : Int) (w : World) (hl : Bs w A l) (hm : l.length ≤ 1000000000) (h2 : n ≤ 8388608) (h : mayB l n = true)
    (hv : v < 4294967296) (hk1 : -9223372036854775808 ≤ k) (hk2 : k ≤ 9223372036854775807) (hf : fitsB v k = false) :
    Calls Try.prog 24 #[.agg #[.slice A l.length c, .int .i64 n], .int .u32 v, .int .i64 k] w fun e w' => PenRes w w' e [] 0 2 := by
  have hc := fun w hl => pcheck_any A c l n w hl hm (by omega) (by omega)
  rw [show pchkE l n = 0 by unfold pchkE; rw [h]; rfl] at hc
  have hn := fun w => isnum_any v k w hv hk1 hk2
  rw [hf] at hn
  have HC := Lib.hid hc; have HN := Lib.hid hn; clear hc h hn hf
  go_enter Try.func24, Try.ntmps24
  go_wp2_with fail
  refine (HC.out _ ((hl.alloc _).alloc _)).mono ?_
  rintro e w1 ⟨rfl, hb1⟩
  obtain ⟨b1, z1, z2, k1, k2⟩ := box2 hb1
  have c2 := Blk.cells k2
  have f2 := Blk.frozens k2
  have c1 := Blk.cells k1
  clear hb1
  go_wp2_with fail
  refine (HN.out _).mono ?_
  rintro e w1 ⟨rfl, rfl⟩
  go_wp2_with fail
  refine bodyPost_ret (v := .tuple #[.agg #[.slice none 0 0, .int .i64 0], .int .i64 2]) (by simp [results, Try.results24, go_sem, c2]) rfl (PenRes.none_ ?_ rfl)
  exact (b1.setCell (by simp) _).setCell (by simp) _

set_option maxHeartbeats 1000000 in
theorem put_full (A : Option Addr) (c : Nat) (l : List Nat) (n : Nat) (v k : Nat) (w : World) (hl : Bs w A l) (hm : l.length ≤ 1000000000) (h2 : n ≤ 8388608) (h : mayB l n = true)
    (hv : v < 4294967296) (hf : fitsB v k = true) (hfull : 8388608 < n + k) :
    Calls Try.prog 24 #[.agg #[.slice A l.length c, .int .i64 n], .int .u32 v, .int .i64 k] w fun e w' => PenRes w w' e [] 0 9 := by
  have hc := fun w hl => pcheck_any A c l n w hl hm (by omega) (by omega)
  rw [show pchkE l n = 0 by unfold pchkE; rw [h]; rfl] at hc
  have hk := (fitsB_true hf).2.1
  have hn := fun w => isnum_any v k w hv (by omega) (by omega)
  rw [hf] at hn
  have HC := Lib.hid hc; have HN := Lib.hid hn; clear hc h hn hf
  go_enter Try.func24, Try.ntmps24
  go_wp2_with fail
  refine (HC.out _ ((hl.alloc _).alloc _)).mono ?_
  rintro e w1 ⟨rfl, hb1⟩
  obtain ⟨b1, z1, z2, k1, k2⟩ := box2 hb1
  have c2 := Blk.cells k2
  have f2 := Blk.frozens k2
  have c1 := Blk.cells k1
  clear hb1
  go_wp2_with fail
  refine (HN.out _).mono ?_
  rintro e w1 ⟨rfl, rfl⟩
  go_wp2_with fail
  refine bodyPost_ret (v := .tuple #[.agg #[.slice none 0 0, .int .i64 0], .int .i64 9]) (by simp [results, Try.results24, go_sem, c2]) rfl (PenRes.none_ ?_ rfl)
  exact (b1.setCell (by simp) _).setCell (by simp) _

set_option maxHeartbeats 1000000 in
theorem put_ok (A : Option Addr) (c : Nat) (l : List Nat) (n : Nat) (v k : Nat) (w : World) (hl : Bs w A l) (hA : A = none → l = []) (h2 : n ≤ 8388608) (h : mayB l n = true)
    (hv : v < 4294967296) (hf : fitsB v k = true) (hfull : n + k ≤ 8388608) :
    Calls Try.prog 24 #[.agg #[.slice A l.length c, .int .i64 n], .int .u32 v, .int .i64 k] w fun e w' => PenRes w w' e (putL l n v k) (n + k) 0 := by
  have hP := (Pen.of_may hl.2 h).1
  have hlen := hP.len
  have hm : l.length ≤ 2000000 := by omega
  have hc := fun w hl => pcheck_any A c l n w hl (by omega) (by omega) (by omega)
  rw [show pchkE l n = 0 by unfold pchkE; rw [h]; rfl] at hc
  have hk := (fitsB_true hf).2.1
  have hn := fun w => isnum_any v k w hv (by omega) (by omega)
  rw [hf] at hn
  have HC := Lib.hid hc; have HN := Lib.hid hn; have HA := Lib.hid hA; have HL := Lib.hid hlen; clear hc h hn hf hA hlen
  go_enter Try.func24, Try.ntmps24
  go_wp2_with fail
  refine (HC.out _ ((hl.alloc _).alloc _)).mono ?_
  rintro e w1 ⟨rfl, hb1⟩
  obtain ⟨b1, z1, z2, k1, k2⟩ := box2 hb1
  have c1 := Blk.cells k1
  clear hb1
  go_wp2_with fail
  refine (HN.out _).mono ?_
  rintro e w1 ⟨rfl, rfl⟩
  go_wp2_with fail
  refine (clone_any A c l _ ((hl.below b1).alloc _) HA.out (by omega)).mono ?_
  rintro e w2 ⟨A2, c2, rfl, hown2, hb2⟩
  obtain ⟨b2, z3, k3⟩ := box1 hb2
  have b3 := b1.trans (b2.mono b1.size)
  have c3 := Blk.cells k3
  have f3 := Blk.frozens k3
  have z4 : w1.heap.size < w2.heap.size := z3
  have hown2 := own_far_base (base' := w1.heap.size + 1) hown2 (by simp)
  clear hb2 c1
  go_wp2_with fail
  have hne2 := own_blk_ne hown2 k3 (by decide)
  have hp0 : PenAt w1.heap.size (w2.setCell ⟨w1.heap.size, 0, none⟩ (.slice A2 l.length c2)) 84 w1.heap.size l n :=
    ⟨A2, c2, Blk.set_ k3 0 _, own_far (own_far_base hown2 (by omega)) hne2 _⟩
  have hw0 : Below w1.heap.size w1 (w2.setCell ⟨w1.heap.size, 0, none⟩ (.slice A2 l.length c2)) := b2.setCell (Nat.le_refl _) _
  clear c3 f3 hown2 hne2 z3 k3
  go_loopg [39] k (fun gk vi wr => ∃ i : Nat, i ≤ k ∧ gk = k - i ∧ vi = .int .i64 i ∧ PenAt w1.heap.size wr 84 w1.heap.size (putL l n v i) (n + i) ∧ Below w1.heap.size w1 wr)
  case atStart => exact ⟨0, by omega, by omega, rfl, hp0, hw0⟩
  case round =>
    obtain ⟨i, hi, hgk, rfl, hpa, hwr⟩ := hrel
    by_cases hlt : i < k
    · have hs := shr_le v i
      obtain ⟨V, hV1, hV2⟩ : ∃ V : Nat, (v : Int) / 2 ^ i = (V : Int) ∧ V = v / 2 ^ i := ⟨v / 2 ^ i, by simp, rfl⟩
      have HV := Lib.hid hV2
      have hVl : V < 4294967296 := by omega
      clear hV2 hs
      have hPi := (hP.put v i).1
      go_wp2_with fail
      refine (bit_put w1.heap.size w1.heap.size (putL l n v i) (n + i) V _ hpa hPi (by omega) hVl (Nat.le_refl _)).mono ?_
      rintro e w4 ⟨rfl, hp4, hb4⟩
      go_wp2_with fail
      go_roundg (k - (i + 1))
      case measure => omega
      case rel =>
        refine ⟨i + 1, by omega, by omega, by go_num, ?_, hwr.trans hb4⟩
        have := HV.out
        subst this
        exact hp4
    · obtain rfl : i = k := by omega
      obtain ⟨A5, c5, hblk5, hown5⟩ := hpa
      have d5 := Blk.cells hblk5
      have kr : Blk wr (w.heap.size + 1) 48 #[.slice none 0 0, .int .i64 0] := Blk.below k2 hwr z2
      have cr := Blk.cells kr
      have fr := Blk.frozens kr
      generalize hm : putL l n v i = m at *
      have Hm := Lib.hid hm
      clear hm
      go_wp2_with fail
      refine bodyPost_ret (v := .tuple #[.agg #[.slice A5 m.length c5, .int .i64 ((n + i : Nat) : Int)], .int .i64 0]) (by simp [results, Try.results24, go_sem, cr, d5]) rfl ?_
      have hne5 := own_blk_ne hown5 kr (by decide)
      rw [Hm.out]
      exact ⟨((b1.trans (hwr.mono (by omega))).setCell (by simp) _).setCell (by simp) _, A5, c5, rfl, own_far (own_far (own_far_base hown5 (by omega)) hne5 _) hne5 _⟩
end Go.Proofs.Ytpfhaalbikgmnaa
