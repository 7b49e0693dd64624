/-
  Walks: Align.
-/
import Derived.Deep.AppendLies
import Derived.Deep.RegionHeld3
import Derived.StillTailTactics
import Derived.Test.YtfcefhaaphieeaaGreatG43
namespace Go.Proofs.YtfcefhaaphieeaaGreat
open Go.RowKit

/-- The reference writes a bit as the program does. -/
theorem set_step (x k : Nat) (hx : x < 256) (hk : k < 8) (h0 : x / 2 ^ k = 0) : IntKind.u8.wrap ((x : Int) + ((2 ^ k : Nat) : Int) % 256) = ((x + 1 * 2 ^ k : Nat) : Int) := by
  obtain ⟨h1, _⟩ := low_bits x hx k hk h0 1 (by omega)
  rw [IntKind.wrap_u8]
  omega

theorem power_at (k : Nat) (m : Int) (w : World) (hk : k ≤ 32) (hm : m = k) :
    Calls Tryz.prog 61 #[.int .i64 m] w fun e w' => e = .returned (.int .u64 ((2 ^ k : Nat) : Int)) ∧ w = w' := by
  subst hm; exact power_any k w hk

end Go.Proofs.YtfcefhaaphieeaaGreat

/-
  Walks: the reference's Set, Put, Align.
-/
namespace Go.Proofs.YtfcefhaaphieeaaGreat
open Go.RowKit

set_option maxRecDepth 100000 in
set_option maxHeartbeats 1000000 in
theorem rset_ok (A : Option Addr) (c : Nat) (l : List Nat) (n : Nat) (v k : Nat) (w : World) (hl : Bs w A l) (hA : A = none → l = []) (hP : Pen l n) (hv : v < 4294967296) (hk : k ≤ 32) (hfull : n + k ≤ 9000000) :
    Calls Tryz.prog 36 #[.agg #[.slice A l.length c, .int .i64 n], .int .u32 v, .int .i64 k] w fun e w' =>
      Below w.heap.size w w' ∧ ∃ A' c', e = .returned (.agg #[.slice A' (putL l n v k).length c', .int .i64 ((n + k : Nat) : Int)]) ∧ w'.ownsRow w.heap.size 5 1 (.slice A' (putL l n v k).length c') (putL l n v k).length (u8s (putL l n v k)) := by
  obtain ⟨i0, hi0, hz0, hz1, hz2⟩ := info_parts pinfo_u8
  have hlen := hP.len
  have hm : l.length ≤ 2000000 := by omega
  have HA := Lib.hid hA; have HL := Lib.hid hlen; clear hA hlen
  go_enter Tryz.func36, Tryz.ntmps36
  go_wp2_with fail
  refine (twin_any A c l n _ ((hl.alloc _).alloc _) HA.out (by omega)).mono ?_
  rintro e w1 ⟨A2, c2, rfl, hown2, hb1⟩
  obtain ⟨b1, z1, z2, k1, k2⟩ := box2 hb1
  have hown2 := own_far_base (base' := w.heap.size) hown2 (by simp; omega)
  clear hb1
  go_wp2_with fail
  have hp0 : PenAt w.heap.size (w1.alloc (.cells #[.slice A2 l.length c2, .int .i64 (n : Int)] 24)) 24 w1.heap.size l n := ⟨A2, c2, Blk.new _ _ _, hown2.alloc _⟩
  have hr0 : Blk (w1.alloc (.cells #[.slice A2 l.length c2, .int .i64 (n : Int)] 24)) (w.heap.size + 1) 24 #[.slice none 0 0, .int .i64 0] := Blk.alloc k2 _
  go_loopg [1, 8] k (fun gk vv vi wr => ∃ i : Nat, i ≤ k ∧ gk = k - i ∧ vi = .int .i64 i ∧ vv = .int .u32 ((v / 2 ^ i : Nat) : Int) ∧ PenAt w.heap.size wr 24 w1.heap.size (putL l n v i) (n + i) ∧ Blk wr (w.heap.size + 1) 24 #[.slice none 0 0, .int .i64 0] ∧ Below w.heap.size w wr)
  case atStart => exact ⟨0, by omega, by omega, rfl, by simp, hp0, hr0, b1.alloc b1.size _⟩
  case round =>
    obtain ⟨i, hi, hgk, rfl, rfl, hpa, hr, hwr⟩ := hrel
    by_cases hlt : i < k
    · have hs := shr_le v i
      have hPi := (hP.put v i).1
      generalize hL : putL l n v i = L at *
      generalize hV : v / 2 ^ i = V at *
      have hL2 : putL l n v (i + 1) = setBit L (n + i) (V % 2) := by simp only [putL]; rw [hL, hV]
      have hV2 : v / 2 ^ (i + 1) = V / 2 := by rw [Nat.pow_succ, ← Nat.div_div_eq_div_mul, hV]
      obtain ⟨N, hN⟩ : ∃ N, n + i = N := ⟨_, rfl⟩
      have eN : (n : Int) + i = (N : Int) := by omega
      have hNle : N ≤ 9000000 := by omega
      rw [hN] at hPi hpa hL2
      have H := Lib.hid (And.intro hL (And.intro hV (And.intro hL2 (And.intro hV2 (And.intro hN eN)))))
      have hVl : V < 4294967296 := by omega
      clear hL hV hL2 hV2 hN eN hs
      obtain ⟨A3, c3, hblk, hown⟩ := hpa
      have d0 := Blk.cells hblk
      have hlen3 := hPi.len
      have hm3 : L.length ≤ 2000000 := by omega
      have HL3 := Lib.hid hlen3
      clear hlen3
      go_upto_if 19 with (fail)
      go_cut [] (fun wc => ∃ A c, Blk wc w1.heap.size 24 #[.slice A (roomL L N).length c, .int .i64 (N : Int)] ∧ wc.ownsRow w.heap.size 5 1 (.slice A (roomL L N).length c) (roomL L N).length (u8s (roomL L N)) ∧ Blk wc (w.heap.size + 1) 24 #[.slice none 0 0, .int .i64 0] ∧ Below w.heap.size w wc)
      case first =>
        by_cases h8 : N % 8 = 0
        · have hne := Lib.hid (own_blk_ne hown hblk (by decide))
          have hner := Lib.hid (own_blk_ne hown hr (by decide))
          have f0 := hblk.frozens
          have ht : (((N : Int) % 8) == 0) = true := by rw [beq_iff_eq]; omega
          have H8 := Lib.hid h8
          clear h8
          go_wp2_with (at_builtin; refine wpList_app _ rfl (.tmp 21) (.tmp 22) _ rfl w.heap.size 5 i0 _ 1 1 Tryz.underlying22 hi0 hz0 hz1 hz2 rfl (by omega) (.slice A3 L.length c3) L.length (u8s L) rfl (by exact hown.alloc _) (some ⟨wr.heap.size, 0, none⟩) 1 1 (u8s [0]) rfl rfl (by exact Sl.new _ _ _ _ rfl) (by simp) (u8s_one _) (L.length + 1) rfl (u8s (L ++ [0])) (u8s_append _ _) (by simp only [maxLen]; omega) (by omega) (by have := hwr.size; simp; omega) ?_; intro A4 c4 w4 hown4 hg4 hat4; have hblk4 : Blk w4 w1.heap.size 24 #[.slice A3 L.length c3, .int .i64 (N : Int)] := (hblk.alloc _).grown hg4 (Ne.symm hne.out); have d4 := Blk.cells hblk4; have f4 := Blk.frozens hblk4)
          go_meet
          have er : roomL L N = L ++ [0] := by unfold roomL; rw [if_pos H8.out]
          have el : (roomL L N).length = L.length + 1 := by rw [er]; simp
          have hbl := hblk.lt
          have hne4 := own_ne hat4 hne.out (by simp; omega)
          refine ⟨A4, c4, ?_, ?_, ?_, ?_⟩
          · rw [el]; exact hblk4.set_ 0 _
          · rw [el, er]; exact own_far hown4 hne4 _
          · exact Blk.far ((hr.alloc _).grown hg4 (Ne.symm hner.out)) (by simp; omega) _
          · exact ((hwr.alloc hwr.size _).grown hg4 (by have := hwr.size; simp; omega) (own_row_ge hown)).setCell (by simp; omega) _
        · have er : roomL L N = L := by unfold roomL; rw [if_neg h8]
          have ht : (((N : Int) % 8) == 0) = false := by rw [beq_eq_false_iff_ne]; omega
          have H8 := Lib.hid (And.intro h8 er)
          clear h8 er
          go_wp2_with fail
          go_meet
          rw [H8.out.2]
          exact ⟨A3, c3, hblk, hown, hr, hwr⟩
      case rest =>
        obtain ⟨A5, c5, hblk5, hown5, hr5, hb5⟩ := hcut
        obtain ⟨r1, r2, r3, r4⟩ := roomL_spec hPi
        obtain ⟨h, rfl, hh⟩ := own_at hown5 (by omega)
        have hhl := (hown5.lt h rfl).2
        have hx := nth_lt r3 (by omega) (N / 8)
        have hst := set_step (nth (roomL L N) (N / 8)) (N % 8) hx (by omega) r2
        have hcell : wc.cell? ⟨h, N / 8, none⟩ = some (.int .u8 ((nth (roomL L N) (N / 8) : Nat) : Int)) := (hown5.cellAt (N / 8) (by omega)).trans (u8s_at _ _ r1)
        have hfr := hown5.frozenAt (N / 8)
        have hne := own_blk_ne hown5 hblk5 (by decide)
        have hgh : w1.heap.size ≠ h := fun e => hne (by rw [e]; rfl)
        have H3 := Lib.hid (own_blk_ne hown5 hr5 (by decide))
        have d5 := Blk.cells hblk5
        have f5 := Blk.frozens hblk5
        have hgl5 := hblk5.lt
        have hR := r4 (V % 2)
        generalize hrl : roomL L N = R at *
        generalize hxx : nth R (N / 8) = x at *
        have H2 := Lib.hid (And.intro hst (And.intro r2 (And.intro hR (And.intro hxx hrl))))
        clear hst r2 hR hxx hrl d0 r4 hne
        by_cases hv2 : V % 2 = 1
        · have ht : (((V : Int) % 2) == 1) = true := by rw [beq_iff_eq]; omega
          have HV2 := Lib.hid hv2; clear hv2
          have hN8 : (N : Int) % 8 = ((N % 8 : Nat) : Int) := by omega
          have hpw := Lib.hid (fun w => power_at (N % 8) ((N : Int) % 8) w (by omega) hN8)
          have hp8 := pow2_le (N % 8) 7 (by omega)
          generalize 2 ^ (N % 8) = P at *
          clear hN8
          have r1' : (N : Int) / 8 < (R.length : Int) := by omega
          have r0' : 0 ≤ (N : Int) / 8 := by omega
          have q1 : IntKind.i64.wrap ((N : Int).tdiv 8) = (N : Int) / 8 := IntWalk.i64_quo _ _ (by omega)
          have q2 : (N : Int).tmod 8 = (N : Int) % 8 := IntWalk.rem_in _ _ (by omega)
          have q3 : ((N : Int) / 8).toNat = N / 8 := by omega
          have q4 : IntKind.i64.wrap ((N : Int) / 8) = (N : Int) / 8 := IntWalk.i64_in _ (by omega)
          have q5 : IntKind.i64.wrap ((N : Int) % 8) = (N : Int) % 8 := IntWalk.i64_in _ (by omega)
          go_wp2_with fail
          have x0 : wc.cell? ⟨w1.heap.size, 0, none⟩ = some (.slice (some ⟨h, 0, none⟩) R.length c5) := Blk.cell hblk5 0
          have x1 : wc.cell? ⟨w1.heap.size, 1, none⟩ = some (.int .i64 (N : Int)) := Blk.cell hblk5 1
          refine wp_region_still_tail 19 (by kernel_rfl) (by kernel_rfl) ?_
          simp only [List.take_succ_cons, List.take_zero, List.drop_succ_cons, List.drop_zero]
          repeat still_step
          still_call (by exact (hpw.out _).mono fun _ _ ⟨a, b⟩ => ⟨a, b.symm⟩)
          repeat still_step
          refine wpStill_nil ?_
          go_wp2_with fail
          go_roundg (k - (i + 1))
          case measure => omega
          case rel =>
            obtain ⟨hL, hV, hL2, hV2, hN, eN⟩ := H.out
            obtain ⟨hst, r2, hR, hxx, hrl⟩ := H2.out
            have el : (setBit L N (V % 2)).length = R.length := by rw [hR]; simp
            have e1 : ((N : Int) + 1) = ((N + 1 : Nat) : Int) := by omega
            have hval : ((x : Int) + P) % 256 = ((x + V % 2 * P : Nat) : Int) := by rw [HV2.out]; rw [IntKind.wrap_u8] at hst; omega
            rw [hval, e1]
            refine ⟨i + 1, by omega, rfl, by go_num, by rw [hV2]; congr 1 <;> omega, ?_, ?_, ?_⟩
            · rw [hL2, show n + (i + 1) = N + 1 by omega]
              refine ⟨some ⟨h, 0, none⟩, c5, ?_, ?_⟩
              · rw [el]
                exact Blk.drew ((hblk5.far (p := ⟨h, N / 8, none⟩) hgh _).set_ 1 _)
              · rw [el, hR, ← pu8s_set]
                exact own_drew (own_far (hown5.stored (N / 8) _).1 (fun e => hgh (by injection e with e; exact e.symm)) _)
            · exact Blk.drew (Blk.far (Blk.far hr5 (p := ⟨h, N / 8, none⟩) (by have := H3.out; intro e; exact this (by show some h = some (w.heap.size + 1); rw [show w.heap.size + 1 = h from e])) _) (p := ⟨w1.heap.size, 1, none⟩) (by have := hblk.lt; show w.heap.size + 1 ≠ w1.heap.size; omega) _)
            · exact ((hb5.setCell hh _).setCell (by show w.heap.size ≤ w1.heap.size; omega) _).drew
        · have ht : (((V : Int) % 2) == 1) = false := by rw [beq_eq_false_iff_ne]; omega
          have HV2 := Lib.hid hv2; clear hv2
          go_wp2_with fail
          go_roundg (k - (i + 1))
          case measure => omega
          case rel =>
            obtain ⟨hL, hV, hL2, hV2, hN, eN⟩ := H.out
            obtain ⟨hst, r2, hR, hxx, hrl⟩ := H2.out
            have hv0 : V % 2 = 0 := by have := HV2.out; omega
            have e1 : ((N : Int) + 1) = ((N + 1 : Nat) : Int) := by omega
            have hRR : setBit L N (V % 2) = R := by
              rw [hR, hv0, Nat.zero_mul, Nat.add_zero, ← hxx]
              unfold nth
              rw [List.getElem?_eq_getElem r1]
              exact List.set_getElem_self r1
            rw [e1]
            refine ⟨i + 1, by omega, rfl, by go_num, by rw [hV2]; congr 1 <;> omega, ?_, ?_, ?_⟩
            · rw [hL2, show n + (i + 1) = N + 1 by omega, hRR]
              exact ⟨some ⟨h, 0, none⟩, c5, hblk5.set_ 1 _, own_far hown5 (fun e => hgh (by injection e with e; exact e.symm)) _⟩
            · exact Blk.far hr5 (p := ⟨w1.heap.size, 1, none⟩) (by have := hblk.lt; show w.heap.size + 1 ≠ w1.heap.size; omega) _
            · exact hb5.setCell (by show w.heap.size ≤ w1.heap.size; omega) _
    · obtain rfl : i = k := by omega
      obtain ⟨A5, c5, hblk5, hown5⟩ := hpa
      have d5 := Blk.cells hblk5
      have cr := Blk.cells hr
      have fr := Blk.frozens hr
      generalize hmm : putL l n v i = m at *
      have Hm := Lib.hid hmm
      clear hmm
      go_wp2_with fail
      refine bodyPost_ret (v := .agg #[.slice A5 m.length c5, .int .i64 ((n + i : Nat) : Int)]) (by simp [results, Tryz.results36, go_sem, cr, d5]) rfl ?_
      have hne5 := own_blk_ne hown5 hr (by decide)
      rw [Hm.out]
      exact ⟨(hwr.setCell (by simp) _).setCell (by simp) _, A5, c5, rfl, own_far (own_far hown5 hne5 _) hne5 _⟩
end Go.Proofs.YtfcefhaaphieeaaGreat

/-
  Walks: the reference's Put and Align.
-/
namespace Go.Proofs.YtfcefhaaphieeaaGreat
open Go.RowKit

theorem rmay_is (A : Option Addr) (c : Nat) (l : List Nat) (n : Int) (t : Bool) (w : World) (h : mayB l n = t) (hl : Bs w A l) (hm : l.length ≤ 1000000000) (h1 : -9223372036854775808 ≤ n) (h2 : n ≤ 9223372036854775807) :
    Calls Tryz.prog 15 #[.agg #[.slice A l.length c, .int .i64 n]] w fun e w' => e = .returned (.bool t) ∧ Below w.heap.size w w' := by
  subst h; exact may_any A c l n w hl hm h1 h2
end Go.Proofs.YtfcefhaaphieeaaGreat
