/-
  Plain: a code's bits, put behind a pen, are read as its symbol.
-/
import Derived.Test.YtahboomghjdjhaaGreatG12
import Derived.Test.YtahboomghjdjhaaGreatGTreeR
import Derived.Test.YtahboomghjdjhaaGreatGTreeW
import Derived.Test.YtahboomghjdjhaaGreatGTreeZ
namespace Go.Proofs.YtahboomghjdjhaaGreat

theorem cnt_app_zeros (l : List Nat) (k n : Nat) : cnt (l ++ List.replicate k 0) n = cnt l n := by
  unfold cnt
  by_cases h : n = 0
  · rw [if_pos h, if_pos h]
  · rw [if_neg h, if_neg h, List.count_append, List.count_replicate]
    simp [show ¬ (0 = n) by omega]
theorem cnt_pad (l : List Nat) : cnt (padL l) = cnt l := by funext n; exact cnt_app_zeros l _ n
theorem codeAt_pad {l : List Nat} {i : Nat} (hi : i < l.length) : codeAt (padL l) i = codeAt l i := by
  unfold codeAt
  rw [padL_nth, cnt_pad, show (padL l).take i = l.take i by unfold padL; rw [List.take_append_of_le_length (by omega)]]
theorem gF_ok {l : List Nat} {m : Int} (h : canE l m = 0) : gF l m = cntS (allP l 16) ∧ gX l m = symS (allP l 16) := by unfold gF gX; rw [if_pos h, if_pos h]; exact ⟨rfl, rfl⟩
end Go.Proofs.YtahboomghjdjhaaGreat

/-
  The document's Read, by lengths of any number; zeros behind count for nothing.
-/
namespace Go.Proofs.YtahboomghjdjhaaGreat
open Go.RowKit

theorem find_congr {α : Type} {p q : α → Bool} : ∀ (l : List α), (∀ x ∈ l, p x = q x) → l.find? p = l.find? q
  | [], _ => rfl
  | x :: l, h => by
    rw [List.find?_cons, List.find?_cons, h x (by simp), find_congr l (fun y hy => h y (by simp [hy]))]
theorem hitB_pad (l : List Nat) (n v i : Nat) : hitB (padL l) n v i = hitB l n v i := by
  unfold hitB
  rw [padL_nth]
  rcases Nat.lt_or_ge i l.length with hi | hi
  · rw [codeAt_pad hi]
  · have h0 : nth l i = 0 := by unfold nth; rw [List.getElem?_eq_none hi]; rfl
    rw [h0]
    apply decide_eq_decide.2
    constructor <;> (rintro ⟨h1, _, h3⟩; omega)
theorem moreB_pad (l : List Nat) (n v i : Nat) : moreB (padL l) n v i = moreB l n v i := by
  unfold moreB
  rw [padL_nth]
  rcases Nat.lt_or_ge i l.length with hi | hi
  · rw [codeAt_pad hi]
  · have h0 : nth l i = 0 := by unfold nth; rw [List.getElem?_eq_none hi]; rfl
    rw [h0]
    apply decide_eq_decide.2
    constructor <;> (rintro ⟨h1, _⟩; omega)
theorem hitB_out {l : List Nat} {n v i : Nat} (hi : l.length ≤ i) : hitB l n v i = false := by
  unfold hitB
  have h0 : nth l i = 0 := by unfold nth; rw [List.getElem?_eq_none hi]; rfl
  rw [h0]
  exact decide_eq_false (by rintro ⟨h1, _, h3⟩; omega)
theorem moreB_out {l : List Nat} {n v i : Nat} (hi : l.length ≤ i) : moreB l n v i = false := by
  unfold moreB
  have h0 : nth l i = 0 := by unfold nth; rw [List.getElem?_eq_none hi]; rfl
  rw [h0]
  exact decide_eq_false (by rintro ⟨h1, _⟩; omega)
theorem padL_len (l : List Nat) : (padL l).length = l.length + (320 - l.length) := by simp [padL]
theorem hitF_pad (l : List Nat) (n v : Nat) : hitF (padL l) n v = hitF l n v := by
  unfold hitF
  rw [padL_len, List.range_add, List.find?_append, find_congr (List.range l.length) (fun x _ => hitB_pad l n v x)]
  have h2 : ((List.range (320 - l.length)).map (l.length + ·)).find? (hitB (padL l) n v) = none := by
    rw [List.find?_eq_none]
    intro x hx
    obtain ⟨j, _, rfl⟩ := List.mem_map.1 hx
    rw [hitB_pad, hitB_out (by omega)]
    simp
  rw [h2, Option.or_none]
theorem moreN_pad (l : List Nat) (n v : Nat) : moreN (padL l) n v (padL l).length = moreN l n v l.length := by
  unfold moreN
  rw [padL_len, List.range_add, List.any_append]
  have h1 : (List.range l.length).any (moreB (padL l) n v) = (List.range l.length).any (moreB l n v) := by
    congr 1
    funext x
    exact moreB_pad l n v x
  have h2 : ((List.range (320 - l.length)).map (l.length + ·)).any (moreB (padL l) n v) = false := by
    rw [List.any_eq_false]
    intro x hx
    obtain ⟨j, _, rfl⟩ := List.mem_map.1 hx
    rw [moreB_pad, moreB_out (by omega)]
    simp
  rw [h1, h2, Bool.or_false]
theorem rdT_pad (l b : List Nat) : ∀ k n v a, rdT (padL l) b k n v a = rdT l b k n v a
  | 0, _, _, _ => rfl
  | k + 1, n, v, a => by
    rw [rdT, rdT, hitF_pad, moreN_pad, rdT_pad l b k]
set_option maxRecDepth 100000 in
set_option maxHeartbeats 4000000 in
theorem rread_len (A B : Option Addr) (c d nb nl : Nat) (l b : List Nat) (a0 : Nat) (w : World) (hA : Rd w A (codV (codesL l))) (hl : l.length = nl) (hnl : nl ≤ 320) (hc : canE l 15 = 0) (hB : Bs w B b) (hnb : nb = b.length) (hb : nb ≤ 100000) (ha : a0 ≤ 9223372036854775807) :
    Calls Tryz.prog 52 #[.slice A nl c, .slice B nb d, .int .i64 (a0 : Int)] w fun e w' => ReadRes w w' e (rdT l b 16 0 0 a0) := by
  have HL := Lib.hid hl
  have HC := Lib.hid hc
  have h15 := can15 hc
  have HT := Lib.hid (fun wx (hl : Bs wx B b) at_ h1 h2 => by have := rtake_any B d b at_ 1 wx hl (by omega) h1 h2; rw [← hnb] at this; exact this)
  have HNB := Lib.hid hnb
  have hk5 := (canE_ok hc).2.2.2.2.1
  have H15 := Lib.hid h15
  have HK := Lib.hid hk5
  clear hl hc h15 hnb hk5
  obtain ⟨R, hR⟩ : ∃ R, rdT l b 16 0 0 a0 = R := ⟨_, rfl⟩
  have HR := Lib.hid hR
  rw [hR]
  clear hR
  go_enter Tryz.func52, Tryz.ntmps52
  go_wp2_with fail
  go_loopg [2, 9, 10] 16 (fun gk v2 v9 v10 wr => ∃ n v a : Nat, n ≤ 15 ∧ gk = 16 - n ∧ v10 = .int .i64 (n : Int) ∧ v9 = .int .u32 (v : Int) ∧ v2 = .int .i64 (a : Int) ∧ v < 2 ^ n ∧ a ≤ 9223372036854775807 ∧ Below w.heap.size w wr ∧ rdT l b (16 - n) n v a = R)
  case atStart => exact ⟨0, 0, a0, by omega, rfl, rfl, rfl, rfl, by omega, ha, Below.refl _ _, HR.out⟩
  case round =>
    clear HR
    clear ha
    obtain ⟨n, v, a, hn, hgk, rfl, rfl, rfl, hv, ha, hbw, hR⟩ := hrel
    have hv15 : v < 32768 := Nat.lt_of_lt_of_le hv (Nat.pow_le_pow_right (n := 2) (j := 15) (by omega) hn)
    have HV := Lib.hid hv
    have HR := Lib.hid hR
    have HG := Lib.hid hgk
    clear hv hR hgk
    go_wp2_with fail
    go_loopg [11, 12] nl (fun gi v11 v12 wr => ∃ (i : Nat) (mo : Bool), i ≤ nl ∧ gi = nl - i ∧ v12 = .int .i64 (i : Int) ∧ v11 = .bool mo ∧ mo = moreN l n v i ∧ (∀ k, k < i → hitB l n v k = false) ∧ Below w.heap.size w wr)
    case atStart => exact ⟨0, false, by omega, rfl, rfl, rfl, rfl, fun k hk => by omega, hbw⟩
    case round =>
      clear hbw
      obtain ⟨i, mo, hi, hgi, rfl, rfl, hmo, hno, hbw⟩ := hrel
      have HM := Lib.hid hmo
      have HNo := Lib.hid hno
      clear hmo hno
      by_cases hlt : i < nl
      · obtain ⟨g, off, rfl, c1, c2⟩ := (hA.below hbw).at_code (i := i) (by rw [HL.out]; exact hlt)
        have hy15 := nth_le_t H15.out i
        have hx15 := code_le H15.out HK.out (i := i) (by rw [HL.out]; exact hlt)
        obtain ⟨x, hx⟩ : ∃ x, (codeAt l i).1 = x := ⟨_, rfl⟩
        obtain ⟨y, hy⟩ : ∃ y, nth l i = y := ⟨_, rfl⟩
        have HX := Lib.hid (And.intro hx hy)
        rw [hx] at c1 hx15
        rw [hy] at c2 hy15
        clear hx hy
        have hb' : Below w.heap.size w (wr.alloc (.cells #[.int .u32 (x : Int), .int .u8 (y : Int)] 123)) := hbw.alloc hbw.size _
        by_cases hskip : y = 0 ∨ y < n
        · have HM2 := Lib.hid (show mo = moreN l n v (i + 1) by rw [moreN_succ, ← HM.out, more_no (by rw [HX.out.2]; omega), Bool.or_false])
          have HNo2 := Lib.hid (show ∀ k, k < i + 1 → hitB l n v k = false from upto_succ HNo.out (hit_no (by rw [HX.out.2]; omega)))
          by_cases hy0 : y = 0
          · subst hy0
            clear hskip
            go_wp2_with fail
            go_roundg (nl - (i + 1))
            case measure => omega
            case rel => exact ⟨i + 1, mo, by omega, by omega, by go_num, rfl, HM2.out, HNo2.out, hb'⟩
          · have hyn : y < n := by omega
            have hyb : ((y : Int) == 0) = false := by rw [beq_eq_false_iff_ne]; omega
            clear hskip hy0
            go_wp2_with fail
            go_roundg (nl - (i + 1))
            case measure => omega
            case rel => exact ⟨i + 1, mo, by omega, by omega, by go_num, rfl, HM2.out, HNo2.out, hb'⟩
        · have hyb : ((y : Int) == 0) = false := by rw [beq_eq_false_iff_ne]; omega
          have hyn' : decide (y < n) = false := decide_eq_false (by omega)
          have hyn'' : decide ((y : Int) < (n : Int)) = false := decide_eq_false (by omega)
          by_cases hyn : y = n
          · subst hyn
            have hy0 : 0 < y := by omega
            have hyy : ((y : Int) == (y : Int)) = true := by simp
            by_cases hxv : x = v
            · have hh := hitF_some (l := l) (n := y) (v := v) (i := i) (by rw [HL.out]; exact hlt) (by unfold hitB; exact decide_eq_true ⟨HX.out.2, HX.out.1.trans hxv, hy0⟩) HNo.out
              have HE := Lib.hid (show R = (i, a, 0) by rw [← HR.out, show 16 - y = (15 - y) + 1 by omega, rd_hit hh])
              clear hh
              subst hxv
              have hxx : ((x : Int) == (x : Int)) = true := by simp
              clear hskip
              go_wp2_with fail
              go_ret3
              exact ReadRes.mk' HE.out rfl hb'
            · have HM2 := Lib.hid (show mo = moreN l y v (i + 1) by rw [moreN_succ, ← HM.out, more_no (by rw [HX.out.2]; omega), Bool.or_false])
              have HNo2 := Lib.hid (show ∀ k, k < i + 1 → hitB l y v k = false from upto_succ HNo.out (hit_no (by rw [HX.out.1]; omega)))
              have hxb : ((x : Int) == (v : Int)) = false := by rw [beq_eq_false_iff_ne]; omega
              clear hskip hxv
              cases mo
              all_goals
                go_wp2_with fail
                go_roundg (nl - (i + 1))
                case measure => omega
                case rel => exact ⟨i + 1, _, by omega, by omega, by go_num, rfl, HM2.out, HNo2.out, hb'⟩
          · have hyg : n < y := by omega
            have HNo2 := Lib.hid (show ∀ k, k < i + 1 → hitB l n v k = false from upto_succ HNo.out (hit_no (by rw [HX.out.2]; omega)))
            have HM2 := Lib.hid (show moreN l n v (i + 1) = (mo || decide (x / 2 ^ (y - n) = v)) by rw [moreN_succ, ← HM.out]; unfold moreB; rw [HX.out.1, HX.out.2]; simp [hyg])
            have hyb2 : ((y : Int) == (n : Int)) = false := by rw [beq_eq_false_iff_ne]; omega
            clear hskip hyn
            cases mo
            · go_wp2_with fail
              go_roundg (nl - (i + 1))
              case measure => omega
              case rel => exact ⟨i + 1, _, by omega, by omega, by go_num, rfl, by rw [HM2.out, Bool.false_or, shr_eqb], HNo2.out, hb'⟩
            · go_wp2_with fail
              go_roundg (nl - (i + 1))
              case measure => omega
              case rel => exact ⟨i + 1, _, by omega, by omega, by go_num, rfl, HM2.out.symm, HNo2.out, hb'⟩
      · obtain rfl : i = nl := by omega
        have hnh := hitF_none (l := l) (n := n) (v := v) (fun k hk => HNo.out k (by rw [← HL.out]; exact hk))
        have hm0 : mo = moreN l n v l.length := by rw [HL.out]; exact HM.out
        clear HM HNo hgi
        cases mo
        · have HE := Lib.hid (show R = (0, 0, 50) by rw [← HR.out, show 16 - n = (15 - n) + 1 by omega, rd_code hnh hm0.symm])
          clear hnh hm0
          go_wp2_with fail
          go_ret3
          exact ReadRes.mk' HE.out rfl hbw
        · have hn15 := more_lt H15.out hm0.symm
          have hB2 := hB.below hbw
          by_cases hab : a < 8 * nb
          · obtain ⟨t1, t2⟩ := take_bit b a (by rw [← HNB.out]; exact hab)
            have HRr := Lib.hid (show rdT l b (16 - (n + 1)) (n + 1) (2 * v + bitOf b a) (a + 1) = R by rw [← HR.out, show 16 - n = (16 - (n + 1)) + 1 by omega, rd_go hnh hm0.symm (by rw [← HNB.out]; exact hab)])
            have hbit := bitOf_lt b a
            have HT2 := Lib.hid (by have := HT.out wr hB2 (a : Int) (by omega) (by omega); rw [t1, t2] at this; exact this)
            clear hnh hm0 t1 t2
            obtain ⟨x, hx⟩ : ∃ x, bitOf b a = x := ⟨_, rfl⟩
            rw [hx] at HT2 HRr hbit
            clear hx
            have hv2 : 2 * v + x < 2 ^ (n + 1) := by have := HV.out; rw [Nat.pow_succ]; omega
            have HV2 := Lib.hid hv2
            clear hv2
            go_wp2_with (go_at_call 48; refine (HT2.out).mono ?_; rintro e w' ⟨rfl, rfl⟩)
            go_roundg (16 - (n + 1))
            case measure => have := HG.out; omega
            case rel => exact ⟨n + 1, 2 * v + x, a + 1, by omega, by omega, by go_num, by go_num, by go_num, HV2.out, by omega, hbw, HRr.out⟩
          · obtain ⟨t1, t2⟩ := take_none b a (by rw [← HNB.out]; omega)
            have HE := Lib.hid (show R = (0, 0, 10) by rw [← HR.out, show 16 - n = (15 - n) + 1 by omega, rd_end hnh hm0.symm (by rw [← HNB.out]; omega)])
            have HT2 := Lib.hid (by have := HT.out wr hB2 (a : Int) (by omega) (by omega); rw [t1, t2] at this; exact this)
            clear hnh hm0 t1 t2
            go_wp2_with (go_at_call 48; refine (HT2.out).mono ?_; rintro e w' ⟨rfl, rfl⟩)
            go_ret3
            exact ReadRes.mk' HE.out rfl hbw
end Go.Proofs.YtahboomghjdjhaaGreat
