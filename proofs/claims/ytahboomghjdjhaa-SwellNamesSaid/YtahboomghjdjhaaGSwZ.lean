/-
  Walks: bytes.Equal, swell.Same.
-/
import Derived.Test.YtahboomghjdjhaaG43
import Derived.Test.YtahboomghjdjhaaGSwW
namespace Go.Proofs.Ytahboomghjdjhaa
open Go.RowKit

theorem toList_loop (bs : ByteArray) : ∀ n i r, bs.size - i = n → ByteArray.toList.loop bs i r = r.reverse ++ bs.data.toList.drop i := by
  intro n
  induction n with
  | zero =>
    intro i r h
    rw [ByteArray.toList.loop.eq_def, if_neg (by omega), List.drop_eq_nil_of_le (show bs.data.size ≤ i from Nat.le_of_sub_eq_zero h), List.append_nil]
  | succ n ih =>
    intro i r h
    have hi : i < bs.size := by omega
    rw [ByteArray.toList.loop.eq_def, if_pos hi, ih (i + 1) _ (by omega), List.reverse_cons, List.append_assoc]
    have hi' : i < bs.data.toList.length := hi
    rw [List.drop_eq_getElem_cons hi', List.singleton_append]
    congr 2
    have : i < bs.data.size := hi
    show bs.data[i]! = _
    exact getElem!_pos bs.data i this
theorem toList_is (bs : ByteArray) : bs.toList = bs.data.toList := by
  unfold ByteArray.toList
  rw [toList_loop bs _ 0 [] rfl]
  simp
theorem str_toList {l m : List Nat} (hl : ∀ x ∈ l, x < 256) (hm : ∀ x ∈ m, x < 256) : ((str l).toList == (str m).toList) = decide (l = m) := by
  by_cases h : l = m
  · subst h; simp
  · rw [decide_eq_false h, beq_eq_false_iff_ne]
    intro e
    rw [toList_is, toList_is] at e
    exact h (str_inj hl hm (congrArg ByteArray.mk (Array.toList_inj.1 e)))
set_option maxRecDepth 100000 in
set_option maxHeartbeats 1000000 in
theorem bequal_any (A B : Option Addr) (n1 c1 n2 c2 : Nat) (l1 l2 : List Nat) (w : World) (hA : Rd w A (u8s l1)) (hB : Rd w B (u8s l2)) (b1 : ∀ x ∈ l1, x < 256) (b2 : ∀ x ∈ l2, x < 256) (e1 : n1 = l1.length) (e2 : n2 = l2.length) :
    Calls Try.prog 21 #[.slice A n1 c1, .slice B n2 c2] w fun r w' => r = .returned (.bool (decide (l1 = l2))) ∧ w' = w := by
  have hv1 := conv_bytes (P := Try.prog) w 22 5 Try.underlying22 Try.underlying5 9 Try.underlying9 A l1 c1 (rd_u8 hA b1) (fun h => by have := hA.2 h; simpa [u8s] using this)
  have hv2 := conv_bytes (P := Try.prog) w 22 5 Try.underlying22 Try.underlying5 9 Try.underlying9 B l2 c2 (rd_u8 hB b2) (fun h => by have := hB.2 h; simpa [u8s] using this)
  rw [← e1] at hv1
  rw [← e2] at hv2
  have HQ := Lib.hid (str_toList b1 b2)
  clear e1 e2
  go_enter Try.func21, Try.ntmps21
  go_wp2_with fail
  go_ret
  exact ⟨by rw [← HQ.out]; rfl, rfl⟩

/-- Are two streams the same? -/
def sameW (a b : Wv) : Bool := decide (a.most = b.most) && (decide (a.made = b.made) && (decide (a.at0 = b.at0) && ((a.op == b.op) && ((a.over == b.over) && (decide (a.lA = b.lA) && (sameV a.bk b.bk && (decide (a.size = b.size) && decide (a.lw = b.lw))))))))
set_option maxRecDepth 100000 in
set_option maxHeartbeats 8000000 in
theorem sw_same (a b : Wv) (w : World) (ha : a.ok w) (hb : b.ok w) :
    Calls Try.prog 12 #[.agg (cellsOf 45 a.F), .agg (cellsOf 45 b.F)] w fun r w' => r = .returned (.bool (sameW a b)) ∧ Below w.heap.size w w' := by
  have HI := Lib.hid fun wx (h : Below w.heap.size w wx) => bequal_any a.A b.A a.nA a.cA b.nA b.cA a.lA b.lA wx (ha.rA.below h) (hb.rA.below h) ha.bA hb.bA ha.lenA hb.lenA
  have HW := Lib.hid fun wx (h : Below w.heap.size w wx) => bequal_any a.Bw b.Bw a.nw a.cw b.nw b.cw a.lw b.lw wx (ha.rw_.below h) (hb.rw_.below h) ha.bw hb.bw ha.lenw hb.lenw
  have HB := Lib.hid fun wx (h : Below w.heap.size w wx) => ssame_any a.bk b.bk wx (ha.bk.below h) (hb.bk.below h)
  clear ha hb
  obtain ⟨ma, da, A, nA, cA, lA, ta, ka, oa, za, Aw, nw, cw, lw, va⟩ := a
  obtain ⟨mb, db, B, nB, cB, lB, tb, kb, ob, zb, Bw, mw, dw, kw, vb⟩ := b
  dsimp only at HI HW HB
  obtain ⟨RR, hRR⟩ : ∃ R, sameW ⟨ma, da, A, nA, cA, lA, ta, ka, oa, za, Aw, nw, cw, lw, va⟩ ⟨mb, db, B, nB, cB, lB, tb, kb, ob, zb, Bw, mw, dw, kw, vb⟩ = R := ⟨_, rfl⟩
  rw [hRR]
  unfold sameW at hRR
  dsimp only at hRR
  obtain ⟨qI, hqI⟩ : ∃ q, decide (lA = lB) = q := ⟨_, rfl⟩
  obtain ⟨qW, hqW⟩ : ∃ q, decide (lw = kw) = q := ⟨_, rfl⟩
  obtain ⟨qB, hqB⟩ : ∃ q, sameV ka kb = q := ⟨_, rfl⟩
  rw [hqI] at HI hRR
  rw [hqW] at HW hRR
  rw [hqB] at HB hRR
  clear hqI hqW hqB
  have HRR := Lib.hid hRR
  clear hRR
  unfold Wv.F
  dsimp only
  have hb0 : Below w.heap.size w ((w.alloc (.cells (cellsOf 45 (swH ma da (.slice A nA cA) ta ka.F oa za (.slice Aw nw cw) va)) 32)).alloc (.cells (cellsOf 45 (swH mb db (.slice B nB cB) tb kb.F ob zb (.slice Bw mw dw) vb)) 32)) := ((Below.refl _ _).alloc (Nat.le_refl _) _).alloc (by simp) _
  have k0 : Arr ((w.alloc (.cells (cellsOf 45 (swH ma da (.slice A nA cA) ta ka.F oa za (.slice Aw nw cw) va)) 32)).alloc (.cells (cellsOf 45 (swH mb db (.slice B nB cB) tb kb.F ob zb (.slice Bw mw dw) vb)) 32)) w.heap.size 32 45 (swH ma da (.slice A nA cA) ta ka.F oa za (.slice Aw nw cw) va) := Arr.alloc (Blk.new _ _ _) _
  have k1 : Arr ((w.alloc (.cells (cellsOf 45 (swH ma da (.slice A nA cA) ta ka.F oa za (.slice Aw nw cw) va)) 32)).alloc (.cells (cellsOf 45 (swH mb db (.slice B nB cB) tb kb.F ob zb (.slice Bw mw dw) vb)) 32)) (w.heap.size + 1) 32 45 (swH mb db (.slice B nB cB) tb kb.F ob zb (.slice Bw mw dw) vb) := Blk.new' _ _ _ _ (by simp)
  go_enter Try.func12, Try.ntmps12
  go_upto_region 1 with (fail)
  change Code.wp _ _ _ _ ((w.alloc (.cells (cellsOf 45 (swH ma da (.slice A nA cA) ta ka.F oa za (.slice Aw nw cw) va)) 32)).alloc (.cells (cellsOf 45 (swH mb db (.slice B nB cB) tb kb.F ob zb (.slice Bw mw dw) vb)) 32))
  generalize (w.alloc (.cells (cellsOf 45 (swH ma da (.slice A nA cA) ta ka.F oa za (.slice Aw nw cw) va)) 32)).alloc (.cells (cellsOf 45 (swH mb db (.slice B nB cB) tb kb.F ob zb (.slice Bw mw dw) vb)) 32) = w0 at *
  obtain ⟨ga, hga⟩ : ∃ g, w.heap.size = g := ⟨_, rfl⟩
  obtain ⟨gb, hgb⟩ : ∃ g, w.heap.size + 1 = g := ⟨_, rfl⟩
  rw [hgb] at k1
  rw [hgb]
  clear hga hgb
  have w0a0 : w0.cell? ⟨w.heap.size, 0, none⟩ = some (.int .i64 ma) := Arr.cell k0 0 (by omega)
  have w0b0 : w0.cell? ⟨gb, 0, none⟩ = some (.int .i64 mb) := Arr.cell k1 0 (by omega)
  have w0a1 : w0.cell? ⟨w.heap.size, 1, none⟩ = some (.int .i64 da) := Arr.cell k0 1 (by omega)
  have w0b1 : w0.cell? ⟨gb, 1, none⟩ = some (.int .i64 db) := Arr.cell k1 1 (by omega)
  have w0a3 : w0.cell? ⟨w.heap.size, 3, none⟩ = some (.int .i64 ta) := Arr.cell k0 3 (by omega)
  have w0b3 : w0.cell? ⟨gb, 3, none⟩ = some (.int .i64 tb) := Arr.cell k1 3 (by omega)
  have w0a41 : w0.cell? ⟨w.heap.size, 41, none⟩ = some (.bool oa) := Arr.cell k0 41 (by omega)
  have w0b41 : w0.cell? ⟨gb, 41, none⟩ = some (.bool ob) := Arr.cell k1 41 (by omega)
  have w0a44 : w0.cell? ⟨w.heap.size, 44, none⟩ = some (.bool va) := Arr.cell k0 44 (by omega)
  have w0b44 : w0.cell? ⟨gb, 44, none⟩ = some (.bool vb) := Arr.cell k1 44 (by omega)
  have w0a2 : w0.cell? ⟨w.heap.size, 2, none⟩ = some (.slice A nA cA) := Arr.cell k0 2 (by omega)
  have w0b2 : w0.cell? ⟨gb, 2, none⟩ = some (.slice B nB cB) := Arr.cell k1 2 (by omega)
  have w0a42 : w0.cell? ⟨w.heap.size, 42, none⟩ = some (.int .i64 za) := Arr.cell k0 42 (by omega)
  have w0b42 : w0.cell? ⟨gb, 42, none⟩ = some (.int .i64 zb) := Arr.cell k1 42 (by omega)
  have w0a43 : w0.cell? ⟨w.heap.size, 43, none⟩ = some (.slice Aw nw cw) := Arr.cell k0 43 (by omega)
  have w0b43 : w0.cell? ⟨gb, 43, none⟩ = some (.slice Bw mw dw) := Arr.cell k1 43 (by omega)
  by_cases hma : ma = mb
  · subst hma
    by_cases hda : da = db
    · subst hda
      by_cases hta : ta = tb
      · subst hta
        by_cases hoa : oa = ob
        · subst hoa
          have eoa : (oa == oa) = true := by simp
          by_cases hva : va = vb
          · subst hva
            have eva : (va == va) = true := by simp
            have HR1 := Lib.hid (show RR = (qI && (qB && (decide (za = zb) && qW))) by rw [← HRR.out]; simp)
            clear HRR
            cases qI with
            | false =>
              have HR := Lib.hid (show RR = false by rw [HR1.out]; rfl)
              go_wp2_with (first
                | (go_at_call 21; refine (HI.out _ hb0).mono ?_; rintro e wI ⟨rfl, hwI⟩; subst hwI))
              go_ret
              exact ⟨by rw [HR.out] <;> rfl, hb0⟩
            | true =>
              cases qB with
              | false =>
                have HR := Lib.hid (show RR = false by rw [HR1.out]; rfl)
                go_wp2_with (first
                  | (go_at_call 22; refine (HB.out _ hb0).mono ?_; rintro e w2 ⟨rfl, h2⟩; have hh2 := hb0.trans (h2.mono hb0.size); have kk0 := Arr.below k0 h2 (Blk.lt k0); have kk1 := Arr.below k1 h2 (Blk.lt k1); have w2a42 : w2.cell? ⟨w.heap.size, 42, none⟩ = some (.int .i64 za) := Arr.cell kk0 42 (by omega); have w2b42 : w2.cell? ⟨gb, 42, none⟩ = some (.int .i64 zb) := Arr.cell kk1 42 (by omega); have w2a43 : w2.cell? ⟨w.heap.size, 43, none⟩ = some (.slice Aw nw cw) := Arr.cell kk0 43 (by omega); have w2b43 : w2.cell? ⟨gb, 43, none⟩ = some (.slice Bw mw dw) := Arr.cell kk1 43 (by omega))
                  | (refine load_subG (by rfl) 28 (.tmp 50) rfl rfl k1 37 (by omega) Try.underlying28 rfl bk_size kb.F (fun i hi => swH_bk _ _ _ _ _ _ _ _ _ i hi) ?_)
                  | (refine load_subG (by rfl) 28 (.tmp 48) rfl rfl k0 37 (by omega) Try.underlying28 rfl bk_size ka.F (fun i hi => swH_bk _ _ _ _ _ _ _ _ _ i hi) ?_)
                  | (go_at_call 21; refine (HI.out _ hb0).mono ?_; rintro e wI ⟨rfl, hwI⟩; subst hwI))
                go_ret
                exact ⟨by rw [HR.out] <;> rfl, hh2⟩
              | true =>
                by_cases hz : za = zb
                · subst hz
                  have HR := Lib.hid (show RR = qW by rw [HR1.out]; simp)
                  go_wp2_with (first
                    | (go_at_call 21; refine (HW.out _ hh2).mono ?_; rintro e wW ⟨rfl, hwW⟩; subst hwW)
                    | (go_at_call 22; refine (HB.out _ hb0).mono ?_; rintro e w2 ⟨rfl, h2⟩; have hh2 := hb0.trans (h2.mono hb0.size); have kk0 := Arr.below k0 h2 (Blk.lt k0); have kk1 := Arr.below k1 h2 (Blk.lt k1); have w2a42 : w2.cell? ⟨w.heap.size, 42, none⟩ = some (.int .i64 za) := Arr.cell kk0 42 (by omega); have w2b42 : w2.cell? ⟨gb, 42, none⟩ = some (.int .i64 za) := Arr.cell kk1 42 (by omega); have w2a43 : w2.cell? ⟨w.heap.size, 43, none⟩ = some (.slice Aw nw cw) := Arr.cell kk0 43 (by omega); have w2b43 : w2.cell? ⟨gb, 43, none⟩ = some (.slice Bw mw dw) := Arr.cell kk1 43 (by omega))
                    | (refine load_subG (by rfl) 28 (.tmp 50) rfl rfl k1 37 (by omega) Try.underlying28 rfl bk_size kb.F (fun i hi => swH_bk _ _ _ _ _ _ _ _ _ i hi) ?_)
                    | (refine load_subG (by rfl) 28 (.tmp 48) rfl rfl k0 37 (by omega) Try.underlying28 rfl bk_size ka.F (fun i hi => swH_bk _ _ _ _ _ _ _ _ _ i hi) ?_)
                    | (go_at_call 21; refine (HI.out _ hb0).mono ?_; rintro e wI ⟨rfl, hwI⟩; subst hwI))
                  go_ret
                  exact ⟨by rw [HR.out] <;> rfl, hh2⟩
                · have ez : (za == zb) = false := by rw [beq_eq_false_iff_ne]; exact hz
                  have HR := Lib.hid (show RR = false by rw [HR1.out, decide_eq_false hz]; rfl)
                  go_wp2_with (first
                    | (go_at_call 22; refine (HB.out _ hb0).mono ?_; rintro e w2 ⟨rfl, h2⟩; have hh2 := hb0.trans (h2.mono hb0.size); have kk0 := Arr.below k0 h2 (Blk.lt k0); have kk1 := Arr.below k1 h2 (Blk.lt k1); have w2a42 : w2.cell? ⟨w.heap.size, 42, none⟩ = some (.int .i64 za) := Arr.cell kk0 42 (by omega); have w2b42 : w2.cell? ⟨gb, 42, none⟩ = some (.int .i64 zb) := Arr.cell kk1 42 (by omega); have w2a43 : w2.cell? ⟨w.heap.size, 43, none⟩ = some (.slice Aw nw cw) := Arr.cell kk0 43 (by omega); have w2b43 : w2.cell? ⟨gb, 43, none⟩ = some (.slice Bw mw dw) := Arr.cell kk1 43 (by omega))
                    | (refine load_subG (by rfl) 28 (.tmp 50) rfl rfl k1 37 (by omega) Try.underlying28 rfl bk_size kb.F (fun i hi => swH_bk _ _ _ _ _ _ _ _ _ i hi) ?_)
                    | (refine load_subG (by rfl) 28 (.tmp 48) rfl rfl k0 37 (by omega) Try.underlying28 rfl bk_size ka.F (fun i hi => swH_bk _ _ _ _ _ _ _ _ _ i hi) ?_)
                    | (go_at_call 21; refine (HI.out _ hb0).mono ?_; rintro e wI ⟨rfl, hwI⟩; subst hwI))
                  go_ret
                  exact ⟨by rw [HR.out] <;> rfl, hh2⟩
          · have eva : (va == vb) = false := by rw [beq_eq_false_iff_ne]; exact hva
            have HR := Lib.hid (show RR = false by rw [← HRR.out]; rw [eva]; simp)
            go_wp2_with fail
            go_ret
            exact ⟨by rw [HR.out] <;> rfl, hb0⟩
        · have eoa : (oa == ob) = false := by rw [beq_eq_false_iff_ne]; exact hoa
          have HR := Lib.hid (show RR = false by rw [← HRR.out]; rw [eoa]; simp)
          go_wp2_with fail
          go_ret
          exact ⟨by rw [HR.out] <;> rfl, hb0⟩
      · have eta : (ta == tb) = false := by rw [beq_eq_false_iff_ne]; exact hta
        have HR := Lib.hid (show RR = false by rw [← HRR.out]; rw [decide_eq_false hta]; simp)
        go_wp2_with fail
        go_ret
        exact ⟨by rw [HR.out] <;> rfl, hb0⟩
    · have eda : (da == db) = false := by rw [beq_eq_false_iff_ne]; exact hda
      have HR := Lib.hid (show RR = false by rw [← HRR.out]; rw [decide_eq_false hda]; simp)
      go_wp2_with fail
      go_ret
      exact ⟨by rw [HR.out] <;> rfl, hb0⟩
  · have ema : (ma == mb) = false := by rw [beq_eq_false_iff_ne]; exact hma
    have HR := Lib.hid (show RR = false by rw [← HRR.out]; rw [decide_eq_false hma]; simp)
    go_wp2_with fail
    go_ret
    exact ⟨by rw [HR.out] <;> rfl, hb0⟩
end Go.Proofs.Ytahboomghjdjhaa
