/-
  Walks: bytes.Equal, swell.Same.
-/
import Derived.Deep.AppendLies
import Derived.Test.YtahboomghjdjhaaGreatG36
import Derived.Test.YtahboomghjdjhaaGreatG37
import Derived.Test.YtahboomghjdjhaaGreatG39
import Derived.Test.YtahboomghjdjhaaGreatG41
import Derived.Test.YtahboomghjdjhaaGreatGSlideLaws
import Derived.Test.YtahboomghjdjhaaGreatGSwW
namespace Go.Proofs.YtahboomghjdjhaaGreat
open Go.RowKit

theorem toList_loop (bs : ByteArray) : ∀ n i r, bs.size - i = n → ByteArray.toList.loop bs i r = r.reverse ++ bs.data.toList.drop i := by
  intro n
  induction n with
  | zero =>
    intro i r h
    rw [ByteArray.toList.loop.eq_def, if_neg (by omega), List.drop_eq_nil_of_le (show bs.data.size ≤ i from Nat.le_of_sub_eq_zero h), List.append_nil]
  | succ n ih =>
    intro i r h
    have hi : i < bs.size := by omega
    rw [ByteArray.toList.loop.eq_def, if_pos hi, ih (i + 1) _ (by omega), List.reverse_cons, List.append_assoc]
    have hi' : i < bs.data.toList.length := hi
    rw [List.drop_eq_getElem_cons hi', List.singleton_append]
    congr 2
    have : i < bs.data.size := hi
    show bs.data[i]! = _
    exact getElem!_pos bs.data i this
theorem toList_is (bs : ByteArray) : bs.toList = bs.data.toList := by
  unfold ByteArray.toList
  rw [toList_loop bs _ 0 [] rfl]
  simp
theorem str_toList {l m : List Nat} (hl : ∀ x ∈ l, x < 256) (hm : ∀ x ∈ m, x < 256) : ((str l).toList == (str m).toList) = decide (l = m) := by
  by_cases h : l = m
  · subst h; simp
  · rw [decide_eq_false h, beq_eq_false_iff_ne]
    intro e
    rw [toList_is, toList_is] at e
    exact h (str_inj hl hm (congrArg ByteArray.mk (Array.toList_inj.1 e)))
set_option maxRecDepth 100000 in
set_option maxHeartbeats 1000000 in
theorem bequal_any (A B : Option Addr) (n1 c1 n2 c2 : Nat) (l1 l2 : List Nat) (w : World) (hA : Rd w A (u8s l1)) (hB : Rd w B (u8s l2)) (b1 : ∀ x ∈ l1, x < 256) (b2 : ∀ x ∈ l2, x < 256) (e1 : n1 = l1.length) (e2 : n2 = l2.length) :
    Calls Tryz.prog 26 #[.slice A n1 c1, .slice B n2 c2] w fun r w' => r = .returned (.bool (decide (l1 = l2))) ∧ w' = w := by
  have hv1 := conv_bytes (P := Tryz.prog) w 22 5 Tryz.underlying22 Tryz.underlying5 9 Tryz.underlying9 A l1 c1 (rd_u8 hA b1) (fun h => by have := hA.2 h; simpa [u8s] using this)
  have hv2 := conv_bytes (P := Tryz.prog) w 22 5 Tryz.underlying22 Tryz.underlying5 9 Tryz.underlying9 B l2 c2 (rd_u8 hB b2) (fun h => by have := hB.2 h; simpa [u8s] using this)
  rw [← e1] at hv1
  rw [← e2] at hv2
  have HQ := Lib.hid (str_toList b1 b2)
  clear e1 e2
  go_enter Tryz.func26, Tryz.ntmps26
  go_wp2_with fail
  go_ret
  exact ⟨by rw [← HQ.out]; rfl, rfl⟩

/-- Are two streams the same? -/
def sameW (a b : Wv) : Bool := decide (a.most = b.most) && (decide (a.made = b.made) && (decide (a.at0 = b.at0) && ((a.op == b.op) && ((a.over == b.over) && (decide (a.lA = b.lA) && (sameV a.bk b.bk && (decide (a.size = b.size) && decide (a.lw = b.lw))))))))
set_option maxRecDepth 100000 in
set_option maxHeartbeats 8000000 in
theorem sw_same (a b : Wv) (w : World) (ha : a.ok w) (hb : b.ok w) :
    Calls Tryz.prog 13 #[.agg (cellsOf 45 a.F), .agg (cellsOf 45 b.F)] w fun r w' => r = .returned (.bool (sameW a b)) ∧ Below w.heap.size w w' := by
  have HI := Lib.hid fun wx (h : Below w.heap.size w wx) => bequal_any a.A b.A a.nA a.cA b.nA b.cA a.lA b.lA wx (ha.rA.below h) (hb.rA.below h) ha.bA hb.bA ha.lenA hb.lenA
  have HW := Lib.hid fun wx (h : Below w.heap.size w wx) => bequal_any a.Bw b.Bw a.nw a.cw b.nw b.cw a.lw b.lw wx (ha.rw_.below h) (hb.rw_.below h) ha.bw hb.bw ha.lenw hb.lenw
  have HB := Lib.hid fun wx (h : Below w.heap.size w wx) => ssame_any a.bk b.bk wx (ha.bk.below h) (hb.bk.below h)
  clear ha hb
  obtain ⟨ma, da, A, nA, cA, lA, ta, ka, oa, za, Aw, nw, cw, lw, va⟩ := a
  obtain ⟨mb, db, B, nB, cB, lB, tb, kb, ob, zb, Bw, mw, dw, kw, vb⟩ := b
  dsimp only at HI HW HB
  obtain ⟨RR, hRR⟩ : ∃ R, sameW ⟨ma, da, A, nA, cA, lA, ta, ka, oa, za, Aw, nw, cw, lw, va⟩ ⟨mb, db, B, nB, cB, lB, tb, kb, ob, zb, Bw, mw, dw, kw, vb⟩ = R := ⟨_, rfl⟩
  rw [hRR]
  unfold sameW at hRR
  dsimp only at hRR
  obtain ⟨qI, hqI⟩ : ∃ q, decide (lA = lB) = q := ⟨_, rfl⟩
  obtain ⟨qW, hqW⟩ : ∃ q, decide (lw = kw) = q := ⟨_, rfl⟩
  obtain ⟨qB, hqB⟩ : ∃ q, sameV ka kb = q := ⟨_, rfl⟩
  rw [hqI] at HI hRR
  rw [hqW] at HW hRR
  rw [hqB] at HB hRR
  clear hqI hqW hqB
  have HRR := Lib.hid hRR
  clear hRR
  unfold Wv.F
  dsimp only
  have hb0 : Below w.heap.size w ((w.alloc (.cells (cellsOf 45 (swH ma da (.slice A nA cA) ta ka.F oa za (.slice Aw nw cw) va)) 32)).alloc (.cells (cellsOf 45 (swH mb db (.slice B nB cB) tb kb.F ob zb (.slice Bw mw dw) vb)) 32)) := ((Below.refl _ _).alloc (Nat.le_refl _) _).alloc (by simp) _
  have k0 : Arr ((w.alloc (.cells (cellsOf 45 (swH ma da (.slice A nA cA) ta ka.F oa za (.slice Aw nw cw) va)) 32)).alloc (.cells (cellsOf 45 (swH mb db (.slice B nB cB) tb kb.F ob zb (.slice Bw mw dw) vb)) 32)) w.heap.size 32 45 (swH ma da (.slice A nA cA) ta ka.F oa za (.slice Aw nw cw) va) := Arr.alloc (Blk.new _ _ _) _
  have k1 : Arr ((w.alloc (.cells (cellsOf 45 (swH ma da (.slice A nA cA) ta ka.F oa za (.slice Aw nw cw) va)) 32)).alloc (.cells (cellsOf 45 (swH mb db (.slice B nB cB) tb kb.F ob zb (.slice Bw mw dw) vb)) 32)) (w.heap.size + 1) 32 45 (swH mb db (.slice B nB cB) tb kb.F ob zb (.slice Bw mw dw) vb) := Blk.new' _ _ _ _ (by simp)
  go_enter Tryz.func13, Tryz.ntmps13
  go_upto_region 1 with (fail)
  change Code.wp _ _ _ _ ((w.alloc (.cells (cellsOf 45 (swH ma da (.slice A nA cA) ta ka.F oa za (.slice Aw nw cw) va)) 32)).alloc (.cells (cellsOf 45 (swH mb db (.slice B nB cB) tb kb.F ob zb (.slice Bw mw dw) vb)) 32))
  generalize (w.alloc (.cells (cellsOf 45 (swH ma da (.slice A nA cA) ta ka.F oa za (.slice Aw nw cw) va)) 32)).alloc (.cells (cellsOf 45 (swH mb db (.slice B nB cB) tb kb.F ob zb (.slice Bw mw dw) vb)) 32) = w0 at *
  obtain ⟨ga, hga⟩ : ∃ g, w.heap.size = g := ⟨_, rfl⟩
  obtain ⟨gb, hgb⟩ : ∃ g, w.heap.size + 1 = g := ⟨_, rfl⟩
  rw [hgb] at k1
  rw [hgb]
  clear hga hgb
  have w0a0 : w0.cell? ⟨w.heap.size, 0, none⟩ = some (.int .i64 ma) := Arr.cell k0 0 (by omega)
  have w0b0 : w0.cell? ⟨gb, 0, none⟩ = some (.int .i64 mb) := Arr.cell k1 0 (by omega)
  have w0a1 : w0.cell? ⟨w.heap.size, 1, none⟩ = some (.int .i64 da) := Arr.cell k0 1 (by omega)
  have w0b1 : w0.cell? ⟨gb, 1, none⟩ = some (.int .i64 db) := Arr.cell k1 1 (by omega)
  have w0a3 : w0.cell? ⟨w.heap.size, 3, none⟩ = some (.int .i64 ta) := Arr.cell k0 3 (by omega)
  have w0b3 : w0.cell? ⟨gb, 3, none⟩ = some (.int .i64 tb) := Arr.cell k1 3 (by omega)
  have w0a41 : w0.cell? ⟨w.heap.size, 41, none⟩ = some (.bool oa) := Arr.cell k0 41 (by omega)
  have w0b41 : w0.cell? ⟨gb, 41, none⟩ = some (.bool ob) := Arr.cell k1 41 (by omega)
  have w0a44 : w0.cell? ⟨w.heap.size, 44, none⟩ = some (.bool va) := Arr.cell k0 44 (by omega)
  have w0b44 : w0.cell? ⟨gb, 44, none⟩ = some (.bool vb) := Arr.cell k1 44 (by omega)
  have w0a2 : w0.cell? ⟨w.heap.size, 2, none⟩ = some (.slice A nA cA) := Arr.cell k0 2 (by omega)
  have w0b2 : w0.cell? ⟨gb, 2, none⟩ = some (.slice B nB cB) := Arr.cell k1 2 (by omega)
  have w0a42 : w0.cell? ⟨w.heap.size, 42, none⟩ = some (.int .i64 za) := Arr.cell k0 42 (by omega)
  have w0b42 : w0.cell? ⟨gb, 42, none⟩ = some (.int .i64 zb) := Arr.cell k1 42 (by omega)
  have w0a43 : w0.cell? ⟨w.heap.size, 43, none⟩ = some (.slice Aw nw cw) := Arr.cell k0 43 (by omega)
  have w0b43 : w0.cell? ⟨gb, 43, none⟩ = some (.slice Bw mw dw) := Arr.cell k1 43 (by omega)
  by_cases hma : ma = mb
  · subst hma
    by_cases hda : da = db
    · subst hda
      by_cases hta : ta = tb
      · subst hta
        by_cases hoa : oa = ob
        · subst hoa
          have eoa : (oa == oa) = true := by simp
          by_cases hva : va = vb
          · subst hva
            have eva : (va == va) = true := by simp
            have HR1 := Lib.hid (show RR = (qI && (qB && (decide (za = zb) && qW))) by rw [← HRR.out]; simp)
            clear HRR
            cases qI with
            | false =>
              have HR := Lib.hid (show RR = false by rw [HR1.out]; rfl)
              go_wp2_with (first
                | (go_at_call 26; refine (HI.out _ hb0).mono ?_; rintro e wI ⟨rfl, hwI⟩; subst hwI))
              go_ret
              exact ⟨by rw [HR.out] <;> rfl, hb0⟩
            | true =>
              cases qB with
              | false =>
                have HR := Lib.hid (show RR = false by rw [HR1.out]; rfl)
                go_wp2_with (first
                  | (go_at_call 27; refine (HB.out _ hb0).mono ?_; rintro e w2 ⟨rfl, h2⟩; have hh2 := hb0.trans (h2.mono hb0.size); have kk0 := Arr.below k0 h2 (Blk.lt k0); have kk1 := Arr.below k1 h2 (Blk.lt k1); have w2a42 : w2.cell? ⟨w.heap.size, 42, none⟩ = some (.int .i64 za) := Arr.cell kk0 42 (by omega); have w2b42 : w2.cell? ⟨gb, 42, none⟩ = some (.int .i64 zb) := Arr.cell kk1 42 (by omega); have w2a43 : w2.cell? ⟨w.heap.size, 43, none⟩ = some (.slice Aw nw cw) := Arr.cell kk0 43 (by omega); have w2b43 : w2.cell? ⟨gb, 43, none⟩ = some (.slice Bw mw dw) := Arr.cell kk1 43 (by omega))
                  | (refine load_subG (by rfl) 28 (.tmp 50) rfl rfl k1 37 (by omega) Tryz.underlying28 rfl bk_size kb.F (fun i hi => swH_bk _ _ _ _ _ _ _ _ _ i hi) ?_)
                  | (refine load_subG (by rfl) 28 (.tmp 48) rfl rfl k0 37 (by omega) Tryz.underlying28 rfl bk_size ka.F (fun i hi => swH_bk _ _ _ _ _ _ _ _ _ i hi) ?_)
                  | (go_at_call 26; refine (HI.out _ hb0).mono ?_; rintro e wI ⟨rfl, hwI⟩; subst hwI))
                go_ret
                exact ⟨by rw [HR.out] <;> rfl, hh2⟩
              | true =>
                by_cases hz : za = zb
                · subst hz
                  have HR := Lib.hid (show RR = qW by rw [HR1.out]; simp)
                  go_wp2_with (first
                    | (go_at_call 26; refine (HW.out _ hh2).mono ?_; rintro e wW ⟨rfl, hwW⟩; subst hwW)
                    | (go_at_call 27; refine (HB.out _ hb0).mono ?_; rintro e w2 ⟨rfl, h2⟩; have hh2 := hb0.trans (h2.mono hb0.size); have kk0 := Arr.below k0 h2 (Blk.lt k0); have kk1 := Arr.below k1 h2 (Blk.lt k1); have w2a42 : w2.cell? ⟨w.heap.size, 42, none⟩ = some (.int .i64 za) := Arr.cell kk0 42 (by omega); have w2b42 : w2.cell? ⟨gb, 42, none⟩ = some (.int .i64 za) := Arr.cell kk1 42 (by omega); have w2a43 : w2.cell? ⟨w.heap.size, 43, none⟩ = some (.slice Aw nw cw) := Arr.cell kk0 43 (by omega); have w2b43 : w2.cell? ⟨gb, 43, none⟩ = some (.slice Bw mw dw) := Arr.cell kk1 43 (by omega))
                    | (refine load_subG (by rfl) 28 (.tmp 50) rfl rfl k1 37 (by omega) Tryz.underlying28 rfl bk_size kb.F (fun i hi => swH_bk _ _ _ _ _ _ _ _ _ i hi) ?_)
                    | (refine load_subG (by rfl) 28 (.tmp 48) rfl rfl k0 37 (by omega) Tryz.underlying28 rfl bk_size ka.F (fun i hi => swH_bk _ _ _ _ _ _ _ _ _ i hi) ?_)
                    | (go_at_call 26; refine (HI.out _ hb0).mono ?_; rintro e wI ⟨rfl, hwI⟩; subst hwI))
                  go_ret
                  exact ⟨by rw [HR.out] <;> rfl, hh2⟩
                · have ez : (za == zb) = false := by rw [beq_eq_false_iff_ne]; exact hz
                  have HR := Lib.hid (show RR = false by rw [HR1.out, decide_eq_false hz]; rfl)
                  go_wp2_with (first
                    | (go_at_call 27; refine (HB.out _ hb0).mono ?_; rintro e w2 ⟨rfl, h2⟩; have hh2 := hb0.trans (h2.mono hb0.size); have kk0 := Arr.below k0 h2 (Blk.lt k0); have kk1 := Arr.below k1 h2 (Blk.lt k1); have w2a42 : w2.cell? ⟨w.heap.size, 42, none⟩ = some (.int .i64 za) := Arr.cell kk0 42 (by omega); have w2b42 : w2.cell? ⟨gb, 42, none⟩ = some (.int .i64 zb) := Arr.cell kk1 42 (by omega); have w2a43 : w2.cell? ⟨w.heap.size, 43, none⟩ = some (.slice Aw nw cw) := Arr.cell kk0 43 (by omega); have w2b43 : w2.cell? ⟨gb, 43, none⟩ = some (.slice Bw mw dw) := Arr.cell kk1 43 (by omega))
                    | (refine load_subG (by rfl) 28 (.tmp 50) rfl rfl k1 37 (by omega) Tryz.underlying28 rfl bk_size kb.F (fun i hi => swH_bk _ _ _ _ _ _ _ _ _ i hi) ?_)
                    | (refine load_subG (by rfl) 28 (.tmp 48) rfl rfl k0 37 (by omega) Tryz.underlying28 rfl bk_size ka.F (fun i hi => swH_bk _ _ _ _ _ _ _ _ _ i hi) ?_)
                    | (go_at_call 26; refine (HI.out _ hb0).mono ?_; rintro e wI ⟨rfl, hwI⟩; subst hwI))
                  go_ret
                  exact ⟨by rw [HR.out] <;> rfl, hh2⟩
          · have eva : (va == vb) = false := by rw [beq_eq_false_iff_ne]; exact hva
            have HR := Lib.hid (show RR = false by rw [← HRR.out]; rw [eva]; simp)
            go_wp2_with fail
            go_ret
            exact ⟨by rw [HR.out] <;> rfl, hb0⟩
        · have eoa : (oa == ob) = false := by rw [beq_eq_false_iff_ne]; exact hoa
          have HR := Lib.hid (show RR = false by rw [← HRR.out]; rw [eoa]; simp)
          go_wp2_with fail
          go_ret
          exact ⟨by rw [HR.out] <;> rfl, hb0⟩
      · have eta : (ta == tb) = false := by rw [beq_eq_false_iff_ne]; exact hta
        have HR := Lib.hid (show RR = false by rw [← HRR.out]; rw [decide_eq_false hta]; simp)
        go_wp2_with fail
        go_ret
        exact ⟨by rw [HR.out] <;> rfl, hb0⟩
    · have eda : (da == db) = false := by rw [beq_eq_false_iff_ne]; exact hda
      have HR := Lib.hid (show RR = false by rw [← HRR.out]; rw [decide_eq_false hda]; simp)
      go_wp2_with fail
      go_ret
      exact ⟨by rw [HR.out] <;> rfl, hb0⟩
  · have ema : (ma == mb) = false := by rw [beq_eq_false_iff_ne]; exact hma
    have HR := Lib.hid (show RR = false by rw [← HRR.out]; rw [decide_eq_false hma]; simp)
    go_wp2_with fail
    go_ret
    exact ⟨by rw [HR.out] <;> rfl, hb0⟩
end Go.Proofs.YtahboomghjdjhaaGreat

/-
  Walks: a stream tells a token.
-/
namespace Go.Proofs.YtahboomghjdjhaaGreat
open Go.RowKit

/-- What a token does. -/
def tellS (room : Nat) (s : Ss) (t : St) : Except Nat Ss :=
  if s.win.length < t.dist then .error 60 else if room < s.told.length + (moreT s.win t).length then .error 140
  else .ok ⟨s.a, s.k, s.over, lastL 32768 (s.win ++ moreT s.win t), s.told ++ moreT s.win t⟩

theorem rd_blk {w : World} {g : Nat} {t : TypeId} {cs : Array Value} {xs : List Value} (k : Blk w g t cs) (h : cs.toList = xs) : Rd w (some ⟨g, 0, none⟩) xs :=
  ⟨fun _ => ⟨g, 0, rfl, fun i u hu => by rw [Nat.zero_add, Blk.cell k i, ← hu, ← h]; simp⟩, fun e => by cases e⟩
section
variable {P : Program} {w : World}
/-- append, as a step of a region that draws its order; where the new row lies. -/
theorem step_grow_at {ops : Array Oper} {o : Oper} {a : Act} {K : Act → World → Prop} {Q : Exit → Act → World → Prop} {D : Prop} {t e : TypeId} {bytes : Nat} (E : Elem P t e 1 bytes) (hgd : o.guard = none) (s x : Operand)
    (ho : o.op = .call { callee := .builtin .append, args := #[s, x], argTypes := #[t, t] })
    {base : Nat} {A : Option Addr} {n c : Nat} {xs : List Value} (hs : a.eval s = .slice A n c) (hown : w.ownsRow base e 1 (.slice A n c) n xs) (hbase : base ≤ w.heap.size)
    {T : Addr} {m d : Nat} {news : List Value} (hx : a.eval x = .slice (some T) m d) (hr : Rd w (some T) news) (hlen : news.length = m) (h1 : ∀ u ∈ news, u.oneCell' = true) (hm : 0 < m)
    (k : Nat) (hk : n + m = k) (ys : List Value) (hys : xs ++ news = ys) (h63 : k ≤ 1000000000) (hby : bytes ≤ 1000)
    (h : ∀ g cap w', w'.ownsRow base e 1 (.slice (some ⟨g, 0, none⟩) k cap) k ys → w.grownBy w' (Value.slice A n c).ownBlock → ((Value.slice A n c).ownBlock = some g ∨ g = w.heap.size) → g < w'.heap.size → K (a.put o.dst (.slice (some ⟨g, 0, none⟩) k cap)) w') :
    if Region.wanted o (yielded ops a.tmps) = true then Oper.wp P o a w K Q else D := by
  obtain ⟨i, z, hi, hz, hsize, hbytes, hzs⟩ := E.inf
  subst hk hys
  obtain ⟨b, off, hT, hc⟩ := hr.1 (by omega)
  injection hT with hT
  subst hT
  exact step_append_lies w hgd s x t ho base e i z 1 bytes E.und hi hz hsize hbytes hzs (by omega) _ n xs hs hown _ m d news hx (by omega) (fun j u hu => by rw [add_plain]; exact hc j u hu) h1 hm (by unfold maxLen; omega) (by
    have : (n + m) * bytes ≤ 1000000000 * 1000 := Nat.mul_le_mul h63 hby
    omega) hbase _ rfl h
end
theorem own_some {w : World} {base e n c : Nat} {A : Option Addr} {l : List Nat} (h : w.ownsRow base e 1 (.slice A n c) n (u8s l)) (hl : 1 ≤ l.length) : ∃ g, A = some ⟨g, 0, none⟩ := by
  cases A with
  | none => rw [own_nil h rfl] at hl; simp at hl
  | some a =>
    have hn : 0 < n := by
      rcases Nat.eq_zero_or_pos n with h0 | h0
      · exfalso
        have := h.1
        rw [h0] at this
        simp [u8s] at this
        subst this
        simp at hl
      · exact h0
    obtain ⟨g, hg, _⟩ := own_at h hn
    exact ⟨g, hg⟩

set_option maxRecDepth 100000 in
set_option maxHeartbeats 4000000 in
theorem stell_any (W w : World) (sb room : Nat) (b w0 : List Nat) (q : Sc) (s : Ss) (v : Sv) (t : St) (ht : StOk t) (hB : StrB W w sb q s v) (hP : StrP W sb q room b w0 s) :
    Calls Tryz.prog 45 #[.pointer (some ⟨sb, 0, none⟩), .agg #[.int .u8 (t.lit : Int), .int .i64 (t.dist : Int), .int .i64 (t.long : Int)]] w fun r w' => SOne W w' sb q s (tellS room s t) r := by
  have hwl : s.win.length ≤ 32768 := by rw [hP.inv.win, lastL_length]; omega
  have hwb : ∀ x ∈ s.win, x < 256 := by
    rw [hP.inv.win]
    intro x hx
    rcases List.mem_append.1 (mem_lastL hx) with hx | hx
    · exact hP.wb x hx
    · exact hP.inv.byte x hx
  have hmay : MayW (32768 : Nat) s.win := ⟨by omega, by omega, by omega⟩
  have HP := Lib.hid hP
  have HB := Lib.hid hB
  have HT := Lib.hid ht
  clear hP hB ht
  go_enter Tryz.func45, Tryz.ntmps45
  go_upto_region 2 with (fail)
  have hb2 : Below w.heap.size w ((w.alloc (.cells #[.int .u8 (t.lit : Int), .int .i64 (t.dist : Int), .int .i64 (t.long : Int)] 72)).alloc (.cells #[.int .u8 (t.lit : Int)] 5)) := ((Below.refl _ _).alloc (Nat.le_refl _) _).alloc (by simp) _
  have kt : Blk ((w.alloc (.cells #[.int .u8 (t.lit : Int), .int .i64 (t.dist : Int), .int .i64 (t.long : Int)] 72)).alloc (.cells #[.int .u8 (t.lit : Int)] 5)) w.heap.size 72 #[.int .u8 (t.lit : Int), .int .i64 (t.dist : Int), .int .i64 (t.long : Int)] := Blk.alloc (Blk.new _ _ _) _
  have kl : Blk ((w.alloc (.cells #[.int .u8 (t.lit : Int), .int .i64 (t.dist : Int), .int .i64 (t.long : Int)] 72)).alloc (.cells #[.int .u8 (t.lit : Int)] 5)) (w.heap.size + 1) 5 #[.int .u8 (t.lit : Int)] := Blk.new' _ _ _ _ (by simp)
  change Code.wp _ _ _ _ ((w.alloc (.cells #[.int .u8 (t.lit : Int), .int .i64 (t.dist : Int), .int .i64 (t.long : Int)] 72)).alloc (.cells #[.int .u8 (t.lit : Int)] 5))
  generalize (w.alloc (.cells #[.int .u8 (t.lit : Int), .int .i64 (t.dist : Int), .int .i64 (t.long : Int)] 72)).alloc (.cells #[.int .u8 (t.lit : Int)] 5) = w2 at *
  have h2 := HB.out.below HP.out.ge hb2
  have ks := h2.arr
  obtain ⟨tk, htk⟩ : ∃ tk, w.heap.size = tk := ⟨_, rfl⟩
  rw [htk] at kt kl
  rw [htk]
  have c42 : w2.cell? ⟨sb, 42, none⟩ = some (.int .i64 32768) := Arr.cell ks 42 (by omega)
  have c43 : w2.cell? ⟨sb, 43, none⟩ = some (.slice v.A v.nl v.cl) := Arr.cell ks 43 (by omega)
  go_upto_region 3 with (fail)
  have hb3 : Below w.heap.size w (w2.alloc (.cells #[.int .i64 32768, .slice v.A v.nl v.cl] 30)) := hb2.alloc hb2.size _
  have kt3 := Blk.alloc kt (.cells #[.int .i64 32768, .slice v.A v.nl v.cl] 30)
  have kl3 := Blk.alloc kl (.cells #[.int .i64 32768, .slice v.A v.nl v.cl] 30)
  have htw : tk + 1 < w2.heap.size := Blk.lt kl
  have kw3 : Blk (w2.alloc (.cells #[.int .i64 32768, .slice v.A v.nl v.cl] 30)) w2.heap.size 30 #[.int .i64 32768, .slice v.A v.nl v.cl] := Blk.new _ _ _
  have hwk : w.heap.size ≤ w2.heap.size := hb2.size
  obtain ⟨wk, hwk'⟩ : ∃ wk, w2.heap.size = wk := ⟨_, rfl⟩
  rw [hwk'] at kw3 hwk htw
  rw [hwk']
  generalize w2.alloc (.cells #[.int .i64 32768, .slice v.A v.nl v.cl] 30) = w3 at *
  have h3 := HB.out.below HP.out.ge hb3
  have HK := Lib.hid (And.intro htk hwk')
  clear ks kt kl h2 hb2 c42 c43 htk hwk'
  have ct := Blk.cells kt3
  have cw := Blk.cells kw3
  have fw := Blk.frozens kw3
  by_cases hfar : s.win.length < t.dist
  · have hl0 : t.long ≠ 0 := fun h0 => by have := HT.out.none_ h0; omega
    have hE : tellS room s t = .error 60 := by unfold tellS; rw [if_pos hfar]
    have HE := Lib.hid hE
    have hC := copy_far v.A v.cl s.win 32768 (t.dist : Int) (t.long : Int) w3 hmay (by have := HT.out.long; omega) (by omega)
    rw [← h3.nl_] at hC
    have HC := Lib.hid hC
    clear hC
    have hlp : ((0 : Int) < (t.long : Int)) := by omega
    clear hE
    go_wp2_with (first
      | (go_at_call 61; refine HC.out.mono ?_; rintro e w4 ⟨hb4, B4, d4, C4, f4, rfl, _, _⟩; have kw4 := Blk.below kw3 hb4 (Blk.lt kw3); have cw4 := Blk.cells kw4; have fw4 := Blk.frozens kw4))
    go_ret
    have hb5 : Below w.heap.size w w4 := hb3.trans (hb4.mono hb3.size)
    exact SOne.no HE.out rfl (Below.then_only (Below.trans HB.out.only (hb5.mono HB.out.only.size)) (only_set (only_set (only_self _ _) 0 _) 1 _) (Nat.le_trans HB.out.only.size hb5.size) (Nat.le_trans HB.out.only.size hwk)) (by omega)
  · obtain ⟨more, hmore⟩ : ∃ m, moreT s.win t = m := ⟨_, rfl⟩
    obtain ⟨M, hM⟩ : ∃ M, lastL 32768 (s.win ++ moreT s.win t) = M := ⟨_, rfl⟩
    have hml : 1 ≤ more.length ∧ more.length ≤ 258 := by rw [← hmore, moreT_length]; have := HT.out.long; split <;> omega
    have HM := Lib.hid (And.intro hmore hM)
    go_upto_if 17 with (fail)
    go_cut [4, 5] (fun v4 v5 wx => v4 = .int .i64 0 ∧ ∃ T ct B d, v5 = .slice (some T) more.length ct ∧ Rd wx (some T) (u8s more) ∧ wx.ownsRow w3.heap.size 5 1 (.slice B M.length d) M.length (u8s M) ∧ Blk wx wk 30 #[.int .i64 32768, .slice B M.length d] ∧ Below w.heap.size w wx ∧ w3.heap.size ≤ wx.heap.size)
    case first =>
      have hbs : Bs w3 v.A s.win := Bs.of_own h3.win hwb
      have hnil : v.A = none → s.win = [] := own_nil h3.win
      by_cases h0 : t.long = 0
      · have hmr : more = [t.lit] := by rw [← hmore]; unfold moreT; rw [if_pos h0]
        have hM1 : lastL 32768 (s.win ++ [t.lit]) = M := by rw [← hM, hmore, hmr]
        have HPu := Lib.hid (push_is v.A (some ⟨tk + 1, 0, none⟩) v.cl 1 s.win [t.lit] 32768 v.nl 1 w3 M hM1 h3.nl_ rfl hmay (by simp) (by rw [← h3.nl_]; exact h3.cl_) hbs hnil (rd_u8 (rd_blk kl3 rfl) (by intro x hx; rw [List.mem_singleton.1 hx]; exact HT.out.lit)) (fun e => by cases e))
        have hl0 : ¬ (0 < t.long) := by omega
        have HML := Lib.hid hmr
        have kl3' := kl3
        have HN := Lib.hid h0
        clear hM1 hmore hM hmr hbs hnil h0
        go_wp2_with (first
          | (go_at_call 62; refine HPu.out.mono ?_; rintro e w4 ⟨hb4, B4, d4, rfl, o4⟩; have kw4 := Blk.below kw3 hb4 (Blk.lt kw3); have cw4 := Blk.cells kw4; have fw4 := Blk.frozens kw4))
        go_meet
        have g5 : w4.grownBy ((w4.setCell ⟨wk, 0, none⟩ (.int .i64 32768)).setCell ⟨wk, 1, none⟩ (.slice B4 M.length d4)) (some wk) := only_set (only_set (only_self _ _) 0 _) 1 _
        have hb5 : Below w.heap.size w w4 := hb3.trans (hb4.mono hb3.size)
        refine ⟨rfl, ⟨tk + 1, 0, none⟩, 1, B4, d4, by rw [HML.out]; rfl, by rw [HML.out]; exact rd_blk (Blk.grown (Blk.below kl3 hb4 (Blk.lt kl3)) g5 (by intro e; injection e with e; omega)) rfl, own_only o4 kw4 (by decide) g5, (kw4.set_ 0 _).set_ 1 _, Below.then_only hb5 g5 hb5.size hwk, Nat.le_trans hb4.size g5.size⟩
      · have hsp : s.win ++ more = copyL s.win t.dist t.long := by rw [← hmore]; unfold moreT; rw [if_neg h0]; exact copyL_split _ _ _
        have hT : (copyL s.win t.dist t.long).drop s.win.length = more := by rw [← hmore]; unfold moreT; rw [if_neg h0]
        have hM1 : lastL 32768 (copyL s.win t.dist t.long) = M := by rw [← hsp, ← hmore]; exact hM
        have HCo := Lib.hid (copy_is v.A v.cl s.win 32768 v.nl t.dist t.long w3 M more hM1 hT h3.nl_ hmay HT.out.long (HT.out.both h0).2 (by omega) hbs hnil)
        have hl0 : 0 < t.long := by omega
        have HN := Lib.hid h0
        clear hM1 hmore hM hsp hT hbs hnil h0
        go_wp2_with (first
          | (go_at_call 61; refine HCo.out.mono ?_; rintro e w4 ⟨hb4, B4, d4, C4, f4, rfl, o4, p4⟩; have kw4 := Blk.below kw3 hb4 (Blk.lt kw3); have cw4 := Blk.cells kw4; have fw4 := Blk.frozens kw4))
        go_meet
        have g5 : w4.grownBy ((w4.setCell ⟨wk, 0, none⟩ (.int .i64 32768)).setCell ⟨wk, 1, none⟩ (.slice B4 M.length d4)) (some wk) := only_set (only_set (only_self _ _) 0 _) 1 _
        have hb5 : Below w.heap.size w w4 := hb3.trans (hb4.mono hb3.size)
        obtain ⟨gT, hgT⟩ := own_some p4 hml.1
        subst hgT
        have p5 := own_only p4 kw4 (by decide) g5
        refine ⟨rfl, ⟨gT, 0, none⟩, f4, B4, d4, rfl, own_rd p5, own_only o4 kw4 (by decide) g5, (kw4.set_ 0 _).set_ 1 _, Below.then_only hb5 g5 hb5.size hwk, Nat.le_trans hb4.size g5.size⟩
    case rest =>
      obtain ⟨rfl, T, ct', B5, d5, rfl, hrT, o5, kw5, hb5, hsz⟩ := hcut
      have h5 := HB.out.below HP.out.ge hb5
      have c0 : wc.cell? ⟨sb, 0, none⟩ = some (.int .i64 (q.most : Int)) := Arr.cell h5.arr 0 (by omega)
      have c1 : wc.cell? ⟨sb, 1, none⟩ = some (.int .i64 ((q.m0 + s.told.length : Nat) : Int)) := Arr.cell h5.arr 1 (by omega)
      have hb3' : w.heap.size ≤ w3.heap.size := hb3.size
      clear kt3 kl3 kw3 h3 ct cw fw hb3
      obtain ⟨md, hmd⟩ : ∃ md, q.m0 + s.told.length = md := ⟨_, rfl⟩
      rw [hmd] at c1
      have hmd2 : md ≤ q.most ∧ q.most ≤ 131072 := by have h1 := HP.out.inv.room; have h2 := HP.out.room_; have h3 := HP.out.most_; omega
      have HW := Lib.hid (show IntKind.i64.wrap ((md : Int) + (more.length : Int)) = (md : Int) + (more.length : Int) from IntWalk.i64_in _ (by omega))
      have HMD := Lib.hid hmd
      clear hmd hmore hM
      go_upto_region 8 with (fail)
      go_quiet (fail)
      have h6 := h5.below HP.out.ge (below_drewN' (Below.refl _ _) nq)
      have kw6 := Blk.below kw5 (below_drewN' (Below.refl _ _) nq) (Blk.lt kw5)
      have hrT6 := hrT.drewN nq
      have o6 := own_below o5 (below_drewN' (Below.refl _ _) nq)
      have hb6 : Below w.heap.size w (wc.drewN nq) := below_drewN' hb5 nq
      have hsz6 : w3.heap.size ≤ (wc.drewN nq).heap.size := Nat.le_trans hsz (below_drewN' (Below.refl wc.heap.size wc) nq).size
      clear h5 kw5 hrT o5 hb5 hsz c0 c1
      generalize wc.drewN nq = w6 at *
      by_cases hfull : q.most < md + more.length
      · have hE : tellS room s t = .error 140 := by
          unfold tellS
          rw [if_neg hfar, if_pos (by have := HMD.out; have := HP.out.room_; rw [HM.out.1]; omega)]
        have HE := Lib.hid hE
        have hd : (q.most : Int) < (md : Int) + (more.length : Int) := by omega
        clear hE
        go_wp2_with fail
        go_ret
        exact SOne.no HE.out rfl (Below.trans HB.out.only (hb6.mono HB.out.only.size)) (by omega)
      · have hE : tellS room s t = .ok ⟨s.a, s.k, s.over, M, s.told ++ more⟩ := by
          unfold tellS
          rw [if_neg hfar, if_neg (by have := HMD.out; have := HP.out.room_; rw [HM.out.1]; omega), HM.out.2, HM.out.1]
        have HE := Lib.hid hE
        have hd : ¬ ((q.most : Int) < (md : Int) + (more.length : Int)) := by omega
        clear hE
        go_upto_region 10 with (fail)
        have hn7 : v.nt + more.length = (s.told ++ more).length := by rw [h6.nt_, List.length_append]
        have hn8 : (s.told ++ more).length ≤ 1000000000 := by rw [← hn7, h6.nt_]; have := HP.out.inv.room; have := HP.out.room_; have := HP.out.most_; omega
        have HN := Lib.hid hn7
        have HN8 := Lib.hid hn8
        have hbW : W.heap.size ≤ w6.heap.size := Nat.le_trans HB.out.only.size hb6.size
        have hts : (Value.slice v.D v.nt v.ct).ownBlock ≠ some sb := own_blk_ne h6.told h6.arr (by decide)
        have htw2 : (Value.slice v.D v.nt v.ct).ownBlock ≠ some wk := own_blk_ne h6.told kw6 (by decide)
        have HTs := Lib.hid (And.intro hts htw2)
        have c0 : w6.cell? ⟨sb, 0, none⟩ = some (.int .i64 (q.most : Int)) := Arr.cell h6.arr 0 (by omega)
        have c1 : w6.cell? ⟨sb, 1, none⟩ = some (.int .i64 (md : Int)) := (Arr.cell h6.arr 1 (by omega)).trans (by rw [← HMD.out]; rfl)
        have c42 : w6.cell? ⟨sb, 42, none⟩ = some (.int .i64 32768) := Arr.cell h6.arr 42 (by omega)
        have c43 : w6.cell? ⟨sb, 43, none⟩ = some (.slice v.A v.nl v.cl) := Arr.cell h6.arr 43 (by omega)
        have c47 : w6.cell? ⟨sb, 47, none⟩ = some (.slice v.D v.nt v.ct) := Arr.cell h6.arr 47 (by omega)
        have fs := fun i => Arr.free h6.arr i
        have cw6 := Blk.cells kw6
        have fw6 := Blk.frozens kw6
        clear hts htw2 hn7 hn8 hd
        go_cut [] (fun wx => ∃ v', StrB W wx sb q ⟨s.a, s.k, s.over, M, s.told ++ more⟩ v')
        case first =>
          go_region_law (
            refine step_grow_at selem_u8 rfl (.tmp 66) (.tmp 67) rfl rfl (own_drew h6.told) hbW rfl (hrT6.drew) (u8s_length _) (u8s_one _) hml.1 _ HN.out (u8s (s.told ++ more)) (u8s_append _ _).symm HN8.out (by omega) ?_; intro g7 ce7 w7 o7 hg7 hat7 hlt7
            have k7 : Arr w7 sb 53 48 (svF q s v) := Blk.grown (Arr.drew h6.arr) hg7 HTs.out.1.symm
            have kw7 : Blk w7 wk 30 #[.int .i64 32768, .slice B5 M.length d5] := Blk.grown (Arr.drew (f := fun i => if i = 0 then Value.int .i64 32768 else .slice B5 M.length d5) (n := 2) kw6) hg7 HTs.out.2.symm
            have d1 : w7.cell? ⟨sb, 1, none⟩ = some (.int .i64 (md : Int)) := (Arr.cell k7 1 (by omega)).trans (by rw [← HMD.out]; rfl)
            have d42 : w7.cell? ⟨sb, 42, none⟩ = some (.int .i64 32768) := Arr.cell k7 42 (by omega)
            have d43 : w7.cell? ⟨sb, 43, none⟩ = some (.slice v.A v.nl v.cl) := Arr.cell k7 43 (by omega)
            have d47 : w7.cell? ⟨sb, 47, none⟩ = some (.slice v.D v.nt v.ct) := Arr.cell k7 47 (by omega)
            have ds := fun i => Arr.free k7 i
            have dw := Blk.cells kw7)
          all_goals
            go_wp2_with fail
            go_meet
            exact tell_end HB.out HP.out h6 (Nat.le_trans hb3' (Nat.le_refl _)) o6 (by rw [List.length_append]) (by first | exact o7 | (rw [← List.length_append]; exact o7)) hg7 hat7 (by have h1 := HMD.out; have h2 := HW.out; rw [List.length_append]; first | (rw [h2]; omega) | omega)
        case rest =>
          obtain ⟨v', hv'⟩ := hcut
          go_wp2_with fail
          go_ret
          exact SOne.yes HE.out rfl ⟨v', hv'⟩
end Go.Proofs.YtahboomghjdjhaaGreat

/-
  Walks: a stream's step.
-/
namespace Go.Proofs.YtahboomghjdjhaaGreat
open Go.RowKit

section
variable {most made : Int} {inV : Value} {at0 : Int} {op : Bool} {winV : Value} {over : Bool} {bV : Value} {at_ : Int} {toldV : Value}
theorem stH_left (kind : Int) (last : Bool) (left : Int) (f1 : Nat → Int) (v1 : Value) (f2 : Nat → Int) (v2 : Value) (x : Int) (i : Nat) : (if i = 6 then Value.int .i64 x else stH most made inV at0 (bkH kind last left f1 v1 f2 v2) op winV over bV at_ toldV i) = stH most made inV at0 (bkH kind last x f1 v1 f2 v2) op winV over bV at_ toldV i := by
  by_cases h : i = 6
  · subst h; rfl
  · rw [if_neg h]; unfold stH
    by_cases h4 : i < 4
    · rw [if_pos h4, if_pos h4]
    · rw [if_neg h4, if_neg h4]
      by_cases h41 : i < 41
      · rw [if_pos h41, if_pos h41]
        unfold bkH
        by_cases h3 : i - 4 < 3
        · rw [if_pos h3, if_pos h3]
          by_cases h0 : i - 4 = 0
          · rw [if_pos h0, if_pos h0]
          · rw [if_neg h0, if_neg h0, if_pos (by omega), if_pos (by omega)]
        · rw [if_neg h3, if_neg h3]
      · rw [if_neg h41, if_neg h41]
end
theorem bk_left {k : Bk} (h : BkOk k) : k.left ≤ 65535 := by
  by_cases h0 : k.kind = 0
  · exact (h.zero h0).1
  · have := (h.code h0).1; omega
theorem max_dec {n : Nat} (h : n ≤ 65535) : (if 0 < wrap64 ((n : Int) - 1) then wrap64 ((n : Int) - 1) else 0) = ((n - 1 : Nat) : Int) := by
  rw [IntWalk.wrap64_in _ (by omega)]
  split <;> omega
theorem SOne.out {W w' : World} {sb : Nat} {q : Sc} {s : Ss} {o : Except Nat Ss} {r : Ending} (h : SOne W w' sb q s o r) : ∃ e : Int, r = .returned (.int .i64 e) ∧ SOne W w' sb q s o (.returned (.int .i64 e)) := by
  cases o with
  | error e => exact ⟨_, h.1, rfl, h.2⟩
  | ok s' => exact ⟨_, h.1, rfl, h.2⟩
theorem SOne.turn {W w' : World} {sb : Nat} {q : Sc} {s s1 : Ss} {o : Except Nat Ss} {r : Ending} (h : SOne W w' sb q s1 o r) (hne : o ≠ .error 10) : SOne W w' sb q s o r := by
  cases o with
  | error e => exact ⟨h.1, h.2.1, fun he => absurd (by rw [he]) hne⟩
  | ok s' => exact h
theorem tell_ne (room : Nat) (s : Ss) (t : St) : tellS room s t ≠ .error 10 := by
  unfold tellS
  split
  · intro h; injection h with h; omega
  · split
    · intro h; injection h with h; omega
    · intro h; cases h
/-- A token, told. -/
theorem tok_tell {room : Nat} {s : Ss} {k : Bk} {t : St} {n : Nat} (h : t.fin = false) : tokS room s k t n = tellS room ⟨n, some (bkDec k), s.over, s.win, s.told⟩ t := by
  unfold tokS tellS
  rw [if_neg (by simp [h])]

theorem svF_bk {q : Sc} {s : Ss} {v : Sv} {k : Bk} (hk : s.k = some k) (i : Nat) (hi : i < 37) : svF q s v (4 + i) = bkC k (.slice v.C1 v.m1 v.d1) (.slice v.C2 v.m2 v.d2) i := by
  unfold svF stH
  rw [if_neg (by omega), if_pos (by omega), hk, Nat.add_sub_cancel_left]
  rfl

set_option maxRecDepth 100000 in
set_option maxHeartbeats 4000000 in
theorem sstep_any (W w : World) (sb room : Nat) (b w0 : List Nat) (q : Sc) (s : Ss) (v : Sv) (k : Bk) (hk : s.k = some k) (hB : StrB W w sb q s v) (hP : StrP W sb q room b w0 s) :
    Calls Tryz.prog 30 #[.pointer (some ⟨sb, 0, none⟩)] w fun r w' => SOne W w' sb q s (oneS room b s) r := by
  have HW := Lib.hid (swin_any W w sb room b w0 q s v hB hP)
  obtain ⟨hr1, hr2⟩ := win_room hP.ok.at_
  have hbk := hP.ok.blk k hk
  obtain ⟨ht1, ht2⟩ := hB.tr k hk
  have HH := Lib.hid fun w1 B' c' (hb1 : Below w.heap.size w w1) (hr : Rd w1 B' (u8s (winB b s.a))) => pstep_any B' _ c' (winB b s.a) (s.a % 8) w1 hr (fun x hx => hP.byte x (win_mem hx)) rfl (by omega) hr1 k hbk v.C1 v.m1 v.d1 v.C2 v.m2 v.d2 ((ht1.rd hB.only).below hb1) ht1.1 ht1.2.1 ((ht2.rd hB.only).below hb1) ht2.1 ht2.2.1
  have hpa := pa_win (stP_gd hbk) (by omega) hP.ok.at_
  have HP := Lib.hid hP
  have HB := Lib.hid hB
  have HK := Lib.hid hk
  have ks := hB.arr
  cases hh : stP k (winB b s.a) (s.a % 8) with
  | error e =>
    have he := stP_err k _ _ _ hh
    have h1 : oneS room b s = .error e := one_step_no hk (by rw [hpa, hh]; rfl)
    have hne : ¬ ((e : Int) = 0) := by
      intro h0
      have h0 : e = 0 := by omega
      subst h0
      revert he
      decide
    have HE := Lib.hid h1
    unfold StepRes at HH
    rw [hh] at HH
    clear hpa h1 hh hP hB hk he ht1 ht2
    go_enter Tryz.func30, Tryz.ntmps30
    go_wp2_with (first
      | (go_at_call 44; refine (HH.out _ _ _ hb1 hrd).mono ?_; rintro e2 w2 ⟨hb2, rfl⟩)
      | (go_at_call 41; refine HW.out.mono ?_; rintro e1 w1 ⟨B', c', rfl, hrd, hb1⟩; have ks1 := Arr.below ks hb1 (Blk.lt ks))
      | (refine load_sub rfl 28 (.tmp 18) rfl rfl ks1 37 (by omega) Tryz.underlying28 rfl bk_size (bkC k (.slice v.C1 v.m1 v.d1) (.slice v.C2 v.m2 v.d2)) (fun i hi => svF_bk HK.out i hi) ?_))
    go_ret
    have hb : Below w.heap.size w (w2.alloc (.cells #[.int .u8 0, .int .i64 0, .int .i64 0] 72)) := hb1.trans ((hb2.mono hb1.size).alloc (Nat.le_trans hb1.size hb2.size) _)
    exact SOne.no HE.out rfl (Below.trans HB.out.only (hb.mono HB.out.only.size)) fun _ => ⟨v, HB.out.below HP.out.ge hb⟩
  | ok r =>
    obtain ⟨t, m⟩ := r
    have h1 : oneS room b s = tokS room s k t (m + 8 * (s.a / 8)) := one_step hk (by rw [hpa, hh]; rfl)
    have HE := Lib.hid h1
    have HTO := Lib.hid (stP_ok hh)
    obtain ⟨z1, z2, z3⟩ := (stP_gd hbk).ok _ _ _ _ hh
    have z4 := z3 hr1
    unfold StepRes at HH
    rw [hh] at HH
    have HZ := Lib.hid (show s.a / 8 * 8 + s.a % 8 = s.a ∧ s.a % 8 ≤ m ∧ m ≤ 8 * (winB b s.a).length ∧ (winB b s.a).length ≤ 608 ∧ s.a ≤ 800000 ∧ m + 8 * (s.a / 8) ≤ 8 * b.length from ⟨by omega, by omega, z4, hr2, by have := hP.ok.at_; have := hP.len; have := hP.max; omega, by
      have h5 := hP.ok.at_
      have h6 : (winB b s.a).length ≤ b.length - s.a / 8 := by unfold winB; rw [List.length_take, List.length_drop]; omega
      omega⟩)
    clear hpa h1 hh hP hB hk z1 z2 z3 z4 hr1 hr2 ht1 ht2
    go_enter Tryz.func30, Tryz.ntmps30
    go_upto_region 5 with (first
      | (go_at_call 44; refine (HH.out _ _ _ hb1 hrd).mono ?_; rintro e2 w2 ⟨hb2, rfl⟩)
      | (go_at_call 41; refine HW.out.mono ?_; rintro e1 w1 ⟨B', c', rfl, hrd, hb1⟩; have ks1 := Arr.below ks hb1 (Blk.lt ks))
      | (refine load_sub rfl 28 (.tmp 18) rfl rfl ks1 37 (by omega) Tryz.underlying28 rfl bk_size (bkC k (.slice v.C1 v.m1 v.d1) (.slice v.C2 v.m2 v.d2)) (fun i hi => svF_bk HK.out i hi) ?_))
    have hb : Below w.heap.size w (w2.alloc (.cells #[.int .u8 (t.lit : Int), .int .i64 (t.dist : Int), .int .i64 (t.long : Int)] 72)) := hb1.trans ((hb2.mono hb1.size).alloc (Nat.le_trans hb1.size hb2.size) _)
    have kt : Blk (w2.alloc (.cells #[.int .u8 (t.lit : Int), .int .i64 (t.dist : Int), .int .i64 (t.long : Int)] 72)) w2.heap.size 72 #[.int .u8 (t.lit : Int), .int .i64 (t.dist : Int), .int .i64 (t.long : Int)] := Blk.new _ _ _
    have htk : w.heap.size ≤ w2.heap.size := Nat.le_trans hb1.size hb2.size
    have h3 := HB.out.below HP.out.ge hb
    have k3 : Arr (w2.alloc (.cells #[.int .u8 (t.lit : Int), .int .i64 (t.dist : Int), .int .i64 (t.long : Int)] 72)) sb 53 48 (stH (q.most : Int) ((q.m0 + s.told.length : Nat) : Int) q.inV q.at0 (bkC k (.slice v.C1 v.m1 v.d1) (.slice v.C2 v.m2 v.d2)) true (.slice v.A v.nl v.cl) s.over (.slice q.B q.n q.c) (s.a : Int) (.slice v.D v.nt v.ct)) := by
      have h := h3.arr
      unfold svF at h
      rw [HK.out] at h
      exact h
    obtain ⟨tk, htk'⟩ : ∃ tk, w2.heap.size = tk := ⟨_, rfl⟩
    have hst : sb < w2.heap.size := Nat.lt_of_lt_of_le (Blk.lt ks) htk
    rw [htk'] at kt htk hst
    rw [htk']
    generalize w2.alloc (.cells #[.int .u8 (t.lit : Int), .int .i64 (t.dist : Int), .int .i64 (t.long : Int)] 72) = w3 at *
    have HTK := Lib.hid htk'
    obtain ⟨n', hn'⟩ : ∃ n', m + 8 * (s.a / 8) = n' := ⟨_, rfl⟩
    rw [hn'] at HE
    have HN := Lib.hid hn'
    have HG := Lib.hid (swent_any _ sb s.a (s.a % 8) m n' _ k3 rfl (by have := HZ.out; omega) (by have := HZ.out; omega))
    clear htk' ks1 hn'
    go_upto_region 6 with (go_at_call 43; refine HG.out.mono ?_; rintro e w4 ⟨rfl, rfl⟩)
    have k4 := (Arr.set k3 46 (.int .i64 (n' : Int))).congr fun i _ => stH_at _ i
    have g4 : w3.grownBy (w3.setCell ⟨sb, 46, none⟩ (.int .i64 (n' : Int))) (some sb) := only_set (only_self _ _) 46 _
    have kt4 := Blk.grown kt g4 (by intro e; injection e with e; omega)
    generalize w3.setCell ⟨sb, 46, none⟩ (.int .i64 (n' : Int)) = w4 at *
    have f44 := Arr.free k4 44
    have c44 : w4.cell? ⟨sb, 44, none⟩ = some (.bool s.over) := Arr.cell k4 44 (by omega)
    have c5 : w4.cell? ⟨sb, 5, none⟩ = some (.bool k.last) := Arr.cell k4 5 (by omega)
    have c6 : w4.cell? ⟨sb, 6, none⟩ = some (.int .i64 (k.left : Int)) := Arr.cell k4 6 (by omega)
    have f6 := Arr.free k4 6
    have ct := Blk.cells kt4
    clear kt
    cases hf : t.fin with
    | true =>
      have HE2 := Lib.hid (HE.out.trans (tok_end hf))
      clear HE c6 f6
      go_upto_region 8 with (fail)
      have k5 := (Arr.set k4 44 (.bool k.last)).congr fun i _ => stH_over k.last i
      have g5 : w3.grownBy (w4.setCell ⟨sb, 44, none⟩ (.bool k.last)) (some sb) := only_set g4 44 _
      go_wp2_with (first
        | (refine store_sub rfl 28 (.tmp 50) (.tmp 47) rfl rfl 37 (k := bkH 0 false 0 (fun _ => 0) (.slice none 0 0) (fun _ => 0) (.slice none 0 0)) rfl k5 (by omega) bk_size (fun i _ => bkH_one _ _ _ _ _ _ _ _ _ _ _ i) ?_; intro w6 k6 g6; have f41 := Arr.free k6 41; have c41 : w6.cell? ⟨sb, 41, none⟩ = some (.bool true) := Arr.cell k6 41 (by omega)))
      go_ret
      have k6' := Arr.congr k6 fun i hi => stH_bk _ i
      have k7 := (Arr.set k6' 41 (.bool false)).congr fun i _ => stH_open false i
      have g7 : w3.grownBy (w6.setCell ⟨sb, 41, none⟩ (.bool false)) (some sb) := only_set (only_trans g5 g6) 41 _
      exact SOne.yes HE2.out rfl ⟨⟨none, 0, 0, none, 0, 0, v.A, v.nl, v.cl, v.D, v.nt, v.ct⟩, h3.only' HP.out.ge g7, k7, fun k' hk' => (by cases hk'), fun _ => ⟨TrSt.nil _ _, TrSt.nil _ _⟩, h3.win' g7, h3.nl_, h3.cl_, h3.told' g7, h3.nt_, h3.apart⟩
    | false =>
      have HE2 := Lib.hid (HE.out.trans (tok_tell hf))
      clear HE c5 c44 f44
      go_upto_region 11 with (fail)
      rw [max_dec (bk_left hbk)]
      have k5 := (Arr.set k4 6 (.int .i64 ((k.left - 1 : Nat) : Int))).congr fun i _ => stH_left _ _ _ _ _ _ _ ((k.left - 1 : Nat) : Int) i
      have g5 : w3.grownBy (w4.setCell ⟨sb, 6, none⟩ (.int .i64 ((k.left - 1 : Nat) : Int))) (some sb) := only_set g4 6 _
      have kt5 := Blk.grown kt4 (only_set (only_self w4 sb) 6 (.int .i64 ((k.left - 1 : Nat) : Int))) (by intro e; injection e with e; omega)
      have hB5 : StrB W (w4.setCell ⟨sb, 6, none⟩ (.int .i64 ((k.left - 1 : Nat) : Int))) sb q ⟨n', some (bkDec k), s.over, s.win, s.told⟩ v :=
        ⟨h3.only' HP.out.ge g5, k5, fun k' hk' => (by cases hk'; exact ⟨(h3.tr k HK.out).1.more h3.arr g5, (h3.tr k HK.out).2.more h3.arr g5⟩), fun hk' => (by cases hk'), h3.win' g5, h3.nl_, h3.cl_, h3.told' g5, h3.nt_, h3.apart⟩
      have hP5 : StrP W sb q room b w0 ⟨n', some (bkDec k), s.over, s.win, s.told⟩ :=
        ⟨HP.out.ge, HP.out.rd, HP.out.byte, HP.out.len, HP.out.cap, HP.out.max, ⟨by have := HZ.out; have := HN.out; show n' ≤ _; omega, fun k' hk' => (by cases hk'; exact bkDec_ok hbk)⟩, ⟨HP.out.inv.win, HP.out.inv.byte, HP.out.inv.room⟩, HP.out.wb, HP.out.room_, HP.out.most_⟩
      have HTe := Lib.hid (stell_any W _ sb room b w0 q _ v t HTO.out hB5 hP5)
      generalize w4.setCell ⟨sb, 6, none⟩ (.int .i64 ((k.left - 1 : Nat) : Int)) = w5 at *
      have ct5 := Blk.cells kt5
      clear ct c6 f6 hB5 hP5 k5 g5
      go_wp2_with (first
        | (go_at_call 45; refine HTe.out.mono ?_; intro e w6 hS; obtain ⟨ev, rfl, hS2⟩ := hS.out))
      go_ret
      rw [HE2.out]
      exact hS2.turn (tell_ne _ _ _)
end Go.Proofs.YtahboomghjdjhaaGreat

/-
  Walks: a stream runs.
-/
namespace Go.Proofs.YtahboomghjdjhaaGreat
open Go.RowKit

/-- What a run answers. -/
def SRun (W w' : World) (sb : Nat) (q : Sc) (o : Except Nat Ss) (r : Ending) : Prop := match o with
  | .error e => r = .returned (.int .i64 ((e : Nat) : Int)) ∧ Below W.heap.size W w'
  | .ok s' => r = .returned (.int .i64 0) ∧ ∃ v, StrB W w' sb q s' v
theorem SRun.no {W w' : World} {sb : Nat} {q : Sc} {o : Except Nat Ss} {r : Ending} {e : Nat} (h : o = .error e) (hr : r = .returned (.int .i64 ((e : Nat) : Int))) (hb : Below W.heap.size W w') : SRun W w' sb q o r := by subst h; exact ⟨hr, hb⟩
theorem SRun.yes {W w' : World} {sb : Nat} {q : Sc} {s' : Ss} {o : Except Nat Ss} {r : Ending} (h : o = .ok s') (hr : r = .returned (.int .i64 0)) (hv : ∃ v, StrB W w' sb q s' v) : SRun W w' sb q o r := by subst h; exact ⟨hr, hv⟩
/-- A stream in a loop's round. -/
structure RunAt (W w : World) (sb : Nat) (q : Sc) (room : Nat) (b w0 : List Nat) (s1 : Ss) (v1 : Sv) (R : Except Nat Ss) : Prop where
  mem : StrB W w sb q s1 v1
  num : StrP W sb q room b w0 s1
  run : runS room b s1 = R

theorem one_ne0 {W : World} {sb : Nat} {q : Sc} {room : Nat} {b w0 : List Nat} {s : Ss} (_ : StrP W sb q room b w0 s) {e : Nat} (ho : oneS room b s = .error e) : e ≠ 0 := by
  intro h0
  subst h0
  unfold oneS at ho
  cases hk : s.k with
  | none =>
    rw [hk] at ho
    simp only at ho
    cases hh : hdP b s.a with
    | error e =>
      rw [hh] at ho
      injection ho with ho
      subst ho
      have := hdP_err _ _ _ hh
      revert this
      decide
    | ok r => rw [hh] at ho; cases ho
  | some k =>
    rw [hk] at ho
    simp only at ho
    cases hh : stP k b s.a with
    | error e =>
      rw [hh] at ho
      injection ho with ho
      subst ho
      have := stP_err k _ _ _ hh
      revert this
      decide
    | ok r =>
      rw [hh] at ho
      simp only at ho
      unfold tokS at ho
      split at ho
      · cases ho
      · split at ho
        · injection ho with ho; omega
        · split at ho
          · injection ho with ho; omega
          · cases ho

set_option maxRecDepth 100000 in
set_option maxHeartbeats 4000000 in
theorem srun_any (W w : World) (sb room : Nat) (b w0 : List Nat) (q : Sc) (s : Ss) (v : Sv) (hB : StrB W w sb q s v) (hP : StrP W sb q room b w0 s) :
    Calls Tryz.prog 18 #[.pointer (some ⟨sb, 0, none⟩)] w fun r w' => SRun W w' sb q (runS room b s) r := by
  obtain ⟨R, hR⟩ : ∃ R, runS room b s = R := ⟨_, rfl⟩
  have h0 : RunAt W w sb q room b w0 s v R := ⟨hB, hP, hR⟩
  rw [hR]
  obtain ⟨M, hM⟩ : ∃ M, muS b s = M := ⟨_, rfl⟩
  have HM := Lib.hid hM
  clear hB hP hR hM
  go_enter Tryz.func18, Tryz.ntmps18
  go_upto_region 1 with (fail)
  go_loopg [3, 4] M (fun g v3 v4 wr => ∃ s1 v1, muS b s1 = g ∧ RunAt W wr sb q room b w0 s1 v1 R)
  case atStart => exact ⟨s, v, HM.out, h0⟩
  case round =>
    obtain ⟨s1, v1, hg, hr⟩ := hrel
    have c44 : wr.cell? ⟨sb, 44, none⟩ = some (.bool s1.over) := Arr.cell hr.mem.arr 44 (by omega)
    have c41 : wr.cell? ⟨sb, 41, none⟩ = some (.bool s1.k.isSome) := Arr.cell hr.mem.arr 41 (by omega)
    cases hov : s1.over with
    | true =>
      have HR := Lib.hid (hr.run.symm.trans (run_over hov))
      rw [hov] at c44
      have hB := hr.mem
      clear hr hg hov c41
      go_wp2_with fail
      go_ret
      exact SRun.yes HR.out rfl ⟨v1, hB⟩
    | false =>
      rw [hov] at c44
      cases hk : s1.k with
      | none =>
        replace c41 : wr.cell? ⟨sb, 41, none⟩ = some (.bool false) := c41.trans (by rw [hk]; rfl)
        have HC := Lib.hid (shead_any W wr sb room b w0 q s1 v1 hk hr.mem hr.num)
        cases ho : oneS room b s1 with
        | error e =>
          by_cases h10 : e = 10
          · subst h10
            have HR := Lib.hid (hr.run.symm.trans (run_stop hov ho))
            unfold SOne at HC
            rw [ho] at HC
            clear ho hr hg hov hk
            go_wp2_with fail
            refine HC.out.mono ?_
            rintro e w2 ⟨rfl, hb2, hv2⟩
            go_simp
            go_wp2_with fail
            go_ret
            exact SRun.yes HR.out rfl (hv2 (by trivial))
          · have HR := Lib.hid (hr.run.symm.trans (run_err hov ho h10))
            have hne := one_ne0 hr.num ho
            unfold SOne at HC
            rw [ho] at HC
            clear ho hr hg hov hk
            have e10 : ((e : Int) == 10) = false := by rw [beq_eq_false_iff_ne]; omega
            have e0 : ((e : Int) != 0) = true := by rw [bne_iff_ne]; omega
            go_wp2_with fail
            refine HC.out.mono ?_
            rintro e2 w2 ⟨rfl, hb2, hv2⟩
            go_simp
            go_wp2_with fail
            go_ret
            exact SRun.no HR.out rfl hb2
        | ok s2 =>
          have HR := Lib.hid ((run_go hr.num.ok hov ho).symm.trans hr.run)
          have HQ := Lib.hid (And.intro (hr.num.one ho) (one_ok hr.num.ok ho).2.1)
          have HGG := Lib.hid hg
          unfold SOne at HC
          rw [ho] at HC
          clear ho hr hg hov hk
          go_wp2_with fail
          refine HC.out.mono ?_
          rintro e2 w2 ⟨rfl, v2, hv2⟩
          go_simp
          go_wp2_with fail
          go_roundg (muS b s2)
          case measure => have := HQ.out.2; have := HGG.out; omega
          case rel => exact ⟨s2, v2, rfl, hv2, HQ.out.1, HR.out⟩
      | some k =>
        replace c41 : wr.cell? ⟨sb, 41, none⟩ = some (.bool true) := c41.trans (by rw [hk]; rfl)
        have HC := Lib.hid (sstep_any W wr sb room b w0 q s1 v1 k hk hr.mem hr.num)
        cases ho : oneS room b s1 with
        | error e =>
          by_cases h10 : e = 10
          · subst h10
            have HR := Lib.hid (hr.run.symm.trans (run_stop hov ho))
            unfold SOne at HC
            rw [ho] at HC
            clear ho hr hg hov hk
            go_wp2_with fail
            refine HC.out.mono ?_
            rintro e w2 ⟨rfl, hb2, hv2⟩
            go_simp
            go_wp2_with fail
            go_ret
            exact SRun.yes HR.out rfl (hv2 (by trivial))
          · have HR := Lib.hid (hr.run.symm.trans (run_err hov ho h10))
            have hne := one_ne0 hr.num ho
            unfold SOne at HC
            rw [ho] at HC
            clear ho hr hg hov hk
            have e10 : ((e : Int) == 10) = false := by rw [beq_eq_false_iff_ne]; omega
            have e0 : ((e : Int) != 0) = true := by rw [bne_iff_ne]; omega
            go_wp2_with fail
            refine HC.out.mono ?_
            rintro e2 w2 ⟨rfl, hb2, hv2⟩
            go_simp
            go_wp2_with fail
            go_ret
            exact SRun.no HR.out rfl hb2
        | ok s2 =>
          have HR := Lib.hid ((run_go hr.num.ok hov ho).symm.trans hr.run)
          have HQ := Lib.hid (And.intro (hr.num.one ho) (one_ok hr.num.ok ho).2.1)
          have HGG := Lib.hid hg
          unfold SOne at HC
          rw [ho] at HC
          clear ho hr hg hov hk
          go_wp2_with fail
          refine HC.out.mono ?_
          rintro e2 w2 ⟨rfl, v2, hv2⟩
          go_simp
          go_wp2_with fail
          go_roundg (muS b s2)
          case measure => have := HQ.out.2; have := HGG.out; omega
          case rel => exact ⟨s2, v2, rfl, hv2, HQ.out.1, HR.out⟩
end Go.Proofs.YtahboomghjdjhaaGreat

/-
  Walks: swell.Feed, where it answers an error ahead of the run.
-/
namespace Go.Proofs.YtahboomghjdjhaaGreat
open Go.RowKit

theorem results_four {P : Program} {fn : Func} {p s1 s2 s3 : Tmp} {ty : TypeId} (h : fn.results = #[.cell p ty, .tmp s1, .tmp s2, .tmp s3]) (tmps : Array Value) (w : World) (g : Nat) (t : TypeId) (cs : Array Value) (v1 v2 v3 : Value) (d : TypeDesc)
    (hp : tmps.getD p undef = .pointer (some ⟨g, 0, none⟩)) (h1 : tmps.getD s1 undef = v1) (h2 : tmps.getD s2 undef = v2) (h3 : tmps.getD s3 undef = v3) (hg : Blk w g t cs)
    (hu : P.underlying ty = some d) (hd : (match d with | .struct _ | .array _ _ => true | _ => false) = true) (hi : (P.info? ty).map (·.size) = some cs.size) :
    (results fn tmps).run P w = .ok (.tuple #[.agg cs, v1, v2, v3]) w := by
  have hp' : tmps[p]?.getD undef = .pointer (some ⟨g, 0, none⟩) := by simpa using hp
  have h1' : tmps[s1]?.getD undef = v1 := by simpa using h1
  have h2' : tmps[s2]?.getD undef = v2 := by simpa using h2
  have h3' : tmps[s3]?.getD undef = v3 := by simpa using h3
  simp [results, h, hp', h1', h2', h3', asAddr, run_loadVar_row w g t ty cs (0, 0) d hg hu hd hi]
/-- What Feed answers where there is an error. -/
def FeedNo (w w' : World) (E : Nat) (r : Ending) : Prop := Below w.heap.size w w' ∧ r = .returned (.tuple #[.agg (cellsOf 45 swZ), .slice none 0 0, .int .i64 0, .int .i64 (E : Int)])

set_option maxRecDepth 100000 in
set_option maxHeartbeats 4000000 in
theorem feed_bad (s : Wv) (w : World) (hs : s.ok w) (B : Option Addr) (n c : Nat) (hck : ckS s = false) :
    Calls Tryz.prog 8 #[.agg (cellsOf 45 s.F), .slice B n c] w fun r w' => FeedNo w w' 8 r := by
  have HC := Lib.hid fun wx (h : Below w.heap.size w wx) => (hck ▸ scheck_any s wx (hs.below h) : Calls Tryz.prog 11 #[.agg (cellsOf 45 s.F)] wx fun r w' => CkdRes wx w' false r)
  clear hs hck
  generalize hF : s.F = F at *
  clear hF s
  have hb0 : Below w.heap.size w ((w.alloc (.cells (cellsOf 45 F) 32)).alloc (.cells (cellsOf 45 swZ) 32)) := ((Below.refl _ _).alloc (Nat.le_refl _) _).alloc (by simp) _
  have k0 : Arr ((w.alloc (.cells (cellsOf 45 F) 32)).alloc (.cells (cellsOf 45 swZ) 32)) w.heap.size 32 45 F := Arr.alloc (Blk.new _ _ _) _
  have k1 : Arr ((w.alloc (.cells (cellsOf 45 F) 32)).alloc (.cells (cellsOf 45 swZ) 32)) (w.heap.size + 1) 32 45 swZ := Blk.new' _ _ _ _ (by simp)
  go_enter Tryz.func8, Tryz.ntmps8
  go_upto_region 1 with (fail)
  change Code.wp _ _ _ _ ((w.alloc (.cells (cellsOf 45 F) 32)).alloc (.cells (cellsOf 45 swZ) 32))
  generalize (w.alloc (.cells (cellsOf 45 F) 32)).alloc (.cells (cellsOf 45 swZ) 32) = w0 at *
  obtain ⟨gn, hgn⟩ : ∃ g, w.heap.size + 1 = g := ⟨_, rfl⟩
  have hge : w.heap.size ≤ gn := by omega
  rw [hgn] at k1
  rw [hgn]
  clear hgn
  go_wp2_with (first
    | (refine load_arr rfl 32 (.tmp 4) rfl rfl k2 Tryz.underlying32 rfl sw_size ?_)
    | (refine load_arr rfl 32 (.tmp 2) rfl rfl k0 Tryz.underlying32 rfl sw_size ?_)
    | (go_at_call 11; refine (HC.out _ hb0).mono ?_; rintro e w2 ⟨rfl, h2⟩; have k2 := Arr.below k1 h2 (Blk.lt k1); have hb2 := hb0.trans (h2.mono hb0.size))
    | (refine store_over rfl 32 (.tmp 4) (.tmp 15) (f := swZ) rfl rfl rfl k2 sw_size (fun i _ => swH_one _ _ _ _ _ _ _ _ _ _ _ _ _ i) ?_; intro w3 k3 g3))
  refine bodyPost_ret (results_four Tryz.results8 _ _ gn 32 _ _ _ _ _ rfl rfl rfl rfl k3 Tryz.underlying32 rfl (by rw [cellsOf_size]; exact sw_size)) rfl ?_
  exact ⟨Below.then_only hb2 g3 hb2.size hge, rfl⟩
set_option maxRecDepth 100000 in
set_option maxHeartbeats 4000000 in
theorem feed_over (s : Wv) (w : World) (hs : s.ok w) (B : Option Addr) (n c : Nat) (hck : ckS s = true) (hov : s.over = true) :
    Calls Tryz.prog 8 #[.agg (cellsOf 45 s.F), .slice B n c] w fun r w' => FeedNo w w' 6 r := by
  have HC := Lib.hid fun wx (h : Below w.heap.size w wx) => (hck ▸ scheck_any s wx (hs.below h) : Calls Tryz.prog 11 #[.agg (cellsOf 45 s.F)] wx fun r w' => CkdRes wx w' true r)
  have h44 : s.F 44 = .bool true := by show Value.bool s.over = _; rw [hov]
  clear hs hck hov
  generalize hF : s.F = F at *
  clear hF s
  have H44 := Lib.hid h44
  clear h44
  have hb0 : Below w.heap.size w ((w.alloc (.cells (cellsOf 45 F) 32)).alloc (.cells (cellsOf 45 swZ) 32)) := ((Below.refl _ _).alloc (Nat.le_refl _) _).alloc (by simp) _
  have k0 : Arr ((w.alloc (.cells (cellsOf 45 F) 32)).alloc (.cells (cellsOf 45 swZ) 32)) w.heap.size 32 45 F := Arr.alloc (Blk.new _ _ _) _
  have k1 : Arr ((w.alloc (.cells (cellsOf 45 F) 32)).alloc (.cells (cellsOf 45 swZ) 32)) (w.heap.size + 1) 32 45 swZ := Blk.new' _ _ _ _ (by simp)
  go_enter Tryz.func8, Tryz.ntmps8
  go_upto_region 1 with (fail)
  change Code.wp _ _ _ _ ((w.alloc (.cells (cellsOf 45 F) 32)).alloc (.cells (cellsOf 45 swZ) 32))
  generalize (w.alloc (.cells (cellsOf 45 F) 32)).alloc (.cells (cellsOf 45 swZ) 32) = w0 at *
  obtain ⟨gn, hgn⟩ : ∃ g, w.heap.size + 1 = g := ⟨_, rfl⟩
  have hge : w.heap.size ≤ gn := by omega
  rw [hgn] at k1
  rw [hgn]
  clear hgn
  go_wp2_with (first
    | (refine load_arr rfl 32 (.tmp 4) rfl rfl k2 Tryz.underlying32 rfl sw_size ?_)
    | (refine load_arr rfl 32 (.tmp 2) rfl rfl k0 Tryz.underlying32 rfl sw_size ?_)
    | (go_at_call 11; refine (HC.out _ hb0).mono ?_; rintro e w2 ⟨rfl, h2⟩; have k2 := Arr.below k1 h2 (Blk.lt k1); have hb2 := hb0.trans (h2.mono hb0.size); have c44 : w2.cell? ⟨w.heap.size, 44, none⟩ = some (.bool true) := (Arr.cell (Arr.below k0 h2 (Blk.lt k0)) 44 (by omega)).trans (congrArg some H44.out))
    | (refine store_over rfl 32 (.tmp 4) (.tmp 19) (f := swZ) rfl rfl rfl k2 sw_size (fun i _ => swH_one _ _ _ _ _ _ _ _ _ _ _ _ _ i) ?_; intro w3 k3 g3))
  refine bodyPost_ret (results_four Tryz.results8 _ _ gn 32 _ _ _ _ _ rfl rfl rfl rfl k3 Tryz.underlying32 rfl (by rw [cellsOf_size]; exact sw_size)) rfl ?_
  exact ⟨Below.then_only hb2 g3 hb2.size hge, rfl⟩
end Go.Proofs.YtahboomghjdjhaaGreat

/-
  Plain: what Feed answers.
-/
namespace Go.Proofs.YtahboomghjdjhaaGreat
open Go.RowKit

/-- A stream that is over has no block open. -/
theorem over_closed {room : Nat} {b : List Nat} : ∀ s, SsOk b s → (s.over = true → s.k = none) → ∀ s', runS room b s = .ok s' → s'.over = true → s'.k = none := by
  refine run_ind (room := room) (b := b) (fun s r => (s.over = true → s.k = none) → ∀ s', r = .ok s' → s'.over = true → s'.k = none) ?_ ?_ ?_ ?_
  · exact fun s _ _ h s' e => by cases e; exact h
  · exact fun s _ _ _ h s' e => by cases e; exact h
  · exact fun s e _ _ _ _ _ s' h => by cases h
  · intro s s' r hs ho h hs' ih _ t e
    refine ih (fun hov => ?_) t e
    cases hk : s.k with
    | none =>
      cases hh : hdP b s.a with
      | error e => rw [one_head_no hk hh] at h; cases h
      | ok r =>
        obtain ⟨k, n⟩ := r
        rw [one_head hk hh] at h
        cases h
        rw [ho] at hov; cases hov
    | some k =>
      cases hh : stP k b s.a with
      | error e => rw [one_step_no hk hh] at h; cases h
      | ok r =>
        obtain ⟨t, n⟩ := r
        rw [one_step hk hh] at h
        cases hf : t.fin with
        | true => rw [tok_end hf] at h; cases h; rfl
        | false =>
          by_cases h1 : s.win.length < t.dist
          · rw [tok_far hf h1] at h; cases h
          · by_cases h2 : room < s.told.length + (moreT s.win t).length
            · rw [tok_full hf (by omega) h2] at h; cases h
            · rw [tok_go hf (by omega) (by omega)] at h
              cases h
              rw [ho] at hov; cases hov
/-- A stream's block, held as a value. -/
def bkV (k : Option Bk) (v : Sv) : Bv := match k with
  | none => ⟨0, false, 0, fun _ => 0, v.C1, v.m1, v.d1, [], fun _ => 0, v.C2, v.m2, v.d2, []⟩
  | some k => ⟨k.kind, k.last, (k.left : Int), trF k k.lo, v.C1, v.m1, v.d1, trX k k.lo, trF k k.fa, v.C2, v.m2, v.d2, trX k k.fa⟩
theorem bkV_F (k : Option Bk) (v : Sv) : (bkV k v).F = bkO k (.slice v.C1 v.m1 v.d1) (.slice v.C2 v.m2 v.d2) := by cases k <;> rfl
/-- The bytes that are left. -/
def leftB (all : List Nat) (s : Ss) : List Nat := if s.over then [] else all.drop (s.a / 8)
def leftA (s : Ss) : Nat := if s.over then 0 else s.a % 8
/-- The stream that Feed answers, held as a value. -/
def fedV (most made : Nat) (all : List Nat) (s : Ss) (v : Sv) (I : Option Addr) (ni ci : Nat) : Wv :=
  ⟨(most : Int), ((made + s.told.length : Nat) : Int), I, ni, ci, leftB all s, (leftA s : Int), bkV s.k v, s.k.isSome, 32768, v.A, v.nl, v.cl, s.win, s.over⟩
/-- How many bytes are read. -/
def usedN (nA n : Nat) (s : Ss) : Nat := if s.over then (s.a + 7) / 8 - nA else n
/-- What is so of a stream that Feed answers, in numbers. -/
structure FedP (most made : Nat) (all lw : List Nat) (s : Ss) : Prop where
  room : made + s.told.length ≤ most
  most_ : most ≤ 131072
  win : s.win = lastL 32768 (lw ++ s.told)
  byte : ∀ x ∈ s.told, x < 256
  lw_ : lw.length = min made 32768
  lwb : ∀ x ∈ lw, x < 256
  ok : SsOk all s
  stop : s.over = true ∨ oneS (most - made) all s = .error 10
  closed : s.over = true → s.k = none
section
variable {most made : Nat} {all lw : List Nat} {s : Ss} {v : Sv} {I : Option Addr} {ni ci : Nat}
theorem FedP.nw (h : FedP most made all lw s) : s.win.length = min (made + s.told.length) 32768 := by
  rw [h.win, lastL_length, List.length_append, h.lw_]
  omega
theorem FedP.left (h : FedP most made all lw s) : (leftB all s).length ≤ 600 := by
  unfold leftB
  rcases h.stop with h1 | h1
  · rw [h1]; exact Nat.zero_le _
  · split
    · exact Nat.zero_le _
    · exact one_wants h.ok h1
end
/-- From what stands at the beginning. -/
theorem fed_p {most made : Nat} {all lw : List Nat} {s s1 : Ss} (hr : made ≤ most) (hm : most ≤ 131072) (hlw : lw.length = min made 32768) (hb : ∀ x ∈ lw, x < 256) (hs : SsOk all s) (hw : s.win = lw) (ht : s.told = []) (ho : s.over = false) (h : runS (most - made) all s = .ok s1) : FedP most made all lw s1 := by
  have h1 := run_end (room := most - made) s hs
  rw [h] at h1
  have h2 := run_inv hb s hs ⟨by rw [ht, hw, List.append_nil, lastL_self (by omega)], fun x hx => (by rw [ht] at hx; cases hx), by rw [ht]; exact Nat.zero_le _⟩ s1 h
  exact ⟨by have := h2.room; omega, hm, h2.win, h2.byte, hlw, hb, h1.1, h1.2.2, over_closed s hs (fun h => by rw [ho] at h; cases h) s1 h⟩
end Go.Proofs.YtahboomghjdjhaaGreat

/-
  A stream in memory where Feed begins and ends. No walk.
-/
namespace Go.Proofs.YtahboomghjdjhaaGreat
open Go.RowKit

section
variable {P : Program}
/-- 's[k:]', alike in all worlds. -/
theorem run_from {t e : TypeId} (ht : P.underlying t = some (.slice e)) (hs : (P.info? e).map (·.size) = some 1) {A : Option Addr} {n c : Nat} {i : Int} (lo : Nat) (hi : i = (lo : Int)) (h1 : lo ≤ n) (h2 : n ≤ c) :
    ∃ A', (∀ w, (Instr.slice t (.slice A n c) (some (.int .i64 i)) none none).run P w = .ok (.slice A' (n - lo) (c - lo)) w) ∧ ∀ (w : World) (xs : List Value), xs.length = n → Rd w A xs → Rd w A' (xs.drop lo) := by
  subst hi
  have hsz : ∀ w, (sizeOf e).run P w = .ok 1 w := fun w => by
    cases hq : P.info? e with
    | none => simp [hq] at hs
    | some ti =>
      have : ti.size = 1 := by simpa [hq] using hs
      simp [sizeOf, typeInfo, hq, this]
  by_cases hc : c = lo
  · refine ⟨A, fun w => ?_, ?_⟩
    · have hnk : n = lo := by omega
      subst hnk hc
      simp [Instr.slice, run_underlying ht, Instr.sliceBounds, run_sliceBound, hsz]
    · intro w xs hl hr
      rw [List.drop_eq_nil_of_le (by omega)]
      exact ⟨fun hn => by simp at hn, fun _ => rfl⟩
  · refine ⟨A.map (fun x => x.add lo), fun w => ?_, fun w xs _ hr => hr.drop _⟩
    simp [Instr.slice, run_underlying ht, Instr.sliceBounds, run_sliceBound, hsz, h1]
    intro h
    omega
theorem run_fromO {t e : TypeId} {o : Oper} {a : Act} {w : World} (x lo : Operand) (ho : o.op = .slice t x (some lo) none none) (ht : P.underlying t = some (.slice e)) {A : Option Addr} {n c : Nat} {i : Int} (hx : a.eval x = .slice A n c) (hlo : a.eval lo = .int .i64 i) {v : Value}
    (h : (Instr.slice t (.slice A n c) (some (.int .i64 i)) none none).run P w = .ok v w) : (execOp a.eval o).run P w = .ok (.value v) w := by
  unfold execOp
  simp only [ho, hx, hlo, Option.map_some, Option.map_none, Instr.sliceAt, run_underlying ht, h, Sem.run_bind, Sem.run_pure, Result.andThen_ok]
end

theorem Below.undrew {B : Nat} {w w' : World} (h : Below B w.drew w') : Below B w w' := ⟨h.os, h.tape, h.output, h.size, h.block⟩
theorem grown_undrew {w w' : World} {row : Option Nat} (h : w.drew.grownBy w' row) : w.grownBy w' row := ⟨h.os, h.tape, h.output, h.size, h.block⟩
theorem one_err0 {room : Nat} {b : List Nat} {s : Ss} {e : Nat} (ho : oneS room b s = .error e) : e ≠ 0 := by
  intro h0
  subst h0
  unfold oneS at ho
  cases hk : s.k with
  | none =>
    rw [hk] at ho
    simp only at ho
    cases hh : hdP b s.a with
    | error e =>
      rw [hh] at ho
      injection ho with ho
      subst ho
      have := hdP_err _ _ _ hh
      revert this
      decide
    | ok r => rw [hh] at ho; cases ho
  | some k =>
    rw [hk] at ho
    simp only at ho
    cases hh : stP k b s.a with
    | error e =>
      rw [hh] at ho
      injection ho with ho
      subst ho
      have := stP_err k _ _ _ hh
      revert this
      decide
    | ok r =>
      rw [hh] at ho
      simp only at ho
      unfold tokS at ho
      split at ho
      · cases ho
      · split at ho
        · injection ho with ho; omega
        · split at ho
          · injection ho with ho; omega
          · cases ho
theorem run_err0 {room : Nat} {b : List Nat} : ∀ s, SsOk b s → ∀ e, runS room b s = .error e → e ≠ 0 := by
  refine run_ind (room := room) (b := b) (fun s r => ∀ e, r = .error e → e ≠ 0) ?_ ?_ ?_ ?_
  · exact fun s _ _ e h => by cases h
  · exact fun s _ _ _ e h => by cases h
  · exact fun s e _ _ h _ e' h' => by cases h'; exact one_err0 h
  · exact fun s s' r _ _ _ _ ih => ih

/-- The stream's cells when it is made. -/
def mkG (F : Nat → Value) (at0 : Int) (u : Value) (i : Nat) : Value := if i < 45 then F i else if i = 45 then u else if i = 46 then .int .i64 at0 else .slice none 0 0

section
variable {s : Wv} {k : Option Bk} {most made a : Nat}
theorem CkIs.lw_ (hk : CkIs s k) (hl : s.nw = s.lw.length) (hma : s.made = (made : Int)) : s.lw.length = min made 32768 := by
  have := hk.nw
  rw [hma, hl] at this
  split at this <;> omega
theorem CkIs.start (hk : CkIs s k) (hat : s.at0 = (a : Int)) (hl : s.nA = s.lA.length) (b : List Nat) : SsOk (s.lA ++ b) ⟨a, k, false, s.lw, []⟩ := by
  refine ⟨?_, fun k' hk' => (hk.blk k' hk').1⟩
  have h1 := hk.in_
  have h2 := hk.at0
  show a ≤ 8 * (s.lA ++ b).length
  rw [List.length_append]
  omega
theorem feed_strB {w3 w4 w5 : World} {gx : Nat} (hs : s.ok w3) (hk : CkIs s k) (hov : s.over = false) (hmo : s.most = (most : Int)) (hma : s.made = (made : Int)) (hat : s.at0 = (a : Int)) {A4 : Option Addr} {T d4 : Nat} (hgx : w3.heap.size ≤ gx)
    (k5 : Arr w5 gx 53 48 (mkG s.F s.at0 (.slice A4 T d4))) (hb4 : Below w3.heap.size w3 w4) (hb5 : Below w4.heap.size w4 w5) {A5 : Option Addr} {c5 : Nat} (o5 : w5.ownsRow w4.heap.size 5 1 (.slice A5 s.nw c5) s.nw (u8s s.lw)) :
    StrB w3 (w5.setCell ⟨gx, 43, none⟩ (.slice A5 s.nw c5)) gx ⟨most, made, .slice s.A s.nA s.cA, s.at0, A4, T, d4⟩ ⟨a, k, false, s.lw, []⟩ ⟨s.bk.C1, s.bk.m1, s.bk.d1, s.bk.C2, s.bk.m2, s.bk.d2, A5, s.nw, c5, none, 0, 0⟩ := by
  have g : w5.grownBy (w5.setCell ⟨gx, 43, none⟩ (.slice A5 s.nw c5)) (some gx) := only_set (only_self _ _) 43 _
  refine ⟨Below.then_only (hb4.trans (hb5.mono hb4.size)) g (Nat.le_trans hb4.size hb5.size) hgx, (Arr.set k5 43 _).congr fun i hi => start_cells hk hov most made a hmo hma hat _ _ s.lw i hi, fun k' hk' => ?_, fun hk' => ?_, own_far_base (own_only o5 k5 (by decide) g) hb4.size, hs.lenw, own_cap o5, World.ownsRow_nil _ _ _ _, rfl, fun g hg => by cases hg⟩
  · obtain ⟨_, h1, h2⟩ := hk.blk k' hk'
    exact ⟨⟨by rw [← h1]; exact hs.bk.l1, hs.bk.c1, .inl (by rw [← h1]; exact hs.bk.r1)⟩, ⟨by rw [← h2]; exact hs.bk.l2, hs.bk.c2, .inl (by rw [← h2]; exact hs.bk.r2)⟩⟩
  · obtain ⟨h1, h2⟩ := hk.zero hk'
    exact ⟨⟨by rw [← h1]; exact hs.bk.l1, hs.bk.c1, .inl (by rw [← h1]; exact hs.bk.r1)⟩, ⟨by rw [← h2]; exact hs.bk.l2, hs.bk.c2, .inl (by rw [← h2]; exact hs.bk.r2)⟩⟩
theorem feed_strP {w3 : World} {gx : Nat} (hs : s.ok w3) (hk : CkIs s k) (hmo : s.most = (most : Int)) (hma : s.made = (made : Int)) (hat : s.at0 = (a : Int)) (hgx : w3.heap.size ≤ gx) {A4 : Option Addr} {T d4 : Nat} {b : List Nat}
    (hr : Rd w3 A4 (u8s (s.lA ++ b))) (hT : (s.lA ++ b).length = T) (hd : T ≤ d4) (hm : T ≤ 100000) (hx : ∀ x ∈ b, x < 256) (inV : Value) (at0 : Int) :
    StrP w3 gx ⟨most, made, inV, at0, A4, T, d4⟩ (most - made) (s.lA ++ b) s.lw ⟨a, k, false, s.lw, []⟩ := by
  have h1 := hk.most
  have h2 := hk.made
  have h3 := hk.lw_ hs.lenw hma
  refine ⟨hgx, hr, fun x h => ?_, hT.symm, hd, hm, hk.start hat hs.lenA b, ⟨?_, fun x h => (by cases h), Nat.zero_le _⟩, hs.bw, ?_, ?_⟩
  · rcases List.mem_append.1 h with h | h
    · exact hs.bA x h
    · exact hx x h
  · show s.lw = lastL 32768 (s.lw ++ [])
    rw [List.append_nil, lastL_self (by omega)]
  · show made + (most - made) = most; omega
  · show most ≤ 131072; omega
theorem feed_p {w3 : World} (hs : s.ok w3) (hk : CkIs s k) (hmo : s.most = (most : Int)) (hma : s.made = (made : Int)) (hat : s.at0 = (a : Int)) {b : List Nat} {s1 : Ss} (h : runS (most - made) (s.lA ++ b) ⟨a, k, false, s.lw, []⟩ = .ok s1) : FedP most made (s.lA ++ b) s.lw s1 := by
  have h1 := hk.most
  have h2 := hk.made
  exact fed_p (by omega) (by omega) (hk.lw_ hs.lenw hma) hs.bw (hk.start hat hs.lenA b) rfl rfl rfl h
end

/-- A row that is empty, or one's own. -/
def OwnOr (w : World) (base : Nat) (C : Option Addr) (m d : Nat) (xs : List Int) : Prop := (xs = [] ∧ m = 0) ∨ w.ownsRow base 3 1 (.slice C m d) m (ints xs)
/-- What Feed answers, in memory. -/
structure FedMem (w w' : World) (most made : Nat) (all : List Nat) (s : Ss) (v : Sv) (I : Option Addr) (ci : Nat) : Prop where
  only : Below w.heap.size w w'
  val : (fedV most made all s v I (leftB all s).length ci).ok w'
  told : w'.ownsRow w.heap.size 5 1 (.slice v.D v.nt v.ct) v.nt (u8s s.told)
  nt_ : v.nt = s.told.length
  nl_ : v.nl = s.win.length
  win : w'.ownsRow w.heap.size 5 1 (.slice v.A v.nl v.cl) v.nl (u8s s.win)
  in_ : w'.ownsRow w.heap.size 5 1 (.slice I (leftB all s).length ci) (leftB all s).length (u8s (leftB all s))
  sym : OwnOr w' w.heap.size v.C1 v.m1 v.d1 (bkV s.k v).x1
  sym2 : OwnOr w' w.heap.size v.C2 v.m2 v.d2 (bkV s.k v).x2
  apart : ∀ g, (Value.slice I (leftB all s).length ci).ownBlock = some g → (Value.slice v.A v.nl v.cl).ownBlock ≠ some g
def FedOk (w w' : World) (most made nA n : Nat) (all : List Nat) (s : Ss) (r : Ending) : Prop :=
  ∃ v I ci, r = .returned (.tuple #[.agg (cellsOf 45 (fedV most made all s v I (leftB all s).length ci).F), .slice v.D v.nt v.ct, .int .i64 ((usedN nA n s : Nat) : Int), .int .i64 0]) ∧ FedMem w w' most made all s v I ci

theorem mem_left {all : List Nat} {s : Ss} {x : Nat} (h : x ∈ leftB all s) : x ∈ all := by
  unfold leftB at h
  split at h
  · cases h
  · exact List.mem_of_mem_drop h
theorem bkV_len {k : Option Bk} {v : Sv} (h : ∀ k', k = some k' → BkOk k') : (bkV k v).x1.length ≤ 320 ∧ (bkV k v).x2.length ≤ 320 := by
  cases k with
  | none => exact ⟨Nat.zero_le _, Nat.zero_le _⟩
  | some k => exact trX_len (h k rfl)
/-- .. when all has been written. -/
theorem fed_done {W w3 w7 w9 w10 : World} {gx gn : Nat} {q : Sc} {s1 : Ss} {v : Sv} {most made : Nat} {all lw : List Nat} {I : Option Addr} {ci : Nat} {C1 C2 : Option Addr} {m1 d1 m2 d2 : Nat} {cs : Array Value} {x1 x2 : List Int}
    (hW : Below W.heap.size W w3) (hB : StrB w3 w7 gx q s1 v) (g79 : w7.grownBy w9 (some gx)) (kn9 : Blk w9 gn 32 cs) (g9 : w9.grownBy w10 (some gn)) (hgn : W.heap.size ≤ gn) (hgx : W.heap.size ≤ gx) (hp : FedP most made all lw s1) (hall : ∀ x ∈ all, x < 256)
    (hI : w9.ownsRow w7.heap.size 5 1 (.slice I (leftB all s1).length ci) (leftB all s1).length (u8s (leftB all s1)))
    (e1 : (bkV s1.k v).x1 = x1) (e2 : (bkV s1.k v).x2 = x2) (l1 : m1 = x1.length) (l2 : m2 = x2.length) (c1 : m1 ≤ d1) (c2 : m2 ≤ d2) (y1 : OwnOr w9 W.heap.size C1 m1 d1 x1) (y2 : OwnOr w9 W.heap.size C2 m2 d2 x2) :
    FedMem W w10 most made all s1 ⟨C1, m1, d1, C2, m2, d2, v.A, v.nl, v.cl, v.D, v.nt, v.ct⟩ I ci := by
  have hb79 : Below W.heap.size w7 w9 := only_below g79 (Nat.le_trans hW.size hB.only.size) hgx
  have h7 : Below W.heap.size W w7 := hW.trans (hB.only.mono hW.size)
  have hk : ∀ v' : Sv, (bkV s1.k v').x1 = (bkV s1.k v).x1 ∧ (bkV s1.k v').x2 = (bkV s1.k v).x2 := fun v' => by cases s1.k <;> exact ⟨rfl, rfl⟩
  have hl := bkV_len (v := v) hp.ok.blk
  rw [e1, e2] at hl
  have oI := own_only hI kn9 (by decide) g9
  have oW := own_only (hB.win' g79) kn9 (by decide) g9
  have oT := own_only (hB.told' g79) kn9 (by decide) g9
  have ow : ∀ {C : Option Addr} {m d : Nat} {xs : List Int}, OwnOr w9 W.heap.size C m d xs → OwnOr w10 W.heap.size C m d xs := fun h => h.imp id fun o => own_only o kn9 (by decide) g9
  have rd : ∀ {C : Option Addr} {m d : Nat} {xs : List Int}, OwnOr w10 W.heap.size C m d xs → Rd w10 C (ints xs) := fun h => h.elim (fun ⟨e, _⟩ => by subst e; exact ⟨fun hn => by simp [ints] at hn, fun _ => rfl⟩) fun o => own_rd o
  have hw1 := hp.nw
  refine ⟨Below.then_only (h7.trans hb79) g9 (Nat.le_trans h7.size hb79.size) hgn, ⟨own_rd oI, fun x h => hall x (mem_left h), rfl, own_cap oI, ?_, ⟨?_, ?_, ?_, ?_, ?_, ?_, ?_, ?_⟩, own_rd oW, fun x h => ?_, hB.nl_, hB.cl_, ?_⟩, own_far_base oT hW.size, hB.nt_, hB.nl_, own_far_base oW hW.size, own_far_base oI h7.size, ?_, ?_, fun g hg he => ?_⟩
  · show (leftB all s1).length ≤ 1000000
    have := hp.left
    omega
  · show Rd w10 (bkV s1.k _).C1 (ints (bkV s1.k _).x1)
    rw [(hk _).1, e1]
    have : (bkV s1.k ⟨C1, m1, d1, C2, m2, d2, v.A, v.nl, v.cl, v.D, v.nt, v.ct⟩).C1 = C1 := by cases s1.k <;> rfl
    rw [this]
    exact rd (ow y1)
  · show (bkV s1.k _).m1 = (bkV s1.k _).x1.length
    rw [(hk _).1, e1, ← l1]
    cases s1.k <;> rfl
  · show (bkV s1.k _).m1 ≤ (bkV s1.k _).d1
    cases s1.k <;> exact c1
  · show (bkV s1.k _).m1 ≤ 1001
    have : (bkV s1.k ⟨C1, m1, d1, C2, m2, d2, v.A, v.nl, v.cl, v.D, v.nt, v.ct⟩).m1 = m1 := by cases s1.k <;> rfl
    rw [this]
    omega
  · show Rd w10 (bkV s1.k _).C2 (ints (bkV s1.k _).x2)
    rw [(hk _).2, e2]
    have : (bkV s1.k ⟨C1, m1, d1, C2, m2, d2, v.A, v.nl, v.cl, v.D, v.nt, v.ct⟩).C2 = C2 := by cases s1.k <;> rfl
    rw [this]
    exact rd (ow y2)
  · show (bkV s1.k _).m2 = (bkV s1.k _).x2.length
    rw [(hk _).2, e2, ← l2]
    cases s1.k <;> rfl
  · show (bkV s1.k _).m2 ≤ (bkV s1.k _).d2
    cases s1.k <;> exact c2
  · show (bkV s1.k _).m2 ≤ 1001
    have : (bkV s1.k ⟨C1, m1, d1, C2, m2, d2, v.A, v.nl, v.cl, v.D, v.nt, v.ct⟩).m2 = m2 := by cases s1.k <;> rfl
    rw [this]
    omega
  · have h : x ∈ s1.win := h
    rw [hp.win] at h
    rcases List.mem_append.1 (mem_lastL h) with h | h
    · exact hp.lwb x h
    · exact hp.byte x h
  · show v.nl ≤ 1000000
    rw [hB.nl_, hw1]
    omega
  · show OwnOr w10 W.heap.size C1 m1 d1 (bkV s1.k _).x1
    rw [(hk _).1, e1]
    exact ow y1
  · show OwnOr w10 W.heap.size C2 m2 d2 (bkV s1.k _).x2
    rw [(hk _).2, e2]
    exact ow y2
  · have h1 := (hI.lt g hg).1
    have h2 := (hB.win.lt g he).2
    omega
/-- The stream's cells when the bytes that are left are kept. -/
theorem en_at {w7 wc w8 : World} {gx : Nat} {qq : Sc} {s1 : Ss} {v1 : Sv} {b : List Nat} {lo n ci : Nat} {I : Option Addr} {av : Int} (k7 : Arr w7 gx 53 48 (svF qq s1 v1))
    (o8 : wc.ownsRow w7.drew.heap.size 5 1 (.slice I n ci) n (u8s (b.drop lo))) (hb8 : Below w7.drew.heap.size w7.drew wc) (hw8 : w8 = (wc.setCell ⟨gx, 2, none⟩ (.slice I n ci)).setCell ⟨gx, 3, none⟩ (.int .i64 av)) :
    w7.grownBy w8 (some gx) ∧ Arr w8 gx 53 48 (stH (qq.most : Int) ((qq.m0 + s1.told.length : Nat) : Int) (.slice I n ci) av (bkO s1.k (.slice v1.C1 v1.m1 v1.d1) (.slice v1.C2 v1.m2 v1.d2)) s1.k.isSome (.slice v1.A v1.nl v1.cl) s1.over (.slice qq.B qq.n qq.c) (s1.a : Int) (.slice v1.D v1.nt v1.ct)) ∧
    w8.ownsRow w7.heap.size 5 1 (.slice I n ci) n (u8s (b.drop lo)) := by
  subst hw8
  have hb8' : Below w7.heap.size w7 wc := Below.undrew hb8
  have kc := Arr.below k7 hb8' (Blk.lt k7)
  have g := only_set (only_set (only_self wc gx) 2 (.slice I n ci)) 3 (.int .i64 av)
  exact ⟨only_trans (only_of_below hb8') g, (Arr.set ((Arr.set kc 2 (.slice I n ci)).congr fun i _ => stH_in _ i) 3 (.int .i64 av)).congr fun i _ => stH_at0 _ i, own_only o8 kc (by decide) g⟩
/-- .. when it is over: none are left. -/
theorem en_over {w8 : World} {gx : Nat} {most made at0 at_ : Int} {inV winV bV toldV : Value} {bk : Nat → Value} {op over : Bool} (k8 : Arr w8 gx 53 48 (stH most made inV at0 bk op winV over bV at_ toldV)) :
    w8.grownBy ((w8.setCell ⟨gx, 2, none⟩ (.slice none 0 0)).setCell ⟨gx, 3, none⟩ (.int .i64 0)) (some gx) ∧ Arr ((w8.setCell ⟨gx, 2, none⟩ (.slice none 0 0)).setCell ⟨gx, 3, none⟩ (.int .i64 0)) gx 53 48 (stH most made (.slice none 0 0) 0 bk op winV over bV at_ toldV) :=
  ⟨only_set (only_set (only_self w8 gx) 2 _) 3 _, (Arr.set ((Arr.set k8 2 (.slice none 0 0)).congr fun i _ => stH_in _ i) 3 (.int .i64 0)).congr fun i _ => stH_at0 _ i⟩
/-- The first 45 cells of a stream in memory are those of what Feed answers. -/
theorem fed_cells {most made : Nat} {all : List Nat} {s1 : Ss} {v : Sv} {I : Option Addr} {n ci : Nat} {C1 C2 : Option Addr} {m1 d1 m2 d2 : Nat} {bV toldV : Value} {at_ : Int} (i : Nat) (hi : i < 45) :
    stH (most : Int) ((made + s1.told.length : Nat) : Int) (.slice I n ci) (leftA s1 : Int) (bkO s1.k (.slice C1 m1 d1) (.slice C2 m2 d2)) s1.k.isSome (.slice v.A v.nl v.cl) s1.over bV at_ toldV i = (fedV most made all s1 ⟨C1, m1, d1, C2, m2, d2, v.A, v.nl, v.cl, v.D, v.nt, v.ct⟩ I n ci).F i := by
  show _ = swH (most : Int) ((made + s1.told.length : Nat) : Int) (.slice I n ci) (leftA s1 : Int) (bkV s1.k ⟨C1, m1, d1, C2, m2, d2, v.A, v.nl, v.cl, v.D, v.nt, v.ct⟩).F s1.k.isSome 32768 (.slice v.A v.nl v.cl) s1.over i
  rw [bkV_F]
  unfold stH swH
  (repeat' split) <;> first | rfl | omega
theorem stH_ty1 {most made at0 at_ : Int} {inV winV bV toldV : Value} {op over : Bool} (k : Bk) (v1 v2 x : Value) (i : Nat) : (if i = 23 then x else stH most made inV at0 (bkO (some k) v1 v2) op winV over bV at_ toldV i) = stH most made inV at0 (bkO (some k) x v2) op winV over bV at_ toldV i := by
  by_cases h : i = 23
  · subst h; rfl
  · rw [if_neg h]; unfold stH
    by_cases h4 : i < 4
    · rw [if_pos h4, if_pos h4]
    · rw [if_neg h4, if_neg h4]
      by_cases h41 : i < 41
      · rw [if_pos h41, if_pos h41]
        show bkH _ _ _ _ _ _ _ _ = bkH _ _ _ _ _ _ _ _
        unfold bkH
        by_cases h3 : i - 4 < 3
        · rw [if_pos h3, if_pos h3]
        · rw [if_neg h3, if_neg h3]
          by_cases h20 : i - 4 < 20
          · rw [if_pos h20, if_pos h20]; unfold treeH; rw [if_pos (by omega), if_pos (by omega)]
          · rw [if_neg h20, if_neg h20]
      · rw [if_neg h41, if_neg h41]
theorem stH_ty2 {most made at0 at_ : Int} {inV winV bV toldV : Value} {op over : Bool} (k : Bk) (v1 v2 x : Value) (i : Nat) : (if i = 40 then x else stH most made inV at0 (bkO (some k) v1 v2) op winV over bV at_ toldV i) = stH most made inV at0 (bkO (some k) v1 x) op winV over bV at_ toldV i := by
  by_cases h : i = 40
  · subst h; rfl
  · rw [if_neg h]; unfold stH
    by_cases h4 : i < 4
    · rw [if_pos h4, if_pos h4]
    · rw [if_neg h4, if_neg h4]
      by_cases h41 : i < 41
      · rw [if_pos h41, if_pos h41]
        show bkH _ _ _ _ _ _ _ _ = bkH _ _ _ _ _ _ _ _
        unfold bkH
        by_cases h3 : i - 4 < 3
        · rw [if_pos h3, if_pos h3]
        · rw [if_neg h3, if_neg h3]
          by_cases h20 : i - 4 < 20
          · rw [if_pos h20, if_pos h20]
          · rw [if_neg h20, if_neg h20]; unfold treeH; rw [if_pos (by omega), if_pos (by omega)]
      · rw [if_neg h41, if_neg h41]
/-- .. when a block's symbols are kept. -/
theorem ty_at {w8 wc w9 : World} {gx : Nat} {k : Option Bk} {k1 : Bk} (hk : k = some k1) {most made at0 at_ : Int} {inV winV bV toldV V1 V2 : Value} {op over : Bool} (k8 : Arr w8 gx 53 48 (stH most made inV at0 (bkO k V1 V2) op winV over bV at_ toldV))
    {A B : Option Addr} {c d m1 m2 : Nat} {x1 x2 : List Int} (oA : wc.ownsRow w8.drew.heap.size 3 1 (.slice A m1 c) m1 (ints x1)) (oB : wc.ownsRow w8.drew.heap.size 3 1 (.slice B m2 d) m2 (ints x2)) (hb : Below w8.drew.heap.size w8.drew wc)
    (hw : w9 = (wc.setCell ⟨gx, 23, none⟩ (.slice A m1 c)).setCell ⟨gx, 40, none⟩ (.slice B m2 d)) :
    w8.grownBy w9 (some gx) ∧ Arr w9 gx 53 48 (stH most made inV at0 (bkO k (.slice A m1 c) (.slice B m2 d)) op winV over bV at_ toldV) ∧ w9.ownsRow w8.heap.size 3 1 (.slice A m1 c) m1 (ints x1) ∧ w9.ownsRow w8.heap.size 3 1 (.slice B m2 d) m2 (ints x2) := by
  subst hw hk
  have hb8 : Below w8.heap.size w8 wc := Below.undrew hb
  have kc := Arr.below k8 hb8 (Blk.lt k8)
  have g := only_set (only_set (only_self wc gx) 23 (.slice A m1 c)) 40 (.slice B m2 d)
  exact ⟨only_trans (only_of_below hb8) g, (Arr.set ((Arr.set kc 23 (.slice A m1 c)).congr fun i _ => stH_ty1 _ _ _ _ i) 40 (.slice B m2 d)).congr fun i _ => stH_ty2 _ _ _ _ i, own_only oA kc (by decide) g, own_only oB kc (by decide) g⟩
theorem left_at {s1 : Ss} (ho : s1.over = false) : (leftA s1 : Int) = ((s1.a % 8 : Nat) : Int) := by unfold leftA; rw [ho]; rfl
theorem fed_cells_over {most made : Nat} {all : List Nat} {s1 : Ss} {v : Sv} {bV toldV : Value} {at_ : Int} (ho : s1.over = true) (i : Nat) (hi : i < 45) :
    stH (most : Int) ((made + s1.told.length : Nat) : Int) (.slice none 0 0) 0 (bkO s1.k (.slice v.C1 v.m1 v.d1) (.slice v.C2 v.m2 v.d2)) s1.k.isSome (.slice v.A v.nl v.cl) s1.over bV at_ toldV i = (fedV most made all s1 v none 0 0).F i := by
  rw [← fed_cells i hi (bV := bV) (toldV := toldV) (at_ := at_)]
  have : leftA s1 = 0 := by unfold leftA; rw [ho]; rfl
  rw [this]
  rfl
/-- How many bytes are read, when it is over. -/
theorem used_over {s1 : Ss} {nA n T : Nat} (ho : s1.over = true) (ha : s1.a ≤ 8 * T) (hT : T ≤ 100000) (hA : nA ≤ 600) :
    (if 0 < wrap64 (wrap64 ((wrap64 ((s1.a : Int) + 7)).tdiv 8) - (nA : Int)) then wrap64 (wrap64 ((wrap64 ((s1.a : Int) + 7)).tdiv 8) - (nA : Int)) else 0) = ((usedN nA n s1 : Nat) : Int) := by
  have e1 : wrap64 ((s1.a : Int) + 7) = (s1.a : Int) + 7 := IntWalk.wrap64_in _ (by omega)
  rw [e1]
  have e2 : ((s1.a : Int) + 7).tdiv 8 = ((s1.a : Int) + 7) / 8 := Int.tdiv_eq_ediv_of_nonneg (by omega)
  rw [e2]
  have e3 : wrap64 (((s1.a : Int) + 7) / 8) = ((s1.a : Int) + 7) / 8 := IntWalk.wrap64_in _ (by omega)
  rw [e3]
  have e4 : wrap64 (((s1.a : Int) + 7) / 8 - (nA : Int)) = ((s1.a : Int) + 7) / 8 - (nA : Int) := IntWalk.wrap64_in _ (by omega)
  rw [e4]
  unfold usedN
  rw [ho]
  simp only [if_true]
  split <;> omega
section
variable {P : Program}
/-- A part of a row, read. -/
theorem run_mid {o : Oper} {a : Act} {w : World} (ty : TypeId) (x : Operand) (ho : o.op = .load ty x) {g off : Nat} (hx : a.eval x = .pointer (some ⟨g, off, none⟩)) {t : TypeId} {n : Nat} {f : Nat → Value} {d : TypeDesc} (hA : Arr w g t n f) (m : Nat) (hm : off + m ≤ n)
    (hu : P.underlying ty = some d) (hd : d.isRow = true) (hi : (P.info? ty).map (·.size) = some m) (h' : Nat → Value) (he : ∀ k, k < m → f (off + k) = h' k) : (execOp a.eval o).run P w = .ok (.value (.agg (cellsOf m h'))) w := by
  have e : ((List.range m).map fun k => f (off + k)).toArray = cellsOf m h' := cellsOf_congr he
  unfold execOp
  simp only [ho, hx, Instr.loadAt, Instr.sureAddr, Sem.run_bind, Sem.run_pure, Result.andThen_ok, run_loadVar_mid w g off ty _ d (Arr.part hA off m hm) hu hd (by rw [hi]; simp), e]
/-- A row, written over. -/
theorem lands_overw {o : Oper} {a : Act} {w : World} {D : Value → World → Prop} (ty : TypeId) (x y : Operand) (ho : o.op = .store ty x y) {g : Nat} (hx : a.eval x = .pointer (some ⟨g, 0, none⟩)) {t : TypeId} {n : Nat} {f f0 : Nat → Value} (hy : a.eval y = .agg (cellsOf n f))
    (hA : Arr w g t n f0) (hi : (P.info? ty).map (·.size) = some n) (h1 : ∀ k, k < n → (f k).oneCell' = true) (h : ∀ w', Arr w' g t n f → w.grownBy w' (some g) → D undef w') : lands P D ((execOp a.eval o).run P w) := by
  obtain ⟨w', r1, r2, r3⟩ := run_overw (P := P) ty x y ho hx hy hA hi h1
  rw [r1]
  exact h w' r2 r3
end
end Go.Proofs.YtahboomghjdjhaaGreat
