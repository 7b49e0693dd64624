/-
  A dynamic block's lengths, as the document reads them.
-/
import Derived.Test.YtahboomghjdjhaaGreatG04
import Derived.Test.YtahboomghjdjhaaGreatG06
import Derived.Test.YtahboomghjdjhaaGreatG08
import Derived.Test.YtahboomghjdjhaaGreatG37
import Derived.Test.YtahboomghjdjhaaGreatG48
namespace Go.Proofs.YtahboomghjdjhaaGreat
open Go.RowKit

/-- The document's block in memory. -/
structure Bd (w : World) (k : Bk) (A1 : Option Addr) (n1 : Nat) (lo : List Nat) (A2 : Option Addr) (n2 : Nat) (fa : List Nat) : Prop where
  r1 : Rd w A1 (u8s lo)
  l1 : n1 = lo.length
  r2 : Rd w A2 (u8s fa)
  l2 : n2 = fa.length
  code : k.kind ≠ 0 → k.lo = padL lo ∧ k.fa = padL fa ∧ canE lo 15 = 0 ∧ canE fa 15 = 0
theorem Bd.below {w w' : World} {k : Bk} {A1 : Option Addr} {n1 : Nat} {lo : List Nat} {A2 : Option Addr} {n2 : Nat} {fa : List Nat} (h : Bd w k A1 n1 lo A2 n2 fa) (hb : Below w.heap.size w w') : Bd w' k A1 n1 lo A2 n2 fa := ⟨h.r1.below hb, h.l1, h.r2.below hb, h.l2, h.code⟩
abbrev bdC (kind : Int) (last : Bool) (left : Int) (A1 : Option Addr) (n1 c1 : Nat) (A2 : Option Addr) (n2 c2 : Nat) : Array Value := #[.int .u8 kind, .bool last, .int .i64 left, .slice A1 n1 c1, .slice A2 n2 c2]
abbrev bdZ : Array Value := bdC 0 false 0 none 0 0 none 0 0
/-- What the reading of a block's head answers. -/
def BdRes (w w' : World) (p : Pa Bk) (b : List Nat) (a : Nat) (e : Ending) : Prop := Below w.heap.size w w' ∧ match p b a with
  | .error x => x ≠ 0 ∧ e = .returned (.tuple #[.agg bdZ, .int .i64 0, .int .i64 ((x : Nat) : Int)])
  | .ok (k, m) => ∃ A1 n1 c1 lo A2 n2 c2 fa, e = .returned (.tuple #[.agg (bdC ((k.kind : Nat) : Int) k.last ((k.left : Nat) : Int) A1 n1 c1 A2 n2 c2), .int .i64 ((m : Nat) : Int), .int .i64 0]) ∧ Bd w' k A1 n1 lo A2 n2 fa ∧ (∀ ad, A1 = some ad → w.heap.size ≤ ad.block) ∧ ∀ ad, A2 = some ad → w.heap.size ≤ ad.block
theorem shA_ok {n : Nat} {b : List Nat} {a m : Nat} {row : List Nat} (h : shA n b a = .ok (row, m)) : shP n 0 (List.replicate 19 0) b a = .ok (row, m) ∧ canE row 7 = 0 ∧ kraft row = 32768 ∧ row.length = 19 := by
  unfold shA at h
  obtain ⟨r, m1, h1, h2⟩ := paBind_inv h
  by_cases hc : canE r 7 ≠ 0 ∨ kraft r ≠ 32768
  · rw [if_pos hc] at h2; cases h2
  · rw [if_neg hc] at h2
    cases h2
    refine ⟨h1, Classical.not_not.1 fun e => hc (.inl e), Classical.not_not.1 fun e => hc (.inr e), ?_⟩
    rw [fe_sh_len _ _ _ _ _ _ _ h1, List.length_replicate]
theorem sh_bind {last : Bool} {longs fars n : Nat} {b : List Nat} {a : Nat} : paBind (shP n 0 (List.replicate 19 0)) (dxP last longs fars) b a = paBind (shA n) (fun row => paBind (lgP (longs + fars) row (longs + fars) []) (dzP last longs)) b a := by
  cases h : shP n 0 (List.replicate 19 0) b a with
  | error x =>
    have hA : shA n b a = .error x := by unfold shA; exact paBind_no h
    rw [paBind_no h, paBind_no hA]
  | ok r =>
    obtain ⟨row, m⟩ := r
    by_cases hc : canE row 7 ≠ 0 ∨ kraft row ≠ 32768
    · have hA : shA n b a = .error 132 := by unfold shA; rw [paBind_ok h, if_pos hc]; rfl
      rw [paBind_ok h, paBind_no hA]
      unfold dxP
      rw [if_pos hc]
      rfl
    · have hA : shA n b a = .ok (row, m) := by unfold shA; rw [paBind_ok h, if_neg hc]; rfl
      rw [paBind_ok h, paBind_ok hA]
      unfold dxP
      rw [if_neg hc]
theorem shP_e : ∀ k i row b a x, shP k i row b a = .error x → x = 10
  | 0, _, _, _, _, _, h => by cases h
  | k + 1, i, row, b, a, x, h => by
    cases ht : tkP 3 b a with
    | error y =>
      have h2 : shP (k + 1) i row b a = .error y := paBind_no ht
      rw [h2] at h
      injection h with h
      rw [← h]
      exact fe_tk_err ht
    | ok r =>
      obtain ⟨v, m⟩ := r
      have h2 : shP (k + 1) i row b a = shP k (i + 1) (row.set (nth orderL i) v) b m := paBind_ok ht
      rw [h2] at h
      exact shP_e k _ _ _ _ _ h
theorem sh_err {n : Nat} {b : List Nat} {a x : Nat} (h : shA n b a = .error x) : x ≠ 0 := by
  unfold shA at h
  cases hs : shP n 0 (List.replicate 19 0) b a with
  | error y =>
    rw [paBind_no hs] at h
    injection h with h
    have := shP_e _ _ _ _ _ _ hs
    omega
  | ok r =>
    obtain ⟨row, m⟩ := r
    rw [paBind_ok hs] at h
    split at h
    · injection h with h; omega
    · cases h
theorem bd_five {W : World} {g : Nat} {t : TypeId} {kind : Int} {last : Bool} {left : Int} {A1 : Option Addr} {n1 c1 : Nat} {A2 : Option Addr} {n2 c2 : Nat} (k : Blk W g t (bdC kind last left A1 n1 c1 A2 n2 c2)) (v0 v1 v2 v3 v4 : Value) :
    Blk (((((W.setCell ⟨g, 0, none⟩ v0).setCell ⟨g, 1, none⟩ v1).setCell ⟨g, 2, none⟩ v2).setCell ⟨g, 3, none⟩ v3).setCell ⟨g, 4, none⟩ v4) g t #[v0, v1, v2, v3, v4] ∧ W.grownBy (((((W.setCell ⟨g, 0, none⟩ v0).setCell ⟨g, 1, none⟩ v1).setCell ⟨g, 2, none⟩ v2).setCell ⟨g, 3, none⟩ v3).setCell ⟨g, 4, none⟩ v4) (some g) :=
  ⟨((((k.set_ 0 v0).set_ 1 v1).set_ 2 v2).set_ 3 v3).set_ 4 v4, only_set (only_set (only_set (only_set (only_set (only_self W g) 0 v0) 1 v1) 2 v2) 3 v3) 4 v4⟩
theorem tk_u8s (l : List Nat) (k : Nat) : (u8s l).take k = u8s (l.take k) := by simp [u8s, List.map_take]
theorem dr_u8s (l : List Nat) (k : Nat) : (u8s l).drop k = u8s (l.drop k) := by simp [u8s, List.map_drop]
/-- What could be read of a row is read where another block turns. -/
theorem rd_far {w w' : World} {g : Nat} {A : Option Addr} {xs : List Value} (h : Rd w A xs) (hg : w.grownBy w' (some g)) (hA : ∀ ad, A = some ad → ad.block ≠ g) : Rd w' A xs := by
  refine ⟨fun hn => ?_, h.2⟩
  obtain ⟨b, off, e, hc⟩ := h.1 hn
  refine ⟨b, off, e, fun i u hu => ?_⟩
  have hcu := hc i u hu
  have hlt := cell_lt hcu
  rw [← hcu]
  unfold World.cell?
  show (match w'.heap[b]? with | _ => _) = (match w.heap[b]? with | _ => _)
  rw [hg.block b hlt (fun e' => by injection e' with e'; exact hA _ e e')]
/-- 's[k:]', and the block where it lies. -/
theorem tailsB {P : Program} {ops : Array Oper} {rest : List Oper} {o : Oper} {a : Act} {w : World} {Q : Exit → Act → World → Prop} (hgd : o.guard = none) (x lo : Operand) {t e : TypeId} (ho : o.op = .slice t x (some lo) none none)
    (ht : P.underlying t = some (.slice e)) (hs : (P.info? e).map (·.size) = some 1) {A : Option Addr} {n c : Nat} (hx : a.eval x = .slice A n c) {i : Int} (hlo : a.eval lo = .int .i64 i) (k : Nat) (hk : i = (k : Int)) (hkn : k ≤ n) (hnc : n ≤ c)
    (h : ∀ A', Tails 1 k A A' n → (∀ ad, A' = some ad → ∃ ad0, A = some ad0 ∧ ad.block = ad0.block) → wpList P ops Q rest (a.put o.dst (.slice A' (n - k) (c - k))) w) : wpList P ops Q (o :: rest) a w :=
  wpList_plain hgd fun _ hK => by
    subst hk
    have hsz : (sizeOf e).run P w = .ok 1 w := by
      cases hq : P.info? e with
      | none => simp [hq] at hs
      | some ti =>
        have : ti.size = 1 := by simpa [hq] using hs
        simp [sizeOf, typeInfo, hq, this]
    obtain ⟨A', h1, h2, h3⟩ : ∃ A', (Instr.slice t (.slice A n c) (some (.int .i64 (k : Int))) none none).run P w = .ok (.slice A' (n - k) (c - k)) w ∧ Tails 1 k A A' n ∧ ∀ ad, A' = some ad → ∃ ad0, A = some ad0 ∧ ad.block = ad0.block := by
      by_cases hc : c = k
      · refine ⟨A, ?_, ?_, fun ad h => ⟨ad, h, rfl⟩⟩
        · have hnk : n = k := by omega
          subst hc hnk
          simp [Instr.slice, run_underlying ht, Instr.sliceBounds, run_sliceBound, hsz]
        · intro w xs hr hl
          have : xs.drop (k * 1) = [] := List.drop_eq_nil_of_le (by omega)
          rw [this]
          exact ⟨fun hn => by simp at hn, fun _ => rfl⟩
      · refine ⟨A.map (fun x => x.add (k * 1)), ?_, fun w xs hr _ => hr.drop _, fun ad h => ?_⟩
        · simp [Instr.slice, run_underlying ht, Instr.sliceBounds, run_sliceBound, hsz, hkn]
          intro h
          omega
        · cases A with
          | none => cases h
          | some x =>
            refine ⟨x, rfl, ?_⟩
            injection h with h
            rw [← h]
            unfold Addr.add
            split <;> rfl
    unfold Oper.wp execOp
    simp only [ho, hx, hlo, Option.map_some, Option.map_none, Instr.sliceAt, run_underlying ht, h1, Sem.run_bind, Sem.run_pure, Result.andThen_ok]
    exact hK _ _ (h A' h2 h3)
/-- s[:k], in a plain region. -/
theorem uptos {P : Program} {ops : Array Oper} {rest : List Oper} {o : Oper} {a : Act} {w : World} {Q : Exit → Act → World → Prop} {t e : TypeId} (hgd : o.guard = none) (x hi : Operand) (ho : o.op = .slice t x none (some hi) none) (ht : P.underlying t = some (.slice e)) (hs : (P.info? e).map (·.size) = some 1) {A : Option Addr} {n c k : Nat} (hx : a.eval x = .slice A n c) (hhi : a.eval hi = .int .i64 (k : Int)) (hk : k ≤ c)
    (h : wpList P ops Q rest (a.put o.dst (.slice A k c)) w) : wpList P ops Q (o :: rest) a w :=
  wpList_plain hgd fun _ hK => by
    have hsz : (sizeOf e).run P w = .ok 1 w := by
      cases hq : P.info? e with
      | none => simp [hq] at hs
      | some ti =>
        have : ti.size = 1 := by simpa [hq] using hs
        simp [sizeOf, typeInfo, hq, this]
    have hrun : (Instr.slice t (.slice A n c) none (some (.int .i64 (k : Int))) none).run P w = .ok (.slice A k c) w := by
      cases A with
      | none => simp [Instr.slice, run_underlying ht, Instr.sliceBounds, run_sliceBound, hsz, hk]
      | some x =>
        simp [Instr.slice, run_underlying ht, Instr.sliceBounds, run_sliceBound, hsz, hk]
        intro _
        obtain ⟨b, off, p⟩ := x
        cases p <;> simp [Addr.add]
    unfold Oper.wp execOp
    simp only [ho, hx, hhi, Option.map_some, Option.map_none, Instr.sliceAt, run_underlying ht, hrun, Sem.run_bind, Sem.run_pure, Result.andThen_ok]
    exact hK _ _ h
theorem bd_size : (Tryz.prog.info? 67).map (·.size) = some 5 := by kernel_rfl

set_option maxRecDepth 100000 in
set_option maxHeartbeats 1500000 in
theorem rdyn13_any (last : Bool) (B : Option Addr) (n c : Nat) (b : List Nat) (a : Nat) (w : World) (hB : Bs w B b) (hn : n = b.length) (hm : n ≤ 100000) (ha : a ≤ 8 * n) :
    Calls Tryz.prog 49 #[.agg (bdC 2 last 0 none 0 0 none 0 0), .slice B n c, .int .i64 (a : Int)] w fun e w' => BdRes w w' (dyP last) b a e := by
  have HT := Lib.hid fun wx (hb : Below w.heap.size w wx) => (rtakeP B n c b a 14 wx (hB.below hb) hn (by omega) (by omega) (by omega) : Calls Tryz.prog 48 #[.slice B n c, .int .i64 (a : Int), .int .i64 14] wx fun e w' => TkpRes b a 14 e ∧ wx = w')
  have HS := Lib.hid fun wx (at_ k : Nat) (hb : Below w.heap.size w wx) (h1 : k ≤ 19) (h2 : at_ ≤ 10000000) => rshorts_any B n c b at_ k wx (hB.below hb) hn hm h1 h2
  have HL := Lib.hid fun wx (C : Option Addr) (cc : Nat) (row : List Nat) (at_ N : Nat) (hb : Below w.heap.size w wx) (hC : Rd wx C (u8s row)) (h1 : row.length = 19) (h2 : canE row 7 = 0) (h3 : N ≤ 320) (h4 : at_ ≤ 8 * n) => rlengths13_any C cc row B n c b at_ N wx hC h1 h2 (hB.below hb) hn hm h3 h4
  have HN := Lib.hid hn
  clear hB hn
  go_enter Tryz.func49, Tryz.ntmps49
  go_upto_region 1 with fail
  have hb0 : Below w.heap.size w ((w.alloc (.cells (bdC 2 last 0 none 0 0 none 0 0) 67)).alloc (.cells bdZ 67)) := ((Below.refl _ _).alloc (Nat.le_refl _) _).alloc (by simp) _
  have k3 : Blk ((w.alloc (.cells (bdC 2 last 0 none 0 0 none 0 0) 67)).alloc (.cells bdZ 67)) w.heap.size 67 (bdC 2 last 0 none 0 0 none 0 0) := Blk.alloc (Blk.new _ _ _) _
  have k6 : Blk ((w.alloc (.cells (bdC 2 last 0 none 0 0 none 0 0) 67)).alloc (.cells bdZ 67)) (w.heap.size + 1) 67 bdZ := Blk.new' _ _ _ _ (by simp)
  change Code.wp _ _ _ _ ((w.alloc (.cells (bdC 2 last 0 none 0 0 none 0 0) 67)).alloc (.cells bdZ 67))
  generalize (w.alloc (.cells (bdC 2 last 0 none 0 0 none 0 0) 67)).alloc (.cells bdZ 67) = w1 at *
  obtain ⟨g6, hg6⟩ : ∃ g, w.heap.size + 1 = g := ⟨_, rfl⟩
  rw [hg6] at k6
  rw [hg6]
  obtain ⟨g3, hg3⟩ : ∃ g, w.heap.size = g := ⟨_, rfl⟩
  rw [hg3] at k3
  rw [hg3]
  have hne : g3 ≠ g6 := by omega
  have HG := Lib.hid (And.intro hg3 hg6)
  clear hg3 hg6
  have HTT := Lib.hid (HT.out w1 hb0)
  unfold TkpRes at HTT
  have ct6 := Blk.cells k6
  have fx6 := Blk.frozens k6
  cases htk : tkP 14 b a with
  | error x =>
    rw [htk] at HTT
    obtain rfl := fe_tk_err htk
    have HE := Lib.hid (show dyP last b a = .error 10 from paBind_no htk)
    clear htk
    go_wp2_with (go_at_call 48; refine HTT.out.mono ?_; rintro e w' ⟨rfl, rfl⟩)
    obtain ⟨k9, g9⟩ := bd_five k6 (.int .u8 0) (.bool false) (.int .i64 0) (.slice none 0 0) (.slice none 0 0)
    refine bodyPost_ret (results_three Tryz.results49 _ _ g6 67 bdZ _ _ _ rfl rfl rfl k9 Tryz.underlying67 rfl bd_size) rfl ?_
    unfold BdRes
    rw [HE.out]
    exact ⟨Below.then_only hb0 g9 hb0.size (by have := HG.out; omega), by decide, rfl⟩
  | ok r =>
    obtain ⟨v, m1⟩ := r
    rw [htk] at HTT
    obtain ⟨hv, hm1, hm1b⟩ := fe_tk_inv htk
    go_upto_region 5 with (go_at_call 48; refine HTT.out.mono ?_; rintro e w' ⟨rfl, rfl⟩)
    have hv' : v < 16384 := hv
    obtain ⟨lo, hlo⟩ : ∃ x, v % 32 + 257 = x := ⟨_, rfl⟩
    obtain ⟨fr, hfr⟩ : ∃ x, v / 32 % 32 + 1 = x := ⟨_, rfl⟩
    obtain ⟨sh, hsh⟩ : ∃ x, v / 1024 + 4 = x := ⟨_, rfl⟩
    have hdy : dyP last b a = dvP last v b m1 := paBind_ok htk
    unfold dvP at hdy
    rw [hlo, hfr, hsh] at hdy
    rw [show (v : Int) % 32 + 257 = (lo : Int) by omega, show (v : Int) / 32 % 32 + 1 = (fr : Int) by omega, show (v : Int) / 1024 + 4 = (sh : Int) by omega]
    have hlo2 : 257 ≤ lo ∧ lo ≤ 288 := by omega
    have hfr2 : 1 ≤ fr ∧ fr ≤ 32 := by omega
    have hsh2 : sh ≤ 19 := by omega
    have hm1n : m1 ≤ 8 * n := by rw [HN.out]; omega
    clear HTT htk hv hv' hlo hfr hsh
    generalize (v : Int) % 32 = z1 at *
    generalize (v : Int) / 32 = z2 at *
    generalize (v : Int) / 1024 = z3 at *
    by_cases hbig : 286 < lo ∨ 30 < fr
    · have HE := Lib.hid (show dyP last b a = .error 132 by rw [hdy, if_pos hbig]; rfl)
      clear hdy
      by_cases h1 : 286 < lo
      · have q1 : decide ((286 : Int) < (lo : Int)) = true := decide_eq_true (by omega)
        have q1' : decide (286 < lo) = true := decide_eq_true h1
        clear hbig h1
        go_wp2_with fail
        obtain ⟨k9, g9⟩ := bd_five k6 (.int .u8 0) (.bool false) (.int .i64 0) (.slice none 0 0) (.slice none 0 0)
        refine bodyPost_ret (results_three Tryz.results49 _ _ g6 67 bdZ _ _ _ rfl rfl rfl k9 Tryz.underlying67 rfl bd_size) rfl ?_
        unfold BdRes
        rw [HE.out]
        exact ⟨Below.then_only hb0 g9 hb0.size (by have := HG.out; omega), by decide, rfl⟩
      · have q1 : decide ((286 : Int) < (lo : Int)) = false := decide_eq_false (by omega)
        have q1' : decide (286 < lo) = false := decide_eq_false h1
        have q2 : decide ((30 : Int) < (fr : Int)) = true := decide_eq_true (by omega)
        have q2' : decide (30 < fr) = true := decide_eq_true (by omega)
        clear hbig h1
        go_wp2_with fail
        obtain ⟨k9, g9⟩ := bd_five k6 (.int .u8 0) (.bool false) (.int .i64 0) (.slice none 0 0) (.slice none 0 0)
        refine bodyPost_ret (results_three Tryz.results49 _ _ g6 67 bdZ _ _ _ rfl rfl rfl k9 Tryz.underlying67 rfl bd_size) rfl ?_
        unfold BdRes
        rw [HE.out]
        exact ⟨Below.then_only hb0 g9 hb0.size (by have := HG.out; omega), by decide, rfl⟩
    · have q1 : decide ((286 : Int) < (lo : Int)) = false := decide_eq_false (by omega)
      have q1' : decide (286 < lo) = false := decide_eq_false (by omega)
      have q2 : decide ((30 : Int) < (fr : Int)) = false := decide_eq_false (by omega)
      have q2' : decide (30 < fr) = false := decide_eq_false (by omega)
      rw [if_neg hbig, sh_bind] at hdy
      have em : (a : Int) + 14 = (m1 : Int) := by omega
      have HSS := Lib.hid (HS.out w1 m1 sh hb0 hsh2 (by omega))
      unfold ShRes at HSS
      have hlf : lo + fr ≤ 320 := by omega
      have elf : (lo : Int) + (fr : Int) = ((lo + fr : Nat) : Int) := by omega
      clear hbig hm1 hm1b
      cases hsA : shA sh b m1 with
      | error x =>
        rw [hsA] at HSS
        have HE := Lib.hid (show dyP last b a = .error x by rw [hdy]; exact paBind_no hsA)
        have hx0 : x ≠ 0 := sh_err hsA
        have hx1 : ((x : Int) != 0) = true := by rw [bne_iff_ne]; omega
        clear hdy hsA
        go_wp2_with (go_at_call 65; refine HSS.out.mono ?_; rintro e w3 ⟨hb13, rfl⟩; have k6' := Blk.below k6 hb13 (Blk.lt k6); have ct6' := Blk.cells k6'; have fx6' := Blk.frozens k6')
        have hb3 := hb0.trans (hb13.mono hb0.size)
        obtain ⟨k9, g9⟩ := bd_five k6' (.int .u8 0) (.bool false) (.int .i64 0) (.slice none 0 0) (.slice none 0 0)
        refine bodyPost_ret (results_three Tryz.results49 _ _ g6 67 bdZ _ _ _ rfl rfl rfl k9 Tryz.underlying67 rfl bd_size) rfl ?_
        unfold BdRes
        rw [HE.out]
        exact ⟨Below.then_only hb3 g9 hb3.size (by have := HG.out; omega), hx0, rfl⟩
      | ok r =>
        obtain ⟨row, m2⟩ := r
        rw [hsA] at HSS
        obtain ⟨hs1, hs2, hs3, hs4⟩ := shA_ok hsA
        have hm2 : m2 ≤ 8 * n := by
          have h := ((shP_gd _ _ _).ok _ _ _ _ hs1).2.2 (by rw [← HN.out]; exact hm1n)
          rw [HN.out]
          exact h
        rw [paBind_ok hsA] at hdy
        clear hs1 hs3 hsA
        go_upto_region 10 with (go_at_call 65; refine HSS.out.mono ?_; rintro e w3 ⟨hb13, Ar, dr, rfl, hrr⟩)
        have hb3 := hb0.trans (hb13.mono hb0.size)
        have k6' := Blk.below k6 hb13 (Blk.lt k6)
        have k3' := Blk.below k3 hb13 (Blk.lt k3)
        clear ct6 fx6 k6 k3 hb13 hb0 HSS
        have ct6 := Blk.cells k6'
        have fx6 := Blk.frozens k6'
        have HLL := Lib.hid (HL.out w3 Ar dr row m2 (lo + fr) hb3 hrr hs4 hs2 hlf hm2)
        unfold FeLg at HLL
        clear hrr hs2 hs4
        rw [show (lo + fr : Nat) = lo + fr from rfl] at hdy
        cases hlg : lgP (lo + fr) row (lo + fr) [] b m2 with
        | error x =>
          rw [hlg] at HLL
          have HE := Lib.hid (show dyP last b a = .error x by rw [hdy]; exact paBind_no hlg)
          clear hdy hlg
          obtain ⟨N, hN⟩ : ∃ N, lo + fr = N := ⟨_, rfl⟩
          rw [hN] at HLL elf hlf
          clear hN
          go_wp2_with (go_at_call 66; refine HLL.out.mono ?_; rintro e w4 ⟨hb34, hx0, rfl⟩; have k6'' := Blk.below k6' hb34 (Blk.lt k6'); have ct6' := Blk.cells k6''; have fx6' := Blk.frozens k6''; have hx1 : ((x : Int) != 0) = true := (by rw [bne_iff_ne]; omega))
          have hb4 := hb3.trans (hb34.mono hb3.size)
          obtain ⟨k9, g9⟩ := bd_five k6'' (.int .u8 0) (.bool false) (.int .i64 0) (.slice none 0 0) (.slice none 0 0)
          refine bodyPost_ret (results_three Tryz.results49 _ _ g6 67 bdZ _ _ _ rfl rfl rfl k9 Tryz.underlying67 rfl bd_size) rfl ?_
          unfold BdRes
          rw [HE.out]
          exact ⟨Below.then_only hb4 g9 hb4.size (by have := HG.out; omega), hx0, rfl⟩
        | ok r =>
          obtain ⟨all, m3⟩ := r
          rw [hlg] at HLL
          rw [paBind_ok hlg] at hdy
          obtain ⟨N, hN⟩ : ∃ N, lo + fr = N := ⟨_, rfl⟩
          rw [hN] at HLL elf hlf
          clear hlg
          go_upto_region 13 with (go_at_call 66; refine HLL.out.mono ?_; rintro e w4 ⟨hb34, Aa, da, rfl, hoa, hal, hay⟩)
          have hcap := own_cap hoa
          have hra := own_rd hoa
          have hb4 := hb3.trans (hb34.mono hb3.size)
          have hb3s := hb3.size
          have k6'' := Blk.below k6' hb34 (Blk.lt k6')
          have k3'' := Blk.below k3' hb34 (Blk.lt k3')
          clear ct6 fx6 k6' k3' hb34 hb3 HLL
          have hloN : lo ≤ N := by omega
          have hloc : lo ≤ da := by omega
          have fx3 := Blk.frozens k3''
          have ct3 := Blk.cells k3''
          obtain ⟨bA, oA, rfl, hcA⟩ := hra.at_ (by rw [u8s_length, hal]; omega)
          have c256 := hcA 256 _ (u8s_get all 256 (by rw [hal]; omega))
          obtain ⟨z, hz⟩ : ∃ z, nth all 256 = z := ⟨_, rfl⟩
          rw [hz] at c256
          have hz256 : z < 256 := by rw [← hz]; exact nth_lt hay (by omega) _
          have HZ := Lib.hid (And.intro hz (And.intro hN hal))
          clear hz hN hcA
          go_upto_region 14 with (refine uptos rfl (.tmp 76) (.tmp 77) rfl Tryz.underlying22 (by kernel_rfl) rfl rfl hloc ?_)
          have k3a := Blk.set_ k3'' 3 (.slice (some ⟨bA, oA, none⟩) lo da)
          have gA := only_set (only_self w4 g3) 3 (.slice (some ⟨bA, oA, none⟩) lo da)
          clear fx3 ct3
          have fx3 := Blk.frozens k3a
          have ct3 := Blk.cells k3a
          generalize w4.setCell ⟨g3, 3, none⟩ (.slice (some ⟨bA, oA, none⟩) lo da) = w5 at *
          go_upto_region 15 with (refine tailsB rfl (.tmp 80) (.tmp 81) rfl Tryz.underlying22 (by kernel_rfl) rfl rfl lo rfl hloN hcap ?_; intro A' hA' hAB)
          have gB := only_set gA 4 (.slice A' (N - lo) (da - lo))
          have k3b := Blk.set_ k3a 4 (.slice A' (N - lo) (da - lo))
          clear fx3 ct3
          generalize w5.setCell ⟨g3, 4, none⟩ (.slice A' (N - lo) (da - lo)) = w6 at *
          replace k3b : Blk w6 g3 67 (bdC 2 last 0 (some ⟨bA, oA, none⟩) lo da A' (N - lo) (da - lo)) := k3b
          have k6b := Blk.grown k6'' gB (by intro e; injection e with e; omega)
          have hoa6 := own_only hoa k3'' (by decide) gB
          have hb6 : Below w.heap.size w w6 := Below.then_only hb4 gB hb4.size (by have := HG.out; omega)
          have hra6 := own_rd hoa6
          have c256' : w6.cell? ⟨bA, oA + 256, none⟩ = some (.int .u8 (z : Int)) := by
            obtain ⟨b', off', he', hcell⟩ := hra6.at_ (by rw [u8s_length, HZ.out.2.2]; omega)
            simp only [Option.some.injEq, Addr.mk.injEq, and_true] at he'
            obtain ⟨rfl, rfl⟩ := he'
            have h := hcell 256 _ (u8s_get all 256 (by rw [HZ.out.2.2]; omega))
            rw [HZ.out.1] at h
            exact h
          have hrd1 : Rd w6 (some ⟨bA, oA, none⟩) (u8s (all.take lo)) := by
            rw [show u8s (all.take lo) = (u8s all).take lo by simp [u8s, List.map_take]]
            exact hra6.take lo
          have hrd2 : Rd w6 A' (u8s (all.drop lo)) := by
            have h := hA' w6 (u8s all) hra6 (by rw [u8s_length, HZ.out.2.2, Nat.mul_one])
            rw [Nat.mul_one] at h
            rw [show u8s (all.drop lo) = (u8s all).drop lo by simp [u8s, List.map_drop]]
            exact h
          have hl1 : (all.take lo).length = lo := by rw [List.length_take, HZ.out.2.2]; omega
          have hl2 : (all.drop lo).length = N - lo := by rw [List.length_drop, HZ.out.2.2]
          have HC1 := Lib.hid (by have h := rcheck_any (some ⟨bA, oA, none⟩) da (all.take lo) 15 w6 (rd_u8 hrd1 (fun x hx => hay x (List.mem_of_mem_take hx))) (by omega) (by omega) (by omega); rw [hl1] at h; exact h)
          have HC2 := Lib.hid (by have h := rcheck_any A' (da - lo) (all.drop lo) 15 w6 (rd_u8 hrd2 (fun x hx => hay x (List.mem_of_mem_drop hx))) (by omega) (by omega) (by omega); rw [hl2] at h; exact h)
          have HO6 := Lib.hid hoa6
          have hbA : w.heap.size ≤ bA := by
            obtain ⟨g', hg', hge⟩ := own_at hoa6 (by omega)
            injection hg' with hg'
            injection hg' with hg' _ _
            have := hb3s
            omega
          have HAB := Lib.hid (And.intro hbA hAB)
          clear hbA hAB
          have HT2 := Lib.hid (fun (wx : World) (h : Rd wx (some ⟨bA, oA, none⟩) (u8s all)) => show Rd wx A' (u8s (all.drop lo)) from by
            have h2 := hA' wx (u8s all) h (by rw [u8s_length, HZ.out.2.2, Nat.mul_one])
            rw [Nat.mul_one] at h2
            rw [← dr_u8s]
            exact h2)
          have HD := Lib.hid (And.intro hrd1 (And.intro hl1 (And.intro hrd2 (And.intro hl2 hb6))))
          unfold dzP at hdy
          rw [HZ.out.1] at hdy
          obtain ⟨E1, hE1⟩ : ∃ E, canE (all.take lo) 15 = E := ⟨_, rfl⟩
          obtain ⟨E2, hE2⟩ : ∃ E, canE (all.drop lo) 15 = E := ⟨_, rfl⟩
          rw [hE1] at HC1 hdy
          rw [hE2] at HC2 hdy
          have HEE := Lib.hid (And.intro hE1 hE2)
          clear hE1 hE2 hrd1 hrd2 hl1 hl2 hra6 hoa6 hoa hra hA' gA gB k3a k3'' k6'' c256 hb4 hay hal
          have ct3 := Blk.cells k3b
          have ct6 := Blk.cells k6b
          have fx6 := Blk.frozens k6b
          have hoff : oA + 256 = oA + 256 := rfl
          have h256 : (256 : Int) < (lo : Int) := by omega
          have h256' : 256 < lo := by omega
          by_cases hz0 : z = 0
          · have HE := Lib.hid (show dyP last b a = .error 132 by rw [hdy, if_pos (.inl hz0)]; rfl)
            clear hdy
            have q0 : ((z : Int) == 0) = true := by rw [hz0]; rfl
            clear hz0
            go_wp2_with fail
            obtain ⟨k9, g9⟩ := bd_five k6b (.int .u8 0) (.bool false) (.int .i64 0) (.slice none 0 0) (.slice none 0 0)
            refine bodyPost_ret (results_three Tryz.results49 _ _ g6 67 bdZ _ _ _ rfl rfl rfl k9 Tryz.underlying67 rfl bd_size) rfl ?_
            unfold BdRes
            rw [HE.out]
            exact ⟨Below.then_only hb6 g9 hb6.size (by have := HG.out; omega), by decide, rfl⟩
          · have q0 : ((z : Int) == 0) = false := by rw [beq_eq_false_iff_ne]; omega
            by_cases h1 : E1 = 0
            · subst h1
              by_cases h2 : E2 = 0
              · subst h2
                have HE := Lib.hid (show dyP last b a = .ok (⟨2, last, 0, padL (all.take lo), padL (all.drop lo)⟩, m3) by rw [hdy, if_neg (by omega)]; rfl)
                clear hdy hz0
                go_wp2_with (first
                  | (go_at_call 63; with_reducible refine HC1.out.mono ?_; rintro e w' ⟨rfl, rfl⟩)
                  | (go_at_call 63; with_reducible refine HC2.out.mono ?_; rintro e w' ⟨rfl, rfl⟩))
                obtain ⟨k9, g9⟩ := bd_five k6b (.int .u8 2) (.bool last) (.int .i64 0) (.slice (some ⟨bA, oA, none⟩) lo da) (.slice A' (N - lo) (da - lo))
                refine bodyPost_ret (results_three Tryz.results49 _ _ g6 67 _ _ _ _ rfl rfl rfl k9 Tryz.underlying67 rfl bd_size) rfl ?_
                have hbz := own_only HO6.out k6b (by decide) g9
                unfold BdRes
                rw [HE.out]
                exact ⟨Below.then_only hb6 g9 hb6.size (by have := HG.out; omega), some ⟨bA, oA, none⟩, lo, da, all.take lo, A', N - lo, da - lo, all.drop lo, rfl, ⟨by rw [← tk_u8s]; exact (own_rd hbz).take lo, HD.out.2.1.symm, HT2.out _ (own_rd hbz), HD.out.2.2.2.1.symm, fun _ => ⟨rfl, rfl, HEE.out.1, HEE.out.2⟩⟩, fun ad h => (by injection h with h; rw [← h]; exact HAB.out.1), fun ad h => (by obtain ⟨ad0, h1, h2⟩ := HAB.out.2 ad h; injection h1 with h1; rw [h2, ← h1]; exact HAB.out.1)⟩
              · have q2 : ((E2 : Int) != 0) = true := by rw [bne_iff_ne]; omega
                have HE := Lib.hid (show dyP last b a = .error 132 by rw [hdy, if_pos (.inr (.inr h2))]; rfl)
                clear hdy hz0 h2
                go_wp2_with (first
                  | (go_at_call 63; with_reducible refine HC1.out.mono ?_; rintro e w' ⟨rfl, rfl⟩)
                  | (go_at_call 63; with_reducible refine HC2.out.mono ?_; rintro e w' ⟨rfl, rfl⟩))
                obtain ⟨k9, g9⟩ := bd_five k6b (.int .u8 0) (.bool false) (.int .i64 0) (.slice none 0 0) (.slice none 0 0)
                refine bodyPost_ret (results_three Tryz.results49 _ _ g6 67 bdZ _ _ _ rfl rfl rfl k9 Tryz.underlying67 rfl bd_size) rfl ?_
                unfold BdRes
                rw [HE.out]
                exact ⟨Below.then_only hb6 g9 hb6.size (by have := HG.out; omega), by decide, rfl⟩
            · have q1 : ((E1 : Int) != 0) = true := by rw [bne_iff_ne]; omega
              have HE := Lib.hid (show dyP last b a = .error 132 by rw [hdy, if_pos (.inr (.inl h1))]; rfl)
              clear hdy hz0 h1
              go_wp2_with (go_at_call 63; with_reducible refine HC1.out.mono ?_; rintro e w' ⟨rfl, rfl⟩)
              obtain ⟨k9, g9⟩ := bd_five k6b (.int .u8 0) (.bool false) (.int .i64 0) (.slice none 0 0) (.slice none 0 0)
              refine bodyPost_ret (results_three Tryz.results49 _ _ g6 67 bdZ _ _ _ rfl rfl rfl k9 Tryz.underlying67 rfl bd_size) rfl ?_
              unfold BdRes
              rw [HE.out]
              exact ⟨Below.then_only hb6 g9 hb6.size (by have := HG.out; omega), by decide, rfl⟩
end Go.Proofs.YtahboomghjdjhaaGreat

/-
  A block with its lengths, and with its trees: there and back, by the document.
-/
namespace Go.Proofs.YtahboomghjdjhaaGreat
open Go.RowKit

/-- A block held with its trees. -/
structure OfV (w : World) (k : Bk) (C1 : Option Addr) (m1 d1 : Nat) (C2 : Option Addr) (m2 d2 : Nat) : Prop where
  r1 : Rd w C1 (ints (trX k k.lo))
  l1 : m1 = (trX k k.lo).length
  c1 : m1 ≤ d1
  r2 : Rd w C2 (ints (trX k k.fa))
  l2 : m2 = (trX k k.fa).length
  c2 : m2 ≤ d2
def OfRes (w w' : World) (k : Bk) (e : Ending) : Prop := Below w.heap.size w w' ∧ ∃ C1 m1 d1 C2 m2 d2, e = .returned (.agg (cellsOf 37 (bkC k (.slice C1 m1 d1) (.slice C2 m2 d2)))) ∧ OfV w' k C1 m1 d1 C2 m2 d2 ∧ w'.ownsRow w.heap.size 3 1 (.slice C1 m1 d1) m1 (ints (trX k k.lo)) ∧ w'.ownsRow w.heap.size 3 1 (.slice C2 m2 d2) m2 (ints (trX k k.fa))
def BackRes (w w' : World) (k : Bk) (e : Ending) : Prop := Below w.heap.size w w' ∧ ∃ A1 n1 c1 A2 n2 c2, e = .returned (.agg (bdC ((k.kind : Nat) : Int) k.last ((k.left : Nat) : Int) A1 n1 c1 A2 n2 c2)) ∧ Bd w' k A1 n1 k.lo A2 n2 k.fa ∧ (∀ ad, A1 = some ad → w.heap.size ≤ ad.block) ∧ ∀ ad, A2 = some ad → w.heap.size ≤ ad.block

theorem own_ge {w : World} {base e size n c : Nat} {A : Option Addr} {xs : List Value} (h : w.ownsRow base e size (.slice A n c) n xs) (hn : 0 < n) : ∀ ad, A = some ad → base ≤ ad.block := fun ad e => by
  obtain ⟨g, rfl, hg⟩ := own_at h hn
  cases e
  exact hg
set_option maxRecDepth 100000 in
set_option maxHeartbeats 1500000 in
theorem rback_any (k : Bk) (hk : BkOk k) (C1 : Option Addr) (m1 d1 : Nat) (C2 : Option Addr) (m2 d2 : Nat) (w : World) (hv : OfV w k C1 m1 d1 C2 m2 d2) :
    Calls Tryz.prog 32 #[.agg (cellsOf 37 (bkC k (.slice C1 m1 d1) (.slice C2 m2 d2)))] w fun e w' => BackRes w w' k e := by
  have hlen := trX_len hk
  have H1 := Lib.hid fun wx (h : Below w.heap.size w wx) => (show Calls Tryz.prog 47 #[.agg (cellsOf 17 (treeH (trF k k.lo) (.slice C1 m1 d1)))] wx _ from rlengths_any (trF k k.lo) C1 m1 d1 (trX k k.lo) wx (hv.r1.below h) hv.l1 (by have := hv.l1; omega))
  have H2 := Lib.hid fun wx (h : Below w.heap.size w wx) => (show Calls Tryz.prog 47 #[.agg (cellsOf 17 (treeH (trF k k.fa) (.slice C2 m2 d2)))] wx _ from rlengths_any (trF k k.fa) C2 m2 d2 (trX k k.fa) wx (hv.r2.below h) hv.l2 (by have := hv.l2; omega))
  have hbw : Below w.heap.size w ((w.alloc (.cells (cellsOf 37 (bkC k (.slice C1 m1 d1) (.slice C2 m2 d2))) 28)).alloc (.cells bdZ 67)) := ((Below.refl _ _).alloc (Nat.le_refl _) _).alloc (by simp) _
  have k1 : Arr ((w.alloc (.cells (cellsOf 37 (bkC k (.slice C1 m1 d1) (.slice C2 m2 d2))) 28)).alloc (.cells bdZ 67)) w.heap.size 28 37 (bkC k (.slice C1 m1 d1) (.slice C2 m2 d2)) := Arr.alloc (Blk.new _ _ _) _
  have k2 : Blk ((w.alloc (.cells (cellsOf 37 (bkC k (.slice C1 m1 d1) (.slice C2 m2 d2))) 28)).alloc (.cells bdZ 67)) (w.heap.size + 1) 67 bdZ := Blk.new' _ _ _ _ (by simp)
  have HV := Lib.hid hv
  clear hv hlen
  go_enter Tryz.func32, Tryz.ntmps32
  go_upto_region 1 with fail
  change Code.wp _ _ _ _ ((w.alloc (.cells (cellsOf 37 (bkC k (.slice C1 m1 d1) (.slice C2 m2 d2))) 28)).alloc (.cells bdZ 67))
  have hs1 : ((w.alloc (.cells (cellsOf 37 (bkC k (.slice C1 m1 d1) (.slice C2 m2 d2))) 28)).alloc (.cells bdZ 67)).heap.size = w.heap.size + 2 := by simp
  generalize (w.alloc (.cells (cellsOf 37 (bkC k (.slice C1 m1 d1) (.slice C2 m2 d2))) 28)).alloc (.cells bdZ 67) = w1 at *
  have c0 : w1.cell? ⟨w.heap.size, 0, none⟩ = some (.int .u8 (k.kind : Int)) := Arr.cell k1 0 (by omega)
  have c1 : w1.cell? ⟨w.heap.size, 1, none⟩ = some (.bool k.last) := Arr.cell k1 1 (by omega)
  have c2 : w1.cell? ⟨w.heap.size, 2, none⟩ = some (.int .i64 (k.left : Int)) := Arr.cell k1 2 (by omega)
  go_upto_region 2 with fail
  obtain ⟨g1, hg1⟩ : ∃ g, w.heap.size = g := ⟨_, rfl⟩
  obtain ⟨g2, hg2⟩ : ∃ g, w.heap.size + 1 = g := ⟨_, rfl⟩
  obtain ⟨g3, hg3⟩ : ∃ g, w.heap.size + 2 = g := ⟨_, rfl⟩
  have k3 : Blk (w1.alloc (.cells (bdC (k.kind : Int) k.last (k.left : Int) none 0 0 none 0 0) 67)) (w.heap.size + 2) 67 (bdC (k.kind : Int) k.last (k.left : Int) none 0 0 none 0 0) := Blk.new' _ _ _ _ hs1.symm
  have k1' := Arr.alloc k1 (.cells (bdC (k.kind : Int) k.last (k.left : Int) none 0 0 none 0 0) 67)
  have k2' := Blk.alloc k2 (.cells (bdC (k.kind : Int) k.last (k.left : Int) none 0 0 none 0 0) 67)
  have hb2 := hbw.alloc hbw.size (.cells (bdC (k.kind : Int) k.last (k.left : Int) none 0 0 none 0 0) 67)
  change Code.wp _ _ _ _ (w1.alloc (.cells (bdC (k.kind : Int) k.last (k.left : Int) none 0 0 none 0 0) 67))
  clear c0 c1 c2 k1 k2 hbw hs1
  generalize w1.alloc (.cells (bdC (k.kind : Int) k.last (k.left : Int) none 0 0 none 0 0) 67) = w2 at *
  rw [hg1] at k1'
  rw [hg2] at k2'
  rw [hg3] at k3
  rw [hg3, hg2, hg1]
  have HG := Lib.hid (show w.heap.size ≤ g1 ∧ w.heap.size ≤ g2 ∧ w.heap.size ≤ g3 by omega)
  have h13 : g3 ≠ g1 := by omega
  have h12 : g2 ≠ g1 := by omega
  have h23 : g3 ≠ g2 := by omega
  clear hg1 hg2 hg3
  have c0 : w2.cell? ⟨g1, 0, none⟩ = some (.int .u8 (k.kind : Int)) := Arr.cell k1' 0 (by omega)
  by_cases h0 : k.kind = 0
  · have q0 : ((k.kind : Int) != 0) = false := by rw [h0]; rfl
    have hz := hk.zero h0
    have HZ := Lib.hid (And.intro h0 hz)
    have ct3 := Blk.cells k3
    have ct2 := Blk.cells k2'
    have fx2 := Blk.frozens k2'
    clear h0 hz
    go_wp2_with fail
    obtain ⟨k5, g5⟩ := bd_five k2' (.int .u8 (k.kind : Int)) (.bool k.last) (.int .i64 (k.left : Int)) (.slice none 0 0) (.slice none 0 0)
    refine bodyPost_ret (results_cell_row Tryz.results32 _ _ g2 67 _ (0, 0) _ rfl k5 Tryz.underlying67 rfl bd_size) rfl ?_
    refine ⟨Below.then_only hb2 g5 hb2.size HG.out.2.1, none, 0, 0, none, 0, 0, rfl, ⟨?_, ?_, ?_, ?_, fun h => absurd HZ.out.1 h⟩, (fun ad e => by cases e), fun ad e => by cases e⟩
    · rw [HZ.out.2.2.1]; exact Rd.nil_
    · rw [HZ.out.2.2.1]; rfl
    · rw [HZ.out.2.2.2]; exact Rd.nil_
    · rw [HZ.out.2.2.2]; rfl
  · have q0 : ((k.kind : Int) != 0) = true := by rw [bne_iff_ne]; omega
    obtain ⟨ht1, ht2⟩ := tr_chk hk h0
    have hl := hk.len h0
    have hc := hk.code h0
    unfold TLenRes at H1 H2
    rw [ht1] at H1
    rw [ht2] at H2
    have HZ := Lib.hid (And.intro h0 (And.intro hl hc))
    have fx3 := Blk.frozens k3
    have ct3 := Blk.cells k3
    clear h0 hl hc ht1 ht2
    go_upto_region 4 with (first
      | (refine load_sub rfl 26 (.tmp 15) rfl rfl k1' 17 (by omega) tree_under rfl tree_size (treeH (trF k k.lo) (.slice C1 m1 d1)) (fun i hi => bkH_t1 _ _ _ _ _ _ _ i hi) ?_)
      | (go_at_call 47; refine (H1.out _ hb2).mono ?_; rintro e w3 ⟨hb23, hl1, B1, e1, rfl, hO1⟩; have k3a := Blk.below k3 hb23 (Blk.lt k3); have ct3a := Blk.cells k3a; have fx3a := Blk.frozens k3a))
    have gz := only_set (only_self w3 g3) 3 (.slice B1 320 e1)
    have k3b := Blk.set_ k3a 3 (.slice B1 320 e1)
    have k1b := Blk.grown (Arr.below k1' hb23 (Blk.lt k1')) gz (by intro e; injection e with e; omega)
    have k2b := Blk.grown (Blk.below k2' hb23 (Blk.lt k2')) gz (by intro e; injection e with e; omega)
    have ho1 := own_only (own_far_base hO1.2 hb2.size) k3a (by decide) gz
    have hb3 := hb2.trans (hb23.mono hb2.size)
    have hb4 := Below.then_only hb3 gz hb3.size HG.out.2.2
    clear ct3 fx3 ct3a fx3a k3 k3a k1' k2' hb23 hO1 hb3 hb2 c0
    generalize w3.setCell ⟨g3, 3, none⟩ (.slice B1 320 e1) = w4 at *
    replace k3b : Blk w4 g3 67 (bdC (k.kind : Int) k.last (k.left : Int) B1 320 e1 none 0 0) := k3b
    replace k1b : Arr w4 g1 28 37 (bkC k (.slice C1 m1 d1) (.slice C2 m2 d2)) := k1b
    go_upto_region 5 with (first
      | (refine load_sub rfl 26 (.tmp 22) rfl rfl k1b 17 (by omega) tree_under rfl tree_size (treeH (trF k k.fa) (.slice C2 m2 d2)) (fun i hi => bkH_t2 _ _ _ _ _ _ _ i hi) ?_)
      | (go_at_call 47; refine (H2.out _ hb4).mono ?_; rintro e w5 ⟨hb45, hl2, B2, e2, rfl, hO2⟩; have k3c := Blk.below k3b hb45 (Blk.lt k3b); have ct3c := Blk.cells k3c; have fx3c := Blk.frozens k3c))
    have gz2 := only_set (only_self w5 g3) 4 (.slice B2 320 e2)
    have k3d := Blk.set_ k3c 4 (.slice B2 320 e2)
    have k2d := Blk.grown (Blk.below k2b hb45 (Blk.lt k2b)) gz2 (by intro e; injection e with e; omega)
    have ho1b := own_only (own_below ho1 hb45) k3c (by decide) gz2
    have ho2b := own_only (own_far_base hO2.2 hb4.size) k3c (by decide) gz2
    have hb5 := hb4.trans (hb45.mono hb4.size)
    have hb6 := Below.then_only hb5 gz2 hb5.size HG.out.2.2
    clear ct3c fx3c k3b k3c k1b k2b hb45 hO2 hb5 hb4 ho1
    generalize w5.setCell ⟨g3, 4, none⟩ (.slice B2 320 e2) = w6 at *
    replace k3d : Blk w6 g3 67 (bdC (k.kind : Int) k.last (k.left : Int) B1 320 e1 B2 320 e2) := k3d
    have ct3 := Blk.cells k3d
    have ct2 := Blk.cells k2d
    have fx2 := Blk.frozens k2d
    go_wp2_with fail
    obtain ⟨k5, g5⟩ := bd_five k2d (.int .u8 (k.kind : Int)) (.bool k.last) (.int .i64 (k.left : Int)) (.slice B1 320 e1) (.slice B2 320 e2)
    refine bodyPost_ret (results_cell_row Tryz.results32 _ _ g2 67 _ (0, 0) _ rfl k5 Tryz.underlying67 rfl bd_size) rfl ?_
    have p1 := own_only ho1b k2d (by decide) g5
    have p2 := own_only ho2b k2d (by decide) g5
    exact ⟨Below.then_only hb6 g5 hb6.size HG.out.2.1, B1, 320, e1, B2, 320, e2, rfl, ⟨own_rd p1, HZ.out.2.1.1.symm, own_rd p2, HZ.out.2.1.2.symm, fun _ => ⟨(padL_full HZ.out.2.1.1).symm, (padL_full HZ.out.2.1.2).symm, HZ.out.2.2.2.1, HZ.out.2.2.2.2⟩⟩, own_ge p1 (by decide), own_ge p2 (by decide)⟩
end Go.Proofs.YtahboomghjdjhaaGreat

/-
  A block with its trees, made of its lengths by the document.
-/
namespace Go.Proofs.YtahboomghjdjhaaGreat
open Go.RowKit

set_option maxRecDepth 100000 in
set_option maxHeartbeats 1500000 in
theorem rof_any (k : Bk) (hk : BkOk k) (A1 : Option Addr) (n1 c1 : Nat) (lo : List Nat) (A2 : Option Addr) (n2 c2 : Nat) (fa : List Nat) (w : World) (hd : Bd w k A1 n1 lo A2 n2 fa) :
    Calls Tryz.prog 37 #[.agg (bdC ((k.kind : Nat) : Int) k.last ((k.left : Nat) : Int) A1 n1 c1 A2 n2 c2)] w fun e w' => OfRes w w' k e := by
  have hbw : Below w.heap.size w ((w.alloc (.cells (bdC (k.kind : Int) k.last (k.left : Int) A1 n1 c1 A2 n2 c2) 67)).alloc (.cells (cellsOf 37 zeroV.F) 28)) := ((Below.refl _ _).alloc (Nat.le_refl _) _).alloc (by simp) _
  have k1 : Blk ((w.alloc (.cells (bdC (k.kind : Int) k.last (k.left : Int) A1 n1 c1 A2 n2 c2) 67)).alloc (.cells (cellsOf 37 zeroV.F) 28)) w.heap.size 67 (bdC (k.kind : Int) k.last (k.left : Int) A1 n1 c1 A2 n2 c2) := Blk.alloc (Blk.new _ _ _) _
  have k2 : Arr ((w.alloc (.cells (bdC (k.kind : Int) k.last (k.left : Int) A1 n1 c1 A2 n2 c2) 67)).alloc (.cells (cellsOf 37 zeroV.F) 28)) (w.heap.size + 1) 28 37 zeroV.F := Blk.new' _ _ _ _ (by simp)
  have HD := Lib.hid hd
  clear hd
  go_enter Tryz.func37, Tryz.ntmps37
  go_upto_region 1 with fail
  change Code.wp _ _ _ _ ((w.alloc (.cells (bdC (k.kind : Int) k.last (k.left : Int) A1 n1 c1 A2 n2 c2) 67)).alloc (.cells (cellsOf 37 zeroV.F) 28))
  have hs1 : ((w.alloc (.cells (bdC (k.kind : Int) k.last (k.left : Int) A1 n1 c1 A2 n2 c2) 67)).alloc (.cells (cellsOf 37 zeroV.F) 28)).heap.size = w.heap.size + 2 := by simp
  generalize (w.alloc (.cells (bdC (k.kind : Int) k.last (k.left : Int) A1 n1 c1 A2 n2 c2) 67)).alloc (.cells (cellsOf 37 zeroV.F) 28) = w1 at *
  have ct1 := Blk.cells k1
  go_upto_region 2 with (first
    | (refine wpList_build_to rfl _ _ rfl (cellsOf 37 (bkH (k.kind : Int) k.last (k.left : Int) (fun _ => 0) (.slice none 0 0) (fun _ => 0) (.slice none 0 0))) (by kernel_rfl) ?_)
    | (refine store_over rfl 28 (.tmp 3) (.tmp 10) (f := bkH (k.kind : Int) k.last (k.left : Int) (fun _ => 0) (.slice none 0 0) (fun _ => 0) (.slice none 0 0)) rfl rfl rfl (show Arr (w1.alloc (.cells (cellsOf 37 zeroV.F) 28)) (w.heap.size + 2) 28 37 zeroV.F from Blk.new' _ _ _ _ hs1.symm) bk_size (fun i _ => bkH_one _ _ _ _ _ _ _ _ _ _ _ i) ?_; intro w2 k3 g2'))
  obtain ⟨g1, hg1⟩ : ∃ g, w.heap.size = g := ⟨_, rfl⟩
  obtain ⟨g2, hg2⟩ : ∃ g, w.heap.size + 1 = g := ⟨_, rfl⟩
  obtain ⟨g3, hg3⟩ : ∃ g, w.heap.size + 2 = g := ⟨_, rfl⟩
  have k1a := Blk.grown (Blk.alloc k1 (.cells (cellsOf 37 zeroV.F) 28)) g2' (by intro e; injection e with e; omega)
  have k2a := Blk.grown (Arr.alloc k2 (.cells (cellsOf 37 zeroV.F) 28)) g2' (by intro e; injection e with e; omega)
  have hb2 := Below.then_only (hbw.alloc hbw.size (.cells (cellsOf 37 zeroV.F) 28)) g2' (by simp; omega) (by omega)
  clear g2' k1 k2 hbw ct1
  rw [hg1] at k1a
  rw [hg2] at k2a
  rw [hg3] at k3
  rw [hg3, hg2, hg1]
  have HG := Lib.hid (show w.heap.size ≤ g1 ∧ w.heap.size ≤ g2 ∧ w.heap.size ≤ g3 by omega)
  have h13 : g3 ≠ g1 := by omega
  have h12 : g2 ≠ g1 := by omega
  have h23 : g3 ≠ g2 := by omega
  clear hg1 hg2 hg3 hs1
  have ct1 := Blk.cells k1a
  by_cases h0 : k.kind = 0
  · have q0 : ((k.kind : Int) != 0) = false := by rw [h0]; rfl
    have HZ := Lib.hid h0
    clear h0
    go_wp2_with (first
      | (refine load_arr rfl 28 (.tmp 3) rfl rfl k3 Tryz.underlying28 rfl bk_size ?_)
      | (refine store_over rfl 28 (.tmp 2) (.tmp 22) rfl rfl rfl k2a bk_size (fun i _ => bkH_one _ _ _ _ _ _ _ _ _ _ _ i) ?_; intro wz kz gz))
    refine bodyPost_ret (results_cell_row Tryz.results37 _ _ g2 28 _ (0, 0) _ rfl kz Tryz.underlying28 rfl (by rw [cellsOf_size]; exact bk_size)) rfl ?_
    have e1 : ∀ l, trF k l = fun _ => 0 := fun l => by unfold trF; rw [if_pos HZ.out]
    have e2 : ∀ l, trX k l = [] := fun l => by unfold trX; rw [if_pos HZ.out]
    refine ⟨Below.then_only hb2 gz hb2.size HG.out.2.1, none, 0, 0, none, 0, 0, ?_, ⟨?_, ?_, Nat.le_refl _, ?_, ?_, Nat.le_refl _⟩, ?_, ?_⟩
    · show _ = Ending.returned (.agg (cellsOf 37 (bkH (k.kind : Int) k.last (k.left : Int) (trF k k.lo) (.slice none 0 0) (trF k k.fa) (.slice none 0 0))))
      rw [e1, e1]
    · rw [e2]; exact Rd.nil_
    · rw [e2]; rfl
    · rw [e2]; exact Rd.nil_
    · rw [e2]; rfl
    · rw [e2]; exact World.ownsRow_nil _ _ _ _
    · rw [e2]; exact World.ownsRow_nil _ _ _ _
  · have q0 : ((k.kind : Int) != 0) = true := by rw [bne_iff_ne]; omega
    have hl := hk.len h0
    obtain ⟨el, ef, cl, cf⟩ := HD.out.code h0
    have l1 : lo.length ≤ 320 := by have := hl.1; rw [el] at this; unfold padL at this; simp at this; omega
    have l2 : fa.length ≤ 320 := by have := hl.2; rw [ef] at this; unfold padL at this; simp at this; omega
    have x1 : ∀ x ∈ lo, x < 256 := fun x hx => by have := can_le cl x hx; omega
    have x2 : ∀ x ∈ fa, x < 256 := fun x hx => by have := can_le cf x hx; omega
    have p1 : allP k.lo 16 = allP lo 16 := by rw [el]; exact allP_pad l1 16
    have p2 : allP k.fa 16 = allP fa 16 := by rw [ef]; exact allP_pad l2 16
    have f1 : cntS (allP lo 16) = trF k k.lo := by unfold trF; rw [if_neg h0, p1]
    have f2 : cntS (allP fa 16) = trF k k.fa := by unfold trF; rw [if_neg h0, p2]
    have t1 : symS (allP lo 16) = trX k k.lo := by unfold trX; rw [if_neg h0, p1]
    have t2 : symS (allP fa 16) = trX k k.fa := by unfold trX; rw [if_neg h0, p2]
    have m1 : (allP lo 16).length = (trX k k.lo).length := by rw [← t1, symS_length]
    have m2 : (allP fa 16).length = (trX k k.fa).length := by rw [← t2, symS_length]
    have H1 := Lib.hid fun wx (h : Below w.heap.size w wx) => (show Calls Tryz.prog 55 #[.slice A1 n1 c1] wx (fun e w' => ∃ (B : Option Addr) (d : Nat), e = .returned (treeV (trF k k.lo) B (trX k k.lo).length d) ∧ Builds wx w' 3 1 B (trX k k.lo).length d (ints (trX k k.lo))) from by
      have := rgrown_any A1 c1 lo wx (rd_u8 (HD.out.r1.below h) x1) (by omega)
      rw [f1, t1, m1, ← HD.out.l1] at this
      exact this)
    have H2 := Lib.hid fun wx (h : Below w.heap.size w wx) => (show Calls Tryz.prog 55 #[.slice A2 n2 c2] wx (fun e w' => ∃ (B : Option Addr) (d : Nat), e = .returned (treeV (trF k k.fa) B (trX k k.fa).length d) ∧ Builds wx w' 3 1 B (trX k k.fa).length d (ints (trX k k.fa))) from by
      have := rgrown_any A2 c2 fa wx (rd_u8 (HD.out.r2.below h) x2) (by omega)
      rw [f2, t2, m2, ← HD.out.l2] at this
      exact this)
    clear h0 hl el ef cl cf l1 l2 x1 x2 p1 p2 f1 f2 t1 t2 m1 m2
    unfold treeV at H1 H2
    have k3' := k3
    go_upto_region 4 with (first
      | (go_at_call 55; refine (H1.out _ hb2).mono ?_; rintro e w3 ⟨C1, d1, rfl, hO1⟩; have hb23 := hO1.1; have k1b := Blk.below k1a hb23 (Blk.lt k1a); have k2b := Blk.below k2a hb23 (Blk.lt k2a); have k3b := Arr.below k3 hb23 (Blk.lt k3); have hb3 := hb2.trans (hb23.mono hb2.size))
      | (refine store_sub rfl 26 (.tmp 17) (.tmp 16) rfl rfl 17 rfl k3b (by omega) tree_size (fun i _ => treeH_one _ _ _ _ i) ?_; intro w4 k4 g4))
    have k1c := Blk.grown k1b g4 (by intro e; injection e with e; omega)
    have k2c := Blk.grown k2b g4 (by intro e; injection e with e; omega)
    have hb4 := Below.then_only hb3 g4 hb3.size HG.out.2.2
    have o4 := own_only (own_far_base hO1.2 hb2.size) k3b (by decide) g4
    have ct1c := Blk.cells k1c
    clear k1a k2a k3 k1b k2b k3b hb2 hb3 hb23 ct1
    go_upto_region 5 with (first
      | (go_at_call 55; refine (H2.out _ hb4).mono ?_; rintro e w5 ⟨C2, d2, rfl, hO2⟩; have hb45 := hO2.1; have k2d := Blk.below k2c hb45 (Blk.lt k2c); have k4d := Arr.below k4 hb45 (Blk.lt k4); have hb5 := hb4.trans (hb45.mono hb4.size))
      | (refine store_sub rfl 26 (.tmp 21) (.tmp 20) rfl rfl 17 rfl k4d (by omega) tree_size (fun i _ => treeH_one _ _ _ _ i) ?_; intro w6 k6 g6))
    have k6' := BkAt.trees k3' (trF k k.lo) (trF k k.fa) _ _ k6
    have k2e := Blk.grown k2d g6 (by intro e; injection e with e; omega)
    have hb6 := Below.then_only hb5 g6 hb5.size HG.out.2.2
    have o6 := own_only (own_below o4 hb45) k4d (by decide) g6
    have o6b := own_only (own_far_base hO2.2 hb4.size) k4d (by decide) g6
    clear k1c k2c k4 k2d k4d k6 hb4 hb5 hb45 o4 ct1c hO1 hO2
    go_wp2_with (first
      | (refine load_arr rfl 28 (.tmp 3) rfl rfl k6' Tryz.underlying28 rfl bk_size ?_)
      | (refine store_over rfl 28 (.tmp 2) (.tmp 22) rfl rfl rfl k2e bk_size (fun i _ => bkH_one _ _ _ _ _ _ _ _ _ _ _ i) ?_; intro wz kz gz))
    refine bodyPost_ret (results_cell_row Tryz.results37 _ _ g2 28 _ (0, 0) _ rfl kz Tryz.underlying28 rfl (by rw [cellsOf_size]; exact bk_size)) rfl ?_
    exact ⟨Below.then_only hb6 gz hb6.size HG.out.2.1, C1, _, d1, C2, _, d2, rfl, ⟨own_rd (own_only o6 k2e (by decide) gz), rfl, own_cap o6, own_rd (own_only o6b k2e (by decide) gz), rfl, own_cap o6b⟩, own_only o6 k2e (by decide) gz, own_only o6b k2e (by decide) gz⟩
end Go.Proofs.YtahboomghjdjhaaGreat
