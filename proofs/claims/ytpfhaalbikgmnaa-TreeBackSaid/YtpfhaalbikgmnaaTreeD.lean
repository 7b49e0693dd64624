/-
  Walks: tree.Check.
-/
import Derived.Test.YtpfhaalbikgmnaaTreeP
import Derived.Test.YtpfhaalbikgmnaaTail
namespace Go.Proofs.Ytpfhaalbikgmnaa
open Go.RowKit

theorem size_int' : (Try.prog.info? 3).map (·.size) = some 1 := by kernel_rfl
theorem u8s_set (o : List Nat) (i x : Nat) : (u8s o).set i (.int .u8 (x : Int)) = u8s (o.set i x) := by simp [u8s, List.map_set]
/-- A row loaded under a guard that holds. -/
theorem load_arrG {P : Program} {ops : Array Oper} {rest : List Oper} {o : Oper} {a : Act} {w : World} {Q : Exit → Act → World → Prop} (hw : Region.wanted o (yielded ops a.tmps) = true) (ty : TypeId) (x : Operand) (ho : o.op = .load ty x)
    {g : Nat} (hx : a.eval x = .pointer (some ⟨g, 0, none⟩)) {t : TypeId} {n : Nat} {f : Nat → Value} {d : TypeDesc} (hA : Arr w g t n f)
    (hu : P.underlying ty = some d) (hd : (match d with | .struct _ | .array _ _ => true | _ => false) = true) (hi : (P.info? ty).map (·.size) = some n)
    (h : wpList P ops Q rest (a.put o.dst (.agg (cellsOf n f))) w) : wpList P ops Q (o :: rest) a w :=
  BigFrame.wpList_want hw fun _ hK => wp_load_row ty x ho g hx t (cellsOf n f) (0, 0) d hA hu hd (by rw [hi, cellsOf_size]) (hK _ _ h)

theorem made_u8s (n : Nat) : (madeCells (Value.int .u8 0).cells (n * 1)).toList = u8s (List.replicate n 0) := by rw [Nat.mul_one, made_zeros _ rfl, zeros_list, u8s_zeros]
theorem index_cnt {ops : Array Oper} {rest : List Oper} {o : Oper} {a : Act} {w : World} {Q : Exit → Act → World → Prop} (hgd : o.guard = none) (x i : Operand) (ho : o.op = .index 23 x i) {f : Nat → Int}
    (hx : a.eval x = .agg (cellsOf 16 (cI f))) {z : Int} (hi : a.eval i = .int .i64 z) (k : Nat) (hk : z = (k : Int)) (hkn : k < 16) (q : Int) (hq : f k = q)
    (h : wpList Try.prog ops Q rest (a.put o.dst (.int .i64 q)) w) : wpList Try.prog ops Q (o :: rest) a w := by
  subst hq
  exact index_cells hgd x i ho Try.underlying23 Try.underlying3 rfl size_int' hx hi k hk hkn h
theorem Rd.int {w : World} {A : Option Addr} {l : List Int} (h : Rd w A (ints l)) {i : Nat} (hi : i < l.length) : ∃ b off, A = some ⟨b, off, none⟩ ∧ w.cell? ⟨b, off + i, none⟩ = some (.int .i64 (nthI l i)) := by
  obtain ⟨b, off, hA, hc⟩ := h.at_ (by rw [ints_length]; omega)
  exact ⟨b, off, hA, hc i _ (ints_get l i hi)⟩
theorem mem_set_le {o : List Nat} {B i x : Nat} (h : ∀ y ∈ o, y ≤ B) (hx : x ≤ B) : ∀ y ∈ o.set i x, y ≤ B := by
  intro y hy
  rcases List.mem_or_eq_of_mem_set hy with hy | rfl
  · exact h y hy
  · exact hx
def chkE (f : Nat → Int) (xs : List Int) : Nat := if (chkT f xs).isSome then 0 else 8
theorem chkE_none {f : Nat → Int} {xs : List Int} (h : chkT f xs = none) : chkE f xs = 8 := by unfold chkE; rw [h]; rfl
theorem chk_many {f : Nat → Int} {xs : List Int} (h : 320 < xs.length) : chkT f xs = none := by unfold chkT; rw [if_pos h]
theorem chk_rows {f : Nat → Int} {xs : List Int} (h : xs.length ≤ 320) (hr : rowsT f 16 0 xs (List.replicate 320 0) = none) : chkT f xs = none := by unfold chkT; rw [if_neg (by omega), hr]
theorem chk_end {f : Nat → Int} {xs r : List Int} {o : List Nat} (h : xs.length ≤ 320) (hr : rowsT f 16 0 xs (List.replicate 320 0) = some (o, r)) : chkT f xs = endT f xs o r := by unfold chkT; rw [if_neg (by omega), hr]
def ChkRes (w w' : World) (e : Ending) (f : Nat → Int) (xs : List Int) : Prop := e = .returned (.int .i64 (chkE f xs : Nat)) ∧ Below w.heap.size w w'
theorem ChkRes.mk' {w w' : World} {e : Ending} {f : Nat → Int} {xs : List Int} {E : Nat} (h : chkE f xs = E) (he : e = .returned (.int .i64 (E : Int))) (hb : Below w.heap.size w w') : ChkRes w w' e f xs := ⟨by rw [he, h], hb⟩

set_option maxRecDepth 100000 in
set_option maxHeartbeats 4000000 in
theorem tcheck_any (f : Nat → Int) (A : Option Addr) (n c : Nat) (xs : List Int) (w : World) (hx : Rd w A (ints xs)) (hn : n = xs.length) (hc : n ≤ c) (hn1 : n ≤ 1001) :
    Calls Try.prog 13 #[treeV f A n c] w fun e w' => ChkRes w w' e f xs := by
  unfold treeV
  have HB : ∀ o, Below w.heap.size w (w.alloc o) := fun o => (Below.refl _ _).alloc (Nat.le_refl _) _
  have ka : Arr (w.alloc (.cells (cellsOf 17 (treeH f (.slice A n c))) 26)) w.heap.size 26 17 (treeH f (.slice A n c)) := Blk.new _ _ _
  have ca := Arr.cell ka 16 (by omega)
  rw [treeH_16] at ca
  have hb := HB (.cells (cellsOf 17 (treeH f (.slice A n c))) 26)
  have HN := Lib.hid hn
  clear HB hn
  by_cases hl : 320 < n
  · have hE := Lib.hid (chkE_none (chk_many (f := f) (xs := xs) (by rw [← HN.out]; exact hl)))
    go_enter Try.func13, Try.ntmps13
    go_wp2_with fail
    go_ret
    exact ChkRes.mk' hE.out rfl hb
  · obtain ⟨R, hR⟩ : ∃ R, rowsT f 16 0 xs (List.replicate 320 0) = R := ⟨_, rfl⟩
    have HR := Lib.hid hR
    clear hR
    have hl' : n ≤ 320 := by omega
    have hl2 : ¬ (320 : Int) < n := by omega
    clear hl
    go_enter Try.func13, Try.ntmps13
    go_upto_region 1 with (fail)
    change Code.wp _ _ _ _ (w.alloc (.cells (cellsOf 17 (treeH f (.slice A n c))) 26))
    generalize w.alloc (.cells (cellsOf 17 (treeH f (.slice A n c))) 26) = W1 at *
    go_wp2_with (first
      | (refine makes elem_u8 (z := .int .u8 0) (by kernel_rfl) rfl (.const (.int .i64 320)) (.const (.int .i64 320)) rfl 320 rfl rfl rfl (by omega) (by omega) (u8s (List.replicate 320 0)) (made_u8s 320) ?_; intro W2 hO; have ka2 := Arr.below ka hO.1 (Blk.lt ka); have hb2 := hb.trans (hO.1.mono hb.size); have ca2 := (Arr.cell ka2 16 (by omega)).trans (congrArg some treeH_16))
      | (refine load_cnt rfl (.tmp 18) rfl rfl ka2 ?_))
    have hO2 := hO.rebase hb
    clear hO ka ca hb ca2
    go_loopg [4, 20] 16 (fun gk v4 v20 wr => ∃ (k : Nat) (A' : Option Addr) (c' ny : Nat) (ys : List Int) (o : List Nat), k ≤ 16 ∧ gk = 16 - k ∧ v20 = .int .i64 (k : Int) ∧ v4 = .slice A' ny c' ∧ ny = ys.length ∧ ny ≤ n ∧ ny ≤ c' ∧ Rd w A' (ints ys) ∧
      Builds w wr 5 1 (some ⟨W1.heap.size, 0, none⟩) 320 320 (u8s o) ∧ o.length = 320 ∧ (∀ x ∈ o, x ≤ 15) ∧ Arr wr w.heap.size 26 17 (treeH f (.slice A n c)) ∧ rowsT f (16 - k) k ys o = R)
    case atStart => exact ⟨0, A, c, n, xs, _, by omega, rfl, rfl, rfl, HN.out, Nat.le_refl _, hc, hx, hO2, by simp, by simp, ka2, HR.out⟩
    case round =>
      clear hO2 ka2 hb2
      obtain ⟨k, A', c', ny, ys, o, hk, hgk, rfl, rfl, hny, hyn, hyc, hy, hO, ho, ho15, ka, hR⟩ := hrel
      have HY := Lib.hid hny
      have HO := Lib.hid (And.intro ho ho15)
      have HR2 := Lib.hid hR
      clear hny ho ho15 hR
      by_cases hlt : k < 16
      · obtain ⟨q, hq⟩ : ∃ q, f k = q := ⟨_, rfl⟩
        have HQ := Lib.hid hq
        by_cases h1 : q < 0
        · have hE := Lib.hid (chkE_none (chk_rows (f := f) (xs := xs) (by rw [← HN.out]; exact hl') (by rw [HR.out, ← HR2.out, show 16 - k = (15 - k) + 1 by omega, rows_bad (by left; rw [hq]; exact h1)])))
          clear hq
          go_wp2_with (refine index_cnt rfl (.tmp 19) (.tmp 20) rfl rfl rfl k rfl hlt q HQ.out ?_)
          go_ret
          exact ChkRes.mk' hE.out rfl hO.1
        · by_cases h2 : (ny : Int) < q
          · have hE := Lib.hid (chkE_none (chk_rows (f := f) (xs := xs) (by rw [← HN.out]; exact hl') (by rw [HR.out, ← HR2.out, show 16 - k = (15 - k) + 1 by omega, rows_bad (by right; left; rw [hq, ← HY.out]; exact h2)])))
            clear hq
            have h1' : decide (q < 0) = false := decide_eq_false h1
            go_wp2_with (refine index_cnt rfl (.tmp 19) (.tmp 20) rfl rfl rfl k rfl hlt q HQ.out ?_)
            go_ret
            exact ChkRes.mk' hE.out rfl hO.1
          · by_cases h3 : k = 0 ∧ 0 < q
            · have hE := Lib.hid (chkE_none (chk_rows (f := f) (xs := xs) (by rw [← HN.out]; exact hl') (by rw [HR.out, ← HR2.out, show 16 - k = (15 - k) + 1 by omega, rows_bad (by right; right; rw [hq]; exact h3)])))
              clear hq
              have h1' : decide (q < 0) = false := decide_eq_false h1
              have h2' : decide ((ny : Int) < q) = false := decide_eq_false h2
              obtain ⟨h3, h4⟩ := h3
              subst h3
              go_wp2_with (refine index_cnt rfl (.tmp 19) (.tmp 20) rfl rfl rfl 0 rfl hlt q HQ.out ?_)
              go_ret
              exact ChkRes.mk' hE.out rfl hO.1
            · have h1' : decide (q < 0) = false := decide_eq_false h1
              have h2' : decide ((ny : Int) < q) = false := decide_eq_false h2
              go_upto_region 8 with (refine index_cnt rfl (.tmp 19) (.tmp 20) rfl rfl rfl k rfl hlt q HQ.out ?_)
              have HR3 := Lib.hid (show innT f (15 - k) k (ys.drop q.toNat) ((ys.take q.toNat).drop 0) o = R by rw [← HR2.out, show 16 - k = (15 - k) + 1 by omega, rows_inn (by rw [hq, ← HY.out]; omega), hq])
              clear HR2 hq
              obtain ⟨m, rfl⟩ : ∃ m : Nat, q = (m : Int) := ⟨q.toNat, by omega⟩
              rw [Int.toNat_natCast] at HR3
              have hm : m ≤ ny := by omega
              have hkm : k = 0 → m = 0 := fun e => by omega
              go_cut [39] from 24 to 39 (fun v wx => v = .bool false ∧ wx = wr)
              case first =>
                by_cases hk0 : k = 0
                · obtain rfl := hkm hk0
                  subst hk0
                  go_wp2_with fail
                  go_meet
                  exact ⟨rfl, rfl⟩
                · have hkb : ((k : Int) == 0) = false := by rw [beq_eq_false_iff_ne]; omega
                  clear hkm
                  go_wp2_with fail
                  go_meet
                  exact ⟨rfl, rfl⟩
              case rest =>
                obtain ⟨rfl, rfl⟩ := hcut
                clear h1 h2 h3 h1' h2' hkm
                go_wp2_with fail
                obtain ⟨row, hrow⟩ : ∃ row, ys.take m = row := ⟨_, rfl⟩
                rw [hrow] at HR3
                have hrl : row.length = m := by rw [← hrow, List.length_take, ← HY.out]; omega
                have hyr := hy.take m
                rw [show (ints ys).take m = ints row by rw [← hrow]; simp [ints]] at hyr
                have HL := Lib.hid hrl
                have HG := Lib.hid hgk
                clear hrl hrow hgk
                go_loopg [44] m (fun gi v44 wr => ∃ (j : Nat) (o : List Nat), j ≤ m ∧ gi = m - j ∧ v44 = .int .i64 (j : Int) ∧
                  Builds w wr 5 1 (some ⟨W1.heap.size, 0, none⟩) 320 320 (u8s o) ∧ o.length = 320 ∧ (∀ x ∈ o, x ≤ 15) ∧ Arr wr w.heap.size 26 17 (treeH f (.slice A n c)) ∧ innT f (15 - k) k (ys.drop m) (row.drop j) o = R)
                case atStart => exact ⟨0, o, by omega, rfl, rfl, hO, HO.out.1, HO.out.2, ka, HR3.out⟩
                case round =>
                  clear hO ka HR3 HO
                  clear o
                  obtain ⟨j, o, hj, hgi, rfl, hO, ho, ho15, ka, hR⟩ := hrel
                  have HO := Lib.hid (And.intro ho ho15)
                  have HR3 := Lib.hid hR
                  clear ho ho15 hR
                  by_cases hjm : j < m
                  · obtain ⟨b, off, rfl, hcell⟩ := (hyr.below hO.1).int (i := j) (by rw [HL.out]; exact hjm)
                    obtain ⟨s, hs⟩ : ∃ s, nthI row j = s := ⟨_, rfl⟩
                    rw [hs] at hcell
                    have HS := Lib.hid hs
                    clear hs
                    by_cases h1 : s < 0
                    · have hE := Lib.hid (chkE_none (chk_rows (f := f) (xs := xs) (by rw [← HN.out]; exact hl') (by rw [HR.out, ← HR3.out, inn_bad (by rw [HL.out]; exact hjm) (by left; rw [HS.out]; exact h1)])))
                      go_wp2_with fail
                      go_ret
                      exact ChkRes.mk' hE.out rfl hO.1
                    · by_cases h2 : 320 ≤ s
                      · have hE := Lib.hid (chkE_none (chk_rows (f := f) (xs := xs) (by rw [← HN.out]; exact hl') (by rw [HR.out, ← HR3.out, inn_bad (by rw [HL.out]; exact hjm) (by right; left; rw [HS.out]; exact h2)])))
                        have h1' : decide (s < 0) = false := decide_eq_false h1
                        go_wp2_with fail
                        go_ret
                        exact ChkRes.mk' hE.out rfl hO.1
                      · have h1' : decide (s < 0) = false := decide_eq_false h1
                        obtain ⟨p, rfl⟩ : ∃ p : Nat, s = (p : Int) := ⟨s.toNat, by omega⟩
                        have hp : p < 320 := by omega
                        have h2' : decide ((320 : Int) ≤ (p : Int)) = false := decide_eq_false h2
                        have h3' : decide (320 ≤ p) = false := decide_eq_false (by omega)
                        clear h1 h2
                        have hco := hO.cell p (by omega)
                        rw [u8s_get o p (by rw [HO.out.1]; exact hp)] at hco
                        have hfo := hO.free p
                        have hx15 := nth_le_t HO.out.2 p
                        by_cases h0 : nth o p = 0
                        · rw [h0] at hco
                          have hO2 := hO.set p (by omega) (.int .u8 (k : Int))
                          rw [u8s_set] at hO2
                          have HO2 := Lib.hid (And.intro (show (o.set p k).length = 320 by rw [List.length_set]; exact HO.out.1) (mem_set_le (i := p) HO.out.2 (show k ≤ 15 by omega)))
                          have hst := inn_step (f := f) (m := 15 - k) (n := k) (rest := ys.drop m) (row := row) (j := j) (o := o) (by rw [HL.out]; exact hjm) (by rw [HS.out, Int.toNat_natCast, h0]; omega)
                          rw [HS.out, Int.toNat_natCast] at hst
                          have HR4 := Lib.hid (hst.symm.trans HR3.out)
                          clear hst h0 hx15
                          have ka2 := Arr.far ka (p := ⟨W1.heap.size, p, none⟩) (fun e => own_blk_ne hO.2 ka (by decide) (by rw [e]; rfl)) (.int .u8 (k : Int))
                          go_wp2_with fail
                          go_roundg (m - (j + 1))
                          case measure => omega
                          case rel => exact ⟨j + 1, _, by omega, by omega, by go_num, hO2, HO2.out.1, HO2.out.2, ka2, HR4.out⟩
                        · have hE := Lib.hid (chkE_none (chk_rows (f := f) (xs := xs) (by rw [← HN.out]; exact hl') (by rw [HR.out, ← HR3.out, inn_bad (by rw [HL.out]; exact hjm) (by right; right; rw [HS.out, Int.toNat_natCast]; exact h0)])))
                          have h0' : 0 < nth o p := by omega
                          clear h0
                          generalize nth o p = x at *
                          go_wp2_with fail
                          go_ret
                          exact ChkRes.mk' hE.out rfl hO.1
                  · obtain rfl : j = m := by omega
                    have HR5 := Lib.hid (show rowsT f (15 - k) (k + 1) (ys.drop j) o = R by rw [← HR3.out, ← inn_end (row := row), HL.out])
                    clear HR3
                    go_wp2_with (refine tails rfl (.tmp 69) (.tmp 70) rfl Try.underlying24 size_int' rfl rfl j rfl hm hyc ?_; intro A2 hA2)
                    go_roundg (16 - (k + 1))
                    case measure => have := HG.out; omega
                    case rel => exact ⟨k + 1, A2, _, _, ys.drop j, o, by omega, by omega, by go_num, rfl, by rw [List.length_drop, ← HY.out], by omega, by omega, by have := hA2 w _ hy (by rw [ints_length, ← HY.out, Nat.mul_one]); rw [Nat.mul_one] at this; simpa [ints] using this, hO, HO.out.1, HO.out.2, ka, by rw [show 16 - (k + 1) = 15 - k by omega]; exact HR5.out⟩
      · obtain rfl : k = 16 := by omega
        have HE := Lib.hid (chk_end (f := f) (xs := xs) (by rw [← HN.out]; exact hl') (o := o) (r := ys) (by rw [HR.out, ← HR2.out]; rfl))
        have HGr := Lib.hid (show ∀ wx, Bs wx (some ⟨W1.heap.size, 0, none⟩) o → _ from fun wx hl => by have := grow_any (some ⟨W1.heap.size, 0, none⟩) 320 o 15 wx hl (by rw [HO.out.1]; omega) (by omega) (by omega); rw [HO.out.1] at this; exact this)
        have hbs : Bs wr (some ⟨W1.heap.size, 0, none⟩) o := rd_u8 hO.rd (fun x hx => by have := HO.out.2 x hx; omega)
        have hbw := hO.1
        clear HR2 hO
        by_cases hcan : canE o 15 = 0
        · simp only [hcan] at HGr
          by_cases hy0 : 0 < ny
          · have hE := Lib.hid (chkE_none (HE.out.trans (if_neg (fun h => by have := h.2.1; rw [HY.out, this] at hy0; simp at hy0))))
            clear HE hcan
            go_wp2_with (first
              | (go_at_call 10; refine (HGr.out _ hbs).mono ?_; rintro e W3 ⟨hb3, B, nn, d, f', xs', rfl, hown, rfl, rfl⟩; unfold treeV)
              | (refine store_new rfl 26 (.tmp 9) (.tmp 76) rfl _ _ rfl rfl rfl 26 _ (by rw [cellsOf_size]; exact tree_size) (by rw [cellsOf_size]; rfl) (cellsOf_one (fun k _ => treeH_one _ _ _ _ k)) ?_))
            go_ret
            exact ChkRes.mk' hE.out rfl ((hbw.trans (hb3.mono hbw.size)).alloc (Nat.le_trans hbw.size hb3.size) _)
          · obtain rfl : ny = 0 := by omega
            have hys : ys = [] := List.eq_nil_of_length_eq_zero HY.out.symm
            have hle := allP_le o 16
            rw [HO.out.1, ← symS_length] at hle
            have HSame := Lib.hid (fun wx B nn d (h1 : nn = (symS (allP o 16)).length) hg hxx => tsame_any (cntS (allP o 16)) f B A nn d n c (symS (allP o 16)) xs wx hg hxx h1 HN.out (by omega) hn1)
            obtain ⟨z, hz⟩ : ∃ z, sameT (cntS (allP o 16)) f (symS (allP o 16)) xs = z := ⟨_, rfl⟩
            rw [hz] at HSame
            unfold treeV at HSame
            have hE := Lib.hid (show chkE f xs = if z = true then 0 else 8 by unfold chkE; rw [HE.out]; unfold endT; rw [hz]; cases z <;> simp [hcan, hys])
            clear HE hcan hys hz hle
            cases z
            all_goals
              go_wp2_with (first
                | (go_at_call 10; refine (HGr.out _ hbs).mono ?_; rintro e W3 ⟨hb3, B, nn, d, f', xs', rfl, hown, rfl, rfl⟩; have hbx := hx.below (((hbw.trans (hb3.mono hbw.size))).alloc (Nat.le_trans hbw.size hb3.size) (.cells (cellsOf 17 (treeH (cntS (allP o 16)) (.slice B nn d))) 26)); have HGn := Lib.hid hown.1; have hgr := (own_rd hown).alloc (.cells (cellsOf 17 (treeH (cntS (allP o 16)) (.slice B nn d))) 26); have kx : Arr (W3.alloc (.cells (cellsOf 17 (treeH (cntS (allP o 16)) (.slice B nn d))) 26)) W3.heap.size 26 17 (treeH (cntS (allP o 16)) (.slice B nn d)) := Blk.new _ _ _; have kt := Arr.alloc (Arr.below ka hb3 (Blk.lt ka)) (.cells (cellsOf 17 (treeH (cntS (allP o 16)) (.slice B nn d))) 26); unfold treeV)
                | (refine store_new rfl 26 (.tmp 9) (.tmp 76) rfl _ _ rfl rfl rfl 26 _ (by rw [cellsOf_size]; exact tree_size) (by rw [cellsOf_size]; rfl) (cellsOf_one (fun k _ => treeH_one _ _ _ _ k)) ?_)
                | (refine load_arrG rfl 26 (.tmp 9) rfl rfl kx tree_under rfl tree_size ?_)
                | (refine load_arrG rfl 26 (.tmp 1) rfl rfl kt tree_under rfl tree_size ?_)
                | (go_at_call 15; refine (HSame.out _ _ _ _ (by have := HGn.out; rw [ints_length, Nat.mul_one] at this; exact this.symm) hgr hbx).mono ?_; rintro e W5 ⟨rfl, hb5⟩))
              go_ret
              exact ChkRes.mk' (hE.out.trans (by simp)) rfl (((hbw.trans (hb3.mono hbw.size)).alloc (Nat.le_trans hbw.size hb3.size) _).trans (hb5.mono (by have := hbw.size; have := hb3.size; simp; omega)))
        · have hE := Lib.hid (chkE_none (HE.out.trans (if_neg (fun h => hcan h.1))))
          have hne : (((canE o 15 : Nat) : Int) != 0) = true := by rw [bne_iff_ne]; omega
          simp only [if_neg hcan] at HGr
          generalize canE o 15 = E at *
          clear hcan HE
          go_wp2_with (first
            | (go_at_call 10; refine (HGr.out _ hbs).mono ?_; rintro e W3 ⟨hb3, B, nn, d, f', xs', rfl, hown, rfl, rfl⟩; unfold treeV)
            | (refine store_new rfl 26 (.tmp 9) (.tmp 76) rfl _ _ rfl rfl rfl 26 _ (by rw [cellsOf_size]; exact tree_size) (by rw [cellsOf_size]; rfl) (cellsOf_one (fun k _ => treeH_one _ _ _ _ k)) ?_))
          go_ret
          exact ChkRes.mk' hE.out rfl ((hbw.trans (hb3.mono hbw.size)).alloc (Nat.le_trans hbw.size hb3.size) _)
end Go.Proofs.Ytpfhaalbikgmnaa
