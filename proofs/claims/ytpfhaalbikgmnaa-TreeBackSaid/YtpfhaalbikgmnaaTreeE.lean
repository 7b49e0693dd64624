/-
  Walks: the reference's Lengths.
-/
import Derived.Test.YtpfhaalbikgmnaaTreeD
import Derived.Deep.RegionHeld3
namespace Go.Proofs.Ytpfhaalbikgmnaa
open Go.RowKit

theorem nthI_part {xs : List Int} {a m j : Nat} (h : j < m) : nthI ((xs.drop a).take m) j = nthI xs (a + j) := by
  unfold nthI
  rw [List.getElem?_take, if_pos h, List.getElem?_drop]
theorem rows_zero {f : Nat → Int} {m : Nat} {xs : List Int} {o : List Nat} (h : f 0 ≠ 0) : rowsT f (m + 1) 0 xs o = none := rows_bad (by omega)
/-- A tree's row of cells. -/
theorem Arr.range {w : World} {g n : Nat} {t : TypeId} {f : Nat → Value} (h : Arr w g t n f) : w.rangeAt g 0 ((List.range n).map f) := by
  intro j u hu
  have hj : j < n := by
    rcases Nat.lt_or_ge j n with h | h
    · exact h
    · rw [List.getElem?_eq_none (by simpa using h)] at hu; cases hu
  rw [Nat.zero_add, Arr.cell h j hj, ← hu]
  simp [hj]
def LenRes (w w' : World) (e : Ending) (r : Option (List Nat)) : Prop := Below w.heap.size w w' ∧ match r with
  | none => e = .returned (.tuple #[.slice none 0 0, .bool false])
  | some l => l.length = 320 ∧ ∃ B d, e = .returned (.tuple #[.slice B 320 d, .bool true]) ∧ Builds w w' 5 1 B 320 d (u8s l)
theorem LenRes.yes {w w' : World} {e : Ending} {r : Option (List Nat)} {l : List Nat} (h : r = some l) (hl : l.length = 320) {B : Option Addr} {d : Nat} (hb : Builds w w' 5 1 B 320 d (u8s l)) (he : e = .returned (.tuple #[.slice B 320 d, .bool true])) : LenRes w w' e r := by subst h; exact ⟨hb.1, hl, B, d, he, hb⟩
theorem LenRes.no {w w' : World} {e : Ending} {r : Option (List Nat)} (h : r = none) (hb : Below w.heap.size w w') (he : e = .returned (.tuple #[.slice none 0 0, .bool false])) : LenRes w w' e r := by subst h; exact ⟨hb, he⟩

set_option maxRecDepth 100000 in
set_option maxHeartbeats 4000000 in
theorem rlengths_any (f : Nat → Int) (A : Option Addr) (n c : Nat) (xs : List Int) (w : World) (hx : Rd w A (ints xs)) (hn : n = xs.length) (hn1 : n ≤ 1001) :
    Calls Try.prog 30 #[treeV f A n c] w fun e w' => LenRes w w' e (chkT f xs) := by
  unfold treeV
  have HB : ∀ o, Below w.heap.size w (w.alloc o) := fun o => (Below.refl _ _).alloc (Nat.le_refl _) _
  have ka : Arr (w.alloc (.cells (cellsOf 17 (treeH f (.slice A n c))) 26)) w.heap.size 26 17 (treeH f (.slice A n c)) := Blk.new _ _ _
  have hb := HB (.cells (cellsOf 17 (treeH f (.slice A n c))) 26)
  have HN := Lib.hid hn
  clear HB hn
  have MK := fun (W1 : World) (ka : Arr W1 w.heap.size 26 17 (treeH f (.slice A n c))) => (Arr.cell ka 16 (by omega)).trans (congrArg some treeH_16)
  have MZ := fun (W1 : World) (ka : Arr W1 w.heap.size 26 17 (treeH f (.slice A n c))) => (Arr.cell ka 0 (by omega)).trans (congrArg some (treeH_lt (by omega)))
  by_cases hl : 320 < n
  · have hE := Lib.hid (chk_many (f := f) (xs := xs) (by rw [← HN.out]; exact hl))
    have ca := MK _ ka
    go_enter Try.func30, Try.ntmps30
    go_upto_region 1 with (fail)
    change Code.wp _ _ _ _ (w.alloc (.cells (cellsOf 17 (treeH f (.slice A n c))) 26))
    generalize w.alloc (.cells (cellsOf 17 (treeH f (.slice A n c))) 26) = W1 at *
    go_wp2_with (refine makes elem_u8 (z := .int .u8 0) (by kernel_rfl) rfl (.const (.int .i64 320)) (.const (.int .i64 320)) rfl 320 rfl rfl rfl (by omega) (by omega) (u8s (List.replicate 320 0)) (made_u8s 320) ?_; intro W2 hO; have ca2 := MK _ (Arr.below ka hO.1 (Blk.lt ka)))
    go_ret2
    exact LenRes.no hE.out (hb.trans (hO.1.mono hb.size)) rfl
  · have hl2 : ¬ (320 : Int) < n := by omega
    have hl' : n ≤ 320 := by omega
    clear hl
    by_cases h0 : f 0 = 0
    · obtain ⟨R, hR⟩ : ∃ R, rowsT f 16 0 xs (List.replicate 320 0) = R := ⟨_, rfl⟩
      have HR := Lib.hid hR
      have HR1 := Lib.hid ((rows_one h0).symm.trans hR)
      rw [h0] at MZ
      clear hR h0
      go_enter Try.func30, Try.ntmps30
      go_upto_region 1 with (fail)
      change Code.wp _ _ _ _ (w.alloc (.cells (cellsOf 17 (treeH f (.slice A n c))) 26))
      generalize w.alloc (.cells (cellsOf 17 (treeH f (.slice A n c))) 26) = W1 at *
      go_wp2_with (refine makes elem_u8 (z := .int .u8 0) (by kernel_rfl) rfl (.const (.int .i64 320)) (.const (.int .i64 320)) rfl 320 rfl rfl rfl (by omega) (by omega) (u8s (List.replicate 320 0)) (made_u8s 320) ?_; intro W2 hO; have ka2 := Arr.below ka hO.1 (Blk.lt ka); have ca2 := MK _ ka2; have cz := MZ _ ka2)
      have hO2 := hO.rebase hb
      clear hO ka hb ca2 cz MZ
      go_loopg [5, 6] 15 (fun gk v5 v6 wr => ∃ (k a : Nat) (o : List Nat), 1 ≤ k ∧ k ≤ 16 ∧ gk = 16 - k ∧ v6 = .int .i64 (k : Int) ∧ v5 = .int .i64 (a : Int) ∧ a ≤ n ∧
        Builds w wr 5 1 (some ⟨W1.heap.size, 0, none⟩) 320 320 (u8s o) ∧ o.length = 320 ∧ (∀ x ∈ o, x ≤ 15) ∧ Arr wr w.heap.size 26 17 (treeH f (.slice A n c)) ∧ rowsT f (16 - k) k (xs.drop a) o = R)
      case atStart => exact ⟨1, 0, _, by omega, by omega, rfl, rfl, rfl, by omega, hO2, by simp, by simp, ka2, HR1.out⟩
      case round =>
        clear hO2 ka2 HR1
        obtain ⟨k, a, o, hk1, hk, hgk, rfl, rfl, han, hO, ho, ho15, ka, hR⟩ := hrel
        have HO := Lib.hid (And.intro ho ho15)
        have HR2 := Lib.hid hR
        have ca := MK _ ka
        clear ho ho15 hR
        by_cases hlt : k < 16
        · have hd : decide ((k : Int) ≤ 15) = true := decide_eq_true (by omega)
          obtain ⟨q, hq⟩ : ∃ q, f k = q := ⟨_, rfl⟩
          have HQ := Lib.hid hq
          have cq := (Arr.cell ka k (by omega)).trans (congrArg some (treeH_lt hlt))
          rw [hq] at cq
          have hxl : (xs.drop a).length = n - a := by rw [List.length_drop, ← HN.out]
          by_cases h1 : q < 0
          · have hE := Lib.hid (chk_rows (f := f) (xs := xs) (by rw [← HN.out]; exact hl') (by rw [HR.out, ← HR2.out, show 16 - k = (15 - k) + 1 by omega, rows_bad (by left; rw [hq]; exact h1)]))
            clear hq hxl
            go_wp2_with fail
            go_quiet (fail)
            go_wp2_with fail
            go_ret2
            exact LenRes.no hE.out (below_drewN' hO.1 _) rfl
          · have h1' : decide (q < 0) = false := decide_eq_false h1
            have hwr : IntKind.i64.wrap ((n : Int) - (a : Int)) = (n : Int) - (a : Int) := IntWalk.i64_in _ (by omega)
            by_cases h2 : (n : Int) - a < q
            · have hE := Lib.hid (chk_rows (f := f) (xs := xs) (by rw [← HN.out]; exact hl') (by rw [HR.out, ← HR2.out, show 16 - k = (15 - k) + 1 by omega, rows_bad (by right; left; rw [hq, hxl]; omega)]))
              clear hq hxl
              go_wp2_with fail
              go_quiet (fail)
              go_wp2_with fail
              go_ret2
              exact LenRes.no hE.out (below_drewN' hO.1 _) rfl
            · have h2' : decide ((n : Int) - a < q) = false := decide_eq_false h2
              have HR3 := Lib.hid (show innT f (15 - k) k ((xs.drop a).drop q.toNat) (((xs.drop a).take q.toNat).drop 0) o = R by rw [← HR2.out, show 16 - k = (15 - k) + 1 by omega, rows_inn (by rw [hq, hxl]; omega), hq])
              clear HR2 hq hxl
              obtain ⟨m, rfl⟩ : ∃ m : Nat, q = (m : Int) := ⟨q.toNat, by omega⟩
              rw [Int.toNat_natCast, List.drop_drop] at HR3
              have hm : m ≤ n - a := by omega
              go_wp2_with fail
              go_quiet (fail)
              go_wp2_with fail
              obtain ⟨row, hrow⟩ : ∃ row, (xs.drop a).take m = row := ⟨_, rfl⟩
              rw [hrow] at HR3
              have HI := Lib.hid (show ∀ j, j < m → nthI row j = nthI xs (a + j) from fun j hj => by rw [← hrow, nthI_part hj])
              have HL := Lib.hid (show row.length = m by rw [← hrow, List.length_take, List.length_drop, ← HN.out]; omega)
              have HG := Lib.hid hgk
              clear hrow hgk cq h1 h1' h2 h2' hwr
              go_loopg [7] m (fun gi v7 wr => ∃ (j : Nat) (o : List Nat), j ≤ m ∧ gi = m - j ∧ v7 = .int .i64 (j : Int) ∧
                Builds w wr 5 1 (some ⟨W1.heap.size, 0, none⟩) 320 320 (u8s o) ∧ o.length = 320 ∧ (∀ x ∈ o, x ≤ 15) ∧ Arr wr w.heap.size 26 17 (treeH f (.slice A n c)) ∧ innT f (15 - k) k (xs.drop (a + m)) (row.drop j) o = R)
              case atStart => exact ⟨0, o, by omega, rfl, rfl, hO.drewN _, HO.out.1, HO.out.2, ka, HR3.out⟩
              case round =>
                clear hO ka HR3 HO ca
                clear o
                obtain ⟨j, o, hj, hgi, rfl, hO, ho, ho15, ka, hR⟩ := hrel
                have HO := Lib.hid (And.intro ho ho15)
                have HR3 := Lib.hid hR
                clear ho ho15 hR
                have ca := MK _ ka
                have cq := (Arr.cell ka k (by omega)).trans (congrArg some ((treeH_lt hlt).trans (congrArg (Value.int .i64) HQ.out)))
                by_cases hjm : j < m
                · have hdj : decide ((j : Int) < (m : Int)) = true := decide_eq_true (by omega)
                  obtain ⟨b, off, rfl, hcell⟩ := (hx.below hO.1).int (i := a + j) (by rw [← HN.out]; omega)
                  obtain ⟨s, hs⟩ : ∃ s, nthI xs (a + j) = s := ⟨_, rfl⟩
                  have hs' := (HI.out j hjm).trans hs
                  rw [hs] at hcell
                  have HS := Lib.hid hs'
                  clear hs hs'
                  by_cases h1 : s < 0
                  · have hE := Lib.hid (chk_rows (f := f) (xs := xs) (by rw [← HN.out]; exact hl') (by rw [HR.out, ← HR3.out, inn_bad (by rw [HL.out]; exact hjm) (by left; rw [HS.out]; exact h1)]))
                    go_wp2_with fail
                    go_ret2
                    exact LenRes.no hE.out hO.1 rfl
                  · by_cases h2 : 320 ≤ s
                    · have hE := Lib.hid (chk_rows (f := f) (xs := xs) (by rw [← HN.out]; exact hl') (by rw [HR.out, ← HR3.out, inn_bad (by rw [HL.out]; exact hjm) (by right; left; rw [HS.out]; exact h2)]))
                      have h1' : decide (s < 0) = false := decide_eq_false h1
                      go_wp2_with fail
                      go_ret2
                      exact LenRes.no hE.out hO.1 rfl
                    · have h1' : decide (s < 0) = false := decide_eq_false h1
                      obtain ⟨p, rfl⟩ : ∃ p : Nat, s = (p : Int) := ⟨s.toNat, by omega⟩
                      have hp : p < 320 := by omega
                      have h2' : decide ((320 : Int) ≤ (p : Int)) = false := decide_eq_false h2
                      have h3' : decide (320 ≤ p) = false := decide_eq_false (by omega)
                      clear h1 h2
                      have hco := hO.cell p (by omega)
                      rw [u8s_get o p (by rw [HO.out.1]; exact hp)] at hco
                      have hfo := hO.free p
                      have hx15 := nth_le_t HO.out.2 p
                      by_cases h0 : nth o p = 0
                      · rw [h0] at hco
                        have hO2 := hO.set p (by omega) (.int .u8 (k : Int))
                        rw [u8s_set] at hO2
                        have HO2 := Lib.hid (And.intro (show (o.set p k).length = 320 by rw [List.length_set]; exact HO.out.1) (mem_set_le (i := p) HO.out.2 (show k ≤ 15 by omega)))
                        have hst := inn_step (f := f) (m := 15 - k) (n := k) (rest := xs.drop (a + m)) (row := row) (j := j) (o := o) (by rw [HL.out]; exact hjm) (by rw [HS.out, Int.toNat_natCast, h0]; omega)
                        rw [HS.out, Int.toNat_natCast] at hst
                        have HR4 := Lib.hid (hst.symm.trans HR3.out)
                        clear hst h0 hx15
                        have ka2 := Arr.far ka (p := ⟨W1.heap.size, p, none⟩) (fun e => own_blk_ne hO.2 ka (by decide) (by rw [e]; rfl)) (.int .u8 (k : Int))
                        go_wp2_with fail
                        go_roundg (m - (j + 1))
                        case measure => omega
                        case rel => exact ⟨j + 1, _, by omega, by omega, by go_num, hO2, HO2.out.1, HO2.out.2, ka2, HR4.out⟩
                      · have hE := Lib.hid (chk_rows (f := f) (xs := xs) (by rw [← HN.out]; exact hl') (by rw [HR.out, ← HR3.out, inn_bad (by rw [HL.out]; exact hjm) (by right; right; rw [HS.out, Int.toNat_natCast]; exact h0)]))
                        have h0' : (((nth o p : Nat) : Int) != 0) = true := by rw [bne_iff_ne]; omega
                        clear h0
                        generalize nth o p = x at *
                        go_wp2_with fail
                        go_ret2
                        exact LenRes.no hE.out hO.1 rfl
                · obtain rfl : j = m := by omega
                  have HR5 := Lib.hid (show rowsT f (15 - k) (k + 1) (xs.drop (a + j)) o = R by rw [← HR3.out, ← inn_end (row := row), HL.out])
                  clear HR3
                  go_wp2_with fail
                  go_roundg (16 - (k + 1))
                  case measure => have := HG.out; omega
                  case rel => exact ⟨k + 1, a + j, o, by omega, by omega, by omega, by go_num, by go_num, by omega, hO, HO.out.1, HO.out.2, ka, by rw [show 16 - (k + 1) = 15 - k by omega]; exact HR5.out⟩
        · obtain rfl : k = 16 := by omega
          have HE := Lib.hid (chk_end (f := f) (xs := xs) (by rw [← HN.out]; exact hl') (o := o) (r := xs.drop a) (by rw [HR.out, ← HR2.out]; rfl))
          clear HR2
          have hbs : Bs wr (some ⟨W1.heap.size, 0, none⟩) o := rd_u8 hO.rd (fun x hx => by have := HO.out.2 x hx; omega)
          have hbw := hO.1
          by_cases han2 : a = n
          · subst han2
            by_cases hcan : canE o 15 = 0
            · have hdr : xs.drop a = [] := List.drop_eq_nil_of_le (by rw [← HN.out]; exact Nat.le_refl _)
              obtain ⟨z, hz⟩ : ∃ z, sameT (cntS (allP o 16)) f (symS (allP o 16)) xs = z := ⟨_, rfl⟩
              have hE := Lib.hid (show chkT f xs = if z = true then some o else none by rw [HE.out]; unfold endT; rw [hz]; cases z <;> simp [hcan, hdr])
              have hle := allP_le o 16
              rw [HO.out.1] at hle
              have HS := Lib.hid (fun wx (b : Below wr.heap.size wr wx) => show wx.cell? ⟨w.heap.size, 0, none⟩ = some (.int .i64 (f 0)) ∧ wx.cell? ⟨w.heap.size, 1, none⟩ = some (.int .i64 (f 1)) ∧ wx.cell? ⟨w.heap.size, 2, none⟩ = some (.int .i64 (f 2)) ∧ wx.cell? ⟨w.heap.size, 3, none⟩ = some (.int .i64 (f 3)) ∧ wx.cell? ⟨w.heap.size, 4, none⟩ = some (.int .i64 (f 4)) ∧ wx.cell? ⟨w.heap.size, 5, none⟩ = some (.int .i64 (f 5)) ∧ wx.cell? ⟨w.heap.size, 6, none⟩ = some (.int .i64 (f 6)) ∧ wx.cell? ⟨w.heap.size, 7, none⟩ = some (.int .i64 (f 7)) ∧ wx.cell? ⟨w.heap.size, 8, none⟩ = some (.int .i64 (f 8)) ∧ wx.cell? ⟨w.heap.size, 9, none⟩ = some (.int .i64 (f 9)) ∧ wx.cell? ⟨w.heap.size, 10, none⟩ = some (.int .i64 (f 10)) ∧ wx.cell? ⟨w.heap.size, 11, none⟩ = some (.int .i64 (f 11)) ∧ wx.cell? ⟨w.heap.size, 12, none⟩ = some (.int .i64 (f 12)) ∧ wx.cell? ⟨w.heap.size, 13, none⟩ = some (.int .i64 (f 13)) ∧ wx.cell? ⟨w.heap.size, 14, none⟩ = some (.int .i64 (f 14)) ∧ wx.cell? ⟨w.heap.size, 15, none⟩ = some (.int .i64 (f 15)) ∧ wx.cell? ⟨w.heap.size, 16, none⟩ = some (.slice A a c) from by
                have kx := Arr.below ka b (Blk.lt ka)
                exact ⟨Arr.cell kx 0 (by omega), Arr.cell kx 1 (by omega), Arr.cell kx 2 (by omega), Arr.cell kx 3 (by omega), Arr.cell kx 4 (by omega), Arr.cell kx 5 (by omega), Arr.cell kx 6 (by omega), Arr.cell kx 7 (by omega), Arr.cell kx 8 (by omega), Arr.cell kx 9 (by omega), Arr.cell kx 10 (by omega), Arr.cell kx 11 (by omega), Arr.cell kx 12 (by omega), Arr.cell kx 13 (by omega), Arr.cell kx 14 (by omega), Arr.cell kx 15 (by omega), Arr.cell kx 16 (by omega)⟩)
              have HC := Lib.hid (fun wx (b : Below wr.heap.size wr wx) => show Calls Try.prog 28 #[.slice (some ⟨W1.heap.size, 0, none⟩) 320 320, .int .i64 15] wx (fun e w' => e = .returned (.int .i64 0) ∧ w' = wx) from by have := rcheck_any (some ⟨W1.heap.size, 0, none⟩) 320 o 15 wx (hbs.below b) (by rw [HO.out.1]; omega) (by omega) (by omega); rw [HO.out.1, hcan] at this; exact this)
              have HG := Lib.hid (fun wx (b : Below wr.heap.size wr wx) => show Calls Try.prog 29 #[.slice (some ⟨W1.heap.size, 0, none⟩) 320 320] wx (fun e w' => ∃ (B : Option Addr) (d : Nat), e = .returned (.agg (cellsOf 17 (treeH (cntS (allP o 16)) (.slice B (allP o 16).length d)))) ∧ Below wr.heap.size wr w' ∧ Rd w' B (ints (symS (allP o 16)))) from by
                have := rgrown_any (some ⟨W1.heap.size, 0, none⟩) 320 o wx (hbs.below b) (by rw [HO.out.1]; omega)
                rw [HO.out.1] at this
                exact this.mono fun e w' ⟨B, d, h1, h2⟩ => ⟨B, d, h1, b.trans (h2.1.mono b.size), h2.rd⟩)
              have HX := Lib.hid (fun wx B d (b : Below wr.heap.size wr wx) (hr : Rd wx B (ints (symS (allP o 16)))) => show Calls Try.prog 12 #[.agg (cellsOf 17 (treeH (cntS (allP o 16)) (.slice B (allP o 16).length d))), .agg #[(.int .i64 (f 0)), (.int .i64 (f 1)), (.int .i64 (f 2)), (.int .i64 (f 3)), (.int .i64 (f 4)), (.int .i64 (f 5)), (.int .i64 (f 6)), (.int .i64 (f 7)), (.int .i64 (f 8)), (.int .i64 (f 9)), (.int .i64 (f 10)), (.int .i64 (f 11)), (.int .i64 (f 12)), (.int .i64 (f 13)), (.int .i64 (f 14)), (.int .i64 (f 15)), (.slice A a c)]] wx (fun e w' => e = .returned (.bool z) ∧ Below wr.heap.size wr w') from by
                have := rsame_any (cntS (allP o 16)) f B A (allP o 16).length d a c (symS (allP o 16)) xs wx hr (hx.below (hbw.trans (b.mono hbw.size))) (symS_length _).symm HN.out (by omega) hn1
                rw [hz] at this
                exact this.mono fun e w' ⟨h1, h2⟩ => ⟨h1, b.trans (h2.mono b.size)⟩)
              clear HE hz hdr hcan hle hbs
              cases z
              all_goals
                go_upto_region 18 with (fail)
                have s0 := HS.out wr (Below.refl _ _)
                go_region_held3 (fun wx => wx.cell? ⟨w.heap.size, 0, none⟩ = some (.int .i64 (f 0)) ∧ wx.cell? ⟨w.heap.size, 1, none⟩ = some (.int .i64 (f 1)) ∧ wx.cell? ⟨w.heap.size, 2, none⟩ = some (.int .i64 (f 2)) ∧ wx.cell? ⟨w.heap.size, 3, none⟩ = some (.int .i64 (f 3)) ∧ wx.cell? ⟨w.heap.size, 4, none⟩ = some (.int .i64 (f 4)) ∧ wx.cell? ⟨w.heap.size, 5, none⟩ = some (.int .i64 (f 5)) ∧ wx.cell? ⟨w.heap.size, 6, none⟩ = some (.int .i64 (f 6)) ∧ wx.cell? ⟨w.heap.size, 7, none⟩ = some (.int .i64 (f 7)) ∧ wx.cell? ⟨w.heap.size, 8, none⟩ = some (.int .i64 (f 8)) ∧ wx.cell? ⟨w.heap.size, 9, none⟩ = some (.int .i64 (f 9)) ∧ wx.cell? ⟨w.heap.size, 10, none⟩ = some (.int .i64 (f 10)) ∧ wx.cell? ⟨w.heap.size, 11, none⟩ = some (.int .i64 (f 11)) ∧ wx.cell? ⟨w.heap.size, 12, none⟩ = some (.int .i64 (f 12)) ∧ wx.cell? ⟨w.heap.size, 13, none⟩ = some (.int .i64 (f 13)) ∧ wx.cell? ⟨w.heap.size, 14, none⟩ = some (.int .i64 (f 14)) ∧ wx.cell? ⟨w.heap.size, 15, none⟩ = some (.int .i64 (f 15)) ∧ wx.cell? ⟨w.heap.size, 16, none⟩ = some (.slice A a c)) (first | exact s0 | exact s2 | exact s3) (first
                  | (go_at_call 28; with_reducible refine Calls.mono (HC.out _ (by first | with_reducible exact (Below.refl _ _) | with_reducible exact below_drewN' (Below.refl _ _) _ | with_reducible exact Below.drew (Below.refl _ _))) ?_; rintro e wa ⟨rfl, rfl⟩)
                  | (go_at_call 29; with_reducible refine Calls.mono (HG.out _ (by first | with_reducible exact (Below.refl _ _) | with_reducible exact below_drewN' (Below.refl _ _) _ | with_reducible exact Below.drew (Below.refl _ _))) ?_; rintro e wb ⟨B, d, rfl, bb, rb⟩; have s2 := HS.out _ bb)
                  | (go_at_call 12; have hh := bb; clear hh; with_reducible refine Calls.mono (HX.out _ _ _ (by first | with_reducible exact bb | with_reducible exact below_drewN' bb _ | with_reducible exact Below.drew bb) (by first | with_reducible exact rb | with_reducible exact Rd.drewN rb _ | with_reducible exact Rd.drew rb)) ?_; rintro e wc ⟨rfl, bc⟩; have s3 := HS.out _ bc))
                go_wp2_with fail
                go_ret2
                first
                  | exact LenRes.no (hE.out.trans (by simp)) (hbw.trans (bc.mono hbw.size)) rfl
                  | exact LenRes.yes (hE.out.trans (by simp)) HO.out.1 (hO.below bc) rfl
            · have hE := Lib.hid (HE.out.trans (if_neg (fun h => hcan h.1)))
              have HC := Lib.hid (fun wx (hl : Bs wx (some ⟨W1.heap.size, 0, none⟩) o) => show Calls Try.prog 28 #[.slice (some ⟨W1.heap.size, 0, none⟩) 320 320, .int .i64 15] wx (fun e w' => e = .returned (.int .i64 (canE o 15 : Nat)) ∧ w' = wx) from by have := rcheck_any (some ⟨W1.heap.size, 0, none⟩) 320 o 15 wx hl (by rw [HO.out.1]; omega) (by omega) (by omega); rw [HO.out.1] at this; exact this)
              have hne : (((canE o 15 : Nat) : Int) != 0) = true := by rw [bne_iff_ne]; omega
              generalize canE o 15 = E at *
              clear hcan HE
              go_wp2_with fail
              go_quiet ((go_at_call 28; exact Calls.quiet_of_same (HC.out _ hbs)))
              go_wp2_with fail
              go_ret2
              exact LenRes.no hE.out (below_drewN' hO.1 _) rfl
          · have hE := Lib.hid (HE.out.trans (if_neg (fun h => by have h2 := h.2.1; have := congrArg List.length h2; rw [List.length_drop, ← HN.out] at this; simp at this; omega)))
            have hne : ((a : Int) != (n : Int)) = true := by rw [bne_iff_ne]; omega
            have hne2 : (a != n) = true := by rw [bne_iff_ne]; omega
            clear HE han2
            go_wp2_with fail
            go_quiet (fail)
            go_wp2_with fail
            go_ret2
            exact LenRes.no hE.out (below_drewN' hO.1 _) rfl
    · have hE := Lib.hid (chk_rows (f := f) (xs := xs) (by rw [← HN.out]; exact hl') (rows_zero h0))
      have ca := MK _ ka
      have cz := MZ _ ka
      go_enter Try.func30, Try.ntmps30
      go_upto_region 1 with (fail)
      change Code.wp _ _ _ _ (w.alloc (.cells (cellsOf 17 (treeH f (.slice A n c))) 26))
      generalize w.alloc (.cells (cellsOf 17 (treeH f (.slice A n c))) 26) = W1 at *
      have hne : (f 0 != 0) = true := by rw [bne_iff_ne]; exact h0
      clear h0
      generalize f 0 = q at *
      go_wp2_with (refine makes elem_u8 (z := .int .u8 0) (by kernel_rfl) rfl (.const (.int .i64 320)) (.const (.int .i64 320)) rfl 320 rfl rfl rfl (by omega) (by omega) (u8s (List.replicate 320 0)) (made_u8s 320) ?_; intro W2 hO; have ca2 := MK _ (Arr.below ka hO.1 (Blk.lt ka)); have cz2 := MZ _ (Arr.below ka hO.1 (Blk.lt ka)))
      go_ret2
      exact LenRes.no hE.out (hb.trans (hO.1.mono hb.size)) rfl
end Go.Proofs.Ytpfhaalbikgmnaa
