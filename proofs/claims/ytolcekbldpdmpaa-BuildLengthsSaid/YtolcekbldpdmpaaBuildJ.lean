/-
  Walks: the document's least.
-/
import Derived.Test.YtolcekbldpdmpaaBuildI
namespace Go.Proofs.Ytolcekbldpdmpaa
open Go.RowKit

theorem pairT_add {g : Tr → Nat} {M : Nat} (hg : ∀ a b, g (.node a b) = g a + g b) : ∀ (l : List Tr), (∀ x ∈ l, g x ≤ M) → ∀ x ∈ pairT l, g x ≤ 2 * M
  | [], _, x, hx => by simp [pairT] at hx
  | [_], _, x, hx => by simp [pairT] at hx
  | a :: b :: r, h, x, hx => by
    rw [pairT, List.mem_cons] at hx
    rcases hx with rfl | hx
    · have h1 := h a (by simp)
      have h2 := h b (by simp)
      rw [hg]; omega
    · exact pairT_add hg r (fun y hy => h y (by simp [hy])) x hx
theorem row_add {g : Tr → Nat} {B : Nat} (f : Nat → Nat) (n : Nat) (hg : ∀ a b, g (.node a b) = g a + g b) (hl : ∀ k, k < n → g (.leaf k) ≤ B) : ∀ t, ∀ x ∈ rowT f n t, g x ≤ B * 2 ^ t
  | 0, x, hx => by
    rw [rowT] at hx
    unfold itemsT at hx
    simp only [List.mem_map, List.mem_range] at hx
    obtain ⟨k, hk, rfl⟩ := hx
    simpa using hl k hk
  | t + 1, x, hx => by
    rw [rowT, mrg_mem] at hx
    rcases hx with hx | hx
    · unfold itemsT at hx
      simp only [List.mem_map, List.mem_range] at hx
      obtain ⟨k, hk, rfl⟩ := hx
      have h1 := hl k hk
      have h2 : B * 1 ≤ B * 2 ^ (t + 1) := Nat.mul_le_mul_left _ (Nat.one_le_two_pow)
      omega
    · have := pairT_add hg _ (row_add f n hg hl t) x hx
      rw [Nat.pow_succ]
      have e : B * (2 ^ t * 2) = 2 * (B * 2 ^ t) := by rw [← Nat.mul_assoc, Nat.mul_comm]
      omega
theorem row_bounds (f : Nat → Nat) (n t : Nat) (ht : t ≤ 15) (hf : ∀ k, k < n → f k ≤ 1073741824) : ∀ x ∈ rowT f n t, wtT f x ≤ 1000000000000000000 ∧ ∀ k, ofT k x ≤ 1000000000000000000 := fun x hx => by
  have h15 : 2 ^ t ≤ 32768 := Nat.le_trans (Nat.pow_le_pow_right (n := 2) (by omega) ht) (by decide)
  constructor
  · have h1 := row_add (g := wtT f) (B := 1073741824) f n (fun _ _ => rfl) hf t x hx
    have h2 : 1073741824 * 2 ^ t ≤ 1073741824 * 32768 := Nat.mul_le_mul_left _ h15
    omega
  · intro k
    have h1 := row_add (g := ofT k) (B := 1) f n (fun _ _ => rfl) (fun j _ => by unfold ofT; split <;> omega) t x hx
    omega

/-- More for one item. -/
theorem outE_add {fr ys : List Int} (h : Items fr ys) (e : Nat → Nat) {q : Nat} (v : Nat) (hq : q < ys.length) (i : Nat) : outE ys (fun k => if k = q then e k + v else e k) i = if i = itF ys q then outE ys e i + v else outE ys e i := by
  by_cases hi : i = itF ys q
  · subst hi
    rw [if_pos rfl, outE_at h _ hq, outE_at h _ hq, if_pos rfl]
  · rw [if_neg hi]
    unfold outE
    refine sumN_congr fun k hk => ?_
    by_cases e1 : itF ys k = i
    · rw [if_pos e1, if_pos e1]
      exact if_neg fun e2 => hi (by rw [← e2]; exact e1.symm)
    · rw [if_neg e1, if_neg e1]
/-- What the first i of the row, and the first q counts of the next one, have given. -/
def eR (row : List Tr) (i q k : Nat) : Nat := sumT (ofT k) (row.take i) + if k < q then (match row[i]? with | some t => ofT k t | none => 0) else 0
theorem eR_zero (row : List Tr) (i : Nat) : eR row i 0 = fun k => sumT (ofT k) (row.take i) := by funext k; simp [eR]
theorem eR_step {row : List Tr} {i q : Nat} {t : Tr} (h : row[i]? = some t) : eR row i (q + 1) = fun k => if k = q then eR row i q k + ofT q t else eR row i q k := by
  funext k
  unfold eR
  rw [h]
  dsimp only
  by_cases e : k = q
  · subst e; rw [if_pos (by omega), if_pos rfl, if_neg (by omega)]; omega
  · rw [if_neg e]
    by_cases e2 : k < q
    · rw [if_pos (by omega), if_pos e2]
    · rw [if_neg (by omega), if_neg e2]
theorem eR_full {row : List Tr} {i n : Nat} {t : Tr} (h : row[i]? = some t) (k : Nat) (hk : k < n) : eR row i n k = eR row (i + 1) 0 k := by
  rw [eR_zero]
  unfold eR
  rw [if_pos hk, h, List.take_add_one, h]
  dsimp only
  rw [Option.toList_some, sumT_append]
  simp [sumT]
theorem sumT_take_le (g : Tr → Nat) (row : List Tr) : ∀ i j, i ≤ j → sumT g (row.take i) ≤ sumT g (row.take j) := fun i j h => by
  have : row.take i = (row.take j).take i := by rw [List.take_take, Nat.min_eq_left h]
  rw [this]
  generalize row.take j = l
  conv => rhs; rw [← List.take_append_drop i l]
  rw [sumT_append]; omega
theorem eR_le (row : List Tr) {i m q k : Nat} (hi : i < m) (hm : m ≤ row.length) : eR row i q k ≤ sumT (ofT k) (row.take m) := by
  have h1 := sumT_take_le (ofT k) row (i + 1) m (by omega)
  have h2 : sumT (ofT k) (row.take (i + 1)) = sumT (ofT k) (row.take i) + ofT k (row[i]'(by omega)) := by
    rw [List.take_add_one, List.getElem?_eq_getElem (by omega : i < row.length), Option.toList_some, sumT_append]; simp [sumT]
  unfold eR
  rw [List.getElem?_eq_getElem (by omega : i < row.length)]
  dsimp only
  split <;> omega
theorem made_bytes2 (n : Nat) : (madeCells (Value.int .u8 0).cells (n * 1)).toList = u8s (List.replicate n 0) := by rw [Nat.mul_one, made_zeros _ rfl, zeros_list, u8s_zeros]

set_option maxRecDepth 100000 in
set_option maxHeartbeats 8000000 in
theorem least_is (F : Option Addr) (nf cF : Nat) (fr : List Int) (I : Option Addr) (ni cI : Nat) (ys : List Int) (L : Nat) (w : World) (hF : Rd w F (ints fr)) (hI : Rd w I (ints ys)) (hn : nf = fr.length) (hni : ni = ys.length) (hIt : Items fr ys) (hL1 : 1 ≤ L) (hL15 : L ≤ 15) (h2 : 2 ≤ ni) (hnL : ni ≤ 2 ^ L) (hnf : nf ≤ 320) (hinf : ni ≤ nf)
    (hfr : ∀ i, i < fr.length → 0 ≤ nthI fr i ∧ nthI fr i ≤ 1073741824) :
    Calls Try.prog 25 #[.slice F nf cF, .slice I ni cI, .int .i64 (L : Int)] w fun e w' => ∃ A c, e = .returned (.slice A nf c) ∧ Builds w w' 5 1 A nf c (u8s (outL fr ys L)) := by
  obtain ⟨f, hf⟩ : ∃ f, wtF fr ys = f := ⟨_, rfl⟩
  have hit : ∀ k, k < ni → ∃ i : Nat, nthI ys k = (i : Int) ∧ i < nf ∧ nthI fr i = (f k : Int) ∧ itF ys k = i ∧ f k ≤ 1073741824 := fun k hk => by
    obtain ⟨y1, y2, y3⟩ := hIt.rng (nthI ys k) (by rw [nthI_el (by omega)]; exact List.getElem_mem _)
    have e : itF ys k = (nthI ys k).toNat := rfl
    have a4' := hfr (itF ys k) (by omega)
    have e5 : f k = (nthI fr (itF ys k)).toNat := by rw [← hf]; rfl
    exact ⟨itF ys k, by omega, by omega, by rw [← e] at y3; omega, rfl, by omega⟩
  have HF1 := Lib.hid (first_is F nf cF fr I ni cI ys f w hF hI hn hni (by omega) (fun k hk => by obtain ⟨i, h1, h2, h3, _⟩ := hit k hk; exact ⟨i, h1, h2, h3⟩))
  have HN := Lib.hid (And.intro hn (And.intro hni (And.intro hIt hf)))
  have HIt := Lib.hid hit
  have HB := Lib.hid (fun t (ht : t ≤ 15) => row_bounds f ni t ht (fun k hk => by obtain ⟨_, _, _, _, _, h⟩ := hit k hk; exact h))
  clear hn hni hIt hf hit hfr
  go_enter Try.func25, Try.ntmps25
  go_wp2_with fail
  refine (HF1.out).mono ?_
  rintro e w1 ⟨A1, c1, xs1, rfl, hB1, hP1, hT1⟩
  rw [itemsT_length] at hB1 ⊢
  have hl1 : xs1.length = ni := by rw [← trees_len, hT1, itemsT_length]
  have hR1 := hB1.rd
  have HT1 := Lib.hid (And.intro hT1 hl1)
  have hb1 := hB1.1
  have HP1 := Lib.hid hP1
  clear hT1 hl1 hB1 HF1 hP1
  go_wp2_with fail
  go_loopg [8, 9] (L - 1) (fun gk v8 v9 wr => ∃ (A : Option Addr) (c k nr : Nat) (xs : List Pc), 1 ≤ k ∧ k ≤ L ∧ gk = L - k ∧ v9 = .int .i64 (k : Int) ∧ v8 = .slice A nr c ∧ nr ≤ 640 ∧ Rd wr A (pcC f ni xs) ∧ Below w1.heap.size w1 wr ∧ Hid (PcOk ni wr xs ∧ trees xs = rowT f ni (k - 1) ∧ nr = xs.length))
  case atStart => exact ⟨A1, c1, 1, ni, xs1, by omega, hL1, rfl, rfl, rfl, by omega, hR1, Below.refl _ _, Lib.hid ⟨HP1.out, HT1.out.1, HT1.out.2.symm⟩⟩
  case round =>
    obtain ⟨A, c, k, nr, xs, hk1, hk2, hgk, rfl, rfl, hnr, hR, hbw, HX⟩ := hrel
    have HG := Lib.hid hgk
    clear hgk
    by_cases hlt : k < L
    · have hlt' : (k : Int) < (L : Int) := by omega
      have HPr := Lib.hid (pairs_is A nr c xs f ni wr hR HX.out.1 HX.out.2.2 (by omega) (by omega) (fun x hx => HB.out (k - 1) (by omega) x.1 (by rw [← HX.out.2.1]; exact List.mem_map_of_mem hx)))
      go_wp2_with fail
      refine (HPr.out).mono ?_
      rintro e w2 ⟨A2, c2, xs2, rfl, hB2, hP2, hT2⟩
      have hrow : trees xs = rowT f ni (k - 1) := HX.out.2.1
      rw [hrow] at hB2 hT2 ⊢
      obtain ⟨n2, hn2⟩ : ∃ n2, (pairT (rowT f ni (k - 1))).length = n2 := ⟨_, rfl⟩
      rw [hn2] at hB2 ⊢
      have hn2l : n2 ≤ 640 := by rw [← hn2, pairT_length]; have := row_le f ni (k - 1); omega
      have hx2l : n2 = xs2.length := by rw [← hn2, ← hT2, trees_len]
      have hR12 := (hR1.below hbw).below hB2.1
      have HMg := Lib.hid (merged_is A1 ni c1 xs1 A2 n2 c2 xs2 f ni w2 hR12 ((HP1.out.below hbw).below hB2.1) hB2.rd hP2 HT1.out.2.symm hx2l (by omega) (by omega))
      have hbw2 := hbw.trans (hB2.1.mono hbw.size)
      have HRw := Lib.hid (show mrg (leT f) (trees xs1) (trees xs2) = rowT f ni k by
        obtain ⟨j, hj⟩ : ∃ j, k = j + 1 := ⟨k - 1, by omega⟩
        rw [HT1.out.1, hT2, hj]; rfl)
      clear hB2 hP2 hT2 hrow hn2 hx2l hR12 hR HX HPr
      go_wp2_with fail
      refine (HMg.out).mono ?_
      rintro e w3 ⟨A3, c3, xs3, rfl, hB3, hP3, hT3⟩
      rw [HRw.out] at hB3 hT3 ⊢
      obtain ⟨n3, hn3⟩ : ∃ n3, (rowT f ni k).length = n3 := ⟨_, rfl⟩
      rw [hn3] at hB3 ⊢
      have hn3l : n3 ≤ 640 := by rw [← hn3]; have := row_le f ni k; omega
      have hR3 := hB3.rd
      have HX3 := Lib.hid (And.intro hP3 (And.intro hT3 (show n3 = xs3.length by rw [← hn3, ← hT3, trees_len])))
      have hbw3 := hbw2.trans (hB3.1.mono hbw2.size)
      clear hP3 hT3 hn3 hB3 hbw2 HMg
      go_wp2_with fail
      go_roundg (L - (k + 1))
      case measure => have := HG.out; omega
      case rel => exact ⟨A3, c3, k + 1, n3, xs3, by omega, by omega, rfl, by go_num, rfl, hn3l, hR3, hbw3, Lib.hid ⟨HX3.out.1, by rw [Nat.add_sub_cancel]; exact HX3.out.2.1, HX3.out.2.2⟩⟩
    · obtain rfl : L = k := by omega
      have hlt' : ¬ (L : Int) < (L : Int) := by omega
      have hbW := hb1.trans (hbw.mono hb1.size)
      have hFw := hF.below hbW
      have hIw := hI.below hbW
      clear hlt hk2 HG hbw hb1 hF hI hR1 HP1 HT1
      obtain ⟨row, hrow⟩ : ∃ row, rowT f ni (L - 1) = row := ⟨_, rfl⟩
      have hrl : row.length = nr := by rw [← hrow, ← HX.out.2.1, trees_len]; exact HX.out.2.2.symm
      obtain ⟨m, hm⟩ : ∃ m, 2 * ni - 2 = m := ⟨_, rfl⟩
      have hml : m ≤ nr := by
        have := row_enough (f := f) (n := ni) (L - 1) (by rw [show L - 1 + 1 = L by omega]; exact hnL)
        rw [hrow] at this; omega
      have HLen := Lib.hid (fun k => show sumT (ofT k) (row.take m) = lenT f ni (L - 1) (2 * ni - 2) k from by rw [← hrow, ← hm]; exact of_len f ni k (L - 1) _ (by rw [hrow]; omega))
      have HLe := Lib.hid (fun i q k (hi : i < m) => show eR row i q k ≤ 15 from by
        have h1 := eR_le row (q := q) (k := k) hi (by omega)
        rw [HLen.out] at h1
        have h2 := len_le (f := f) (n := ni) (L - 1) (2 * ni - 2) k
        omega)
      have HRow := Lib.hid (And.intro hrow hrl)
      obtain ⟨d2, hd2⟩ : ∃ d2, 2 * ni = d2 := ⟨_, rfl⟩
      have ed2 : (2 : Int) * (ni : Int) = (d2 : Int) := by omega
      have em : (d2 : Int) - 2 = (m : Int) := by omega
      have hd2l : d2 ≤ 1000 := by omega
      have HM := Lib.hid hm
      clear hrow hrl hm hd2
      go_upto_region 8 with (at_make; refine makes elem_u8 (z := .int .u8 0) (by kernel_rfl) rfl _ _ rfl nf rfl rfl rfl (by omega) (by omega) (u8s (List.replicate nf 0)) (made_bytes2 nf) ?_; intro w5 hO)
      obtain ⟨GO, hGO⟩ : ∃ GO, wr.heap.size = GO := ⟨_, rfl⟩
      rw [hGO] at hO ⊢
      have hz0 : List.replicate nf 0 = (List.range nf).map (outE ys (eR row 0 0)) := by
        refine (List.eq_replicate_iff.2 ⟨by simp, fun x hx => ?_⟩).symm
        obtain ⟨i, _, rfl⟩ := List.mem_map.1 hx
        rw [eR_zero]
        exact outE_zero ys i
      rw [hz0] at hO
      have HGO := Lib.hid hGO
      clear hz0 hGO
      generalize hWR : wr = WR at *
      clear hWR
      go_wp2_with fail
      go_loopg [11] m (fun gk v11 wr => ∃ i : Nat, i ≤ m ∧ gk = m - i ∧ v11 = .int .i64 (i : Int) ∧ Builds WR wr 5 1 (some ⟨GO, 0, none⟩) nf nf (u8s ((List.range nf).map (outE ys (eR row i 0)))))
      case atStart => exact ⟨0, by omega, rfl, rfl, hO⟩
      case round =>
        clear hO
        obtain ⟨i, hi, hgk, rfl, hO⟩ := hrel
        have HG := Lib.hid hgk
        clear hgk
        by_cases hlt : i < m
        · have hlt' : (i : Int) < (m : Int) := by omega
          have hil : i < xs.length := by have := HX.out.2.2; omega
          obtain ⟨⟨tx, gx, cx⟩, hxi⟩ : ∃ x, xs[i] = x := ⟨_, rfl⟩
          have okx := HX.out.1 (tx, gx, cx) (by rw [← hxi]; exact List.getElem_mem hil)
          have hri : row[i]? = some tx := by rw [← HRow.out.1, ← HX.out.2.1, trees_get hil, hxi]
          have hg := (pcC_get f ni xs i _ (by rw [List.getElem?_eq_getElem hil, hxi])).2
          dsimp only at okx hg
          obtain ⟨b, off, hRe, hcell⟩ := hR.at_ (by rw [pcC_length]; omega)
          subst hRe
          have HCs := Lib.hid (fun (wx : World) (hb : Below WR.heap.size WR wx) (q : Nat) (hq : q < ni) => show wx.cell? ⟨b, off + i * 2 + 1, none⟩ = some (.slice (some ⟨gx, 0, none⟩) ni cx) ∧ wx.cell? ⟨gx, q, none⟩ = some (.int .i64 ((ofT q tx : Nat) : Int)) from by
            obtain ⟨_, _, e1, h1⟩ := (hR.below hb).at_ (by rw [pcC_length]; omega)
            simp only [Option.some.injEq, Addr.mk.injEq, and_true] at e1
            obtain ⟨rfl, rfl⟩ := e1
            refine ⟨?_, Arr.cell (Arr.below okx.1 hb (Blk.lt okx.1)) q hq⟩
            have := h1 _ _ hg; rw [show off + (2 * i + 1) = off + i * 2 + 1 by omega] at this; exact this)
          have hcx := okx.2
          have HRi := Lib.hid hri
          have hinr : i < nr := by omega
          clear hcell hg hxi hri okx
          go_wp2_with fail
          go_loopg [12] ni (fun gq v12 wr => ∃ q : Nat, q ≤ ni ∧ gq = ni - q ∧ v12 = .int .i64 (q : Int) ∧ Builds WR wr 5 1 (some ⟨GO, 0, none⟩) nf nf (u8s ((List.range nf).map (outE ys (eR row i q)))))
          case atStart => exact ⟨0, by omega, rfl, rfl, hO⟩
          case round =>
            clear hO
            obtain ⟨q, hq, hgq, rfl, hO⟩ := hrel
            have HG2 := Lib.hid hgq
            clear hgq
            by_cases hltq : q < ni
            · have hltq' : (q : Int) < (ni : Int) := by omega
              obtain ⟨it, i1, i2, i3, i4, i5⟩ := HIt.out q hltq
              obtain ⟨c3, c4⟩ := HCs.out wr hO.1 q hltq
              obtain ⟨b2, off2, hIe, hcell2⟩ := (hIw.below hO.1).at_ (by rw [ints_length]; have := HN.out.2.1; omega)
              have c5 := hcell2 q _ (ints_get ys q (by have := HN.out.2.1; omega))
              rw [i1] at c5
              have co := Builds.cell hO it (by omega)
              rw [u8s_get _ _ (by simpa using i2)] at co
              have fo := Builds.free hO it
              have hval : nth ((List.range nf).map (outE ys (eR row i q))) it = eR row i q q := by
                have := outE_at HN.out.2.2.1 (eR row i q) (k := q) (by have := HN.out.2.1; omega)
                rw [i4] at this
                simp [nth, i2, this]
              rw [hval] at co
              have hst := eR_step (q := q) HRi.out
              have hle1 := HLe.out i (q + 1) q hlt
              have hle1' : eR row i (q + 1) q = eR row i q q + ofT q tx := by rw [hst]; exact if_pos rfl
              obtain ⟨x, hx⟩ : ∃ x, eR row i q q = x := ⟨_, rfl⟩
              obtain ⟨y, hy⟩ : ∃ y, ofT q tx = y := ⟨_, rfl⟩
              rw [hx] at co hle1'
              rw [hy] at c4 hle1'
              have hxy : x ≤ 15 ∧ y ≤ 15 ∧ x + y ≤ 15 := by omega
              obtain ⟨z, hz⟩ : ∃ z, x + y = z := ⟨_, rfl⟩
              have ez : (x : Int) + (y : Int) = (z : Int) := by omega
              have hzl : z ≤ 15 := by omega
              have HSt := Lib.hid (show Builds WR (wr.setCell ⟨GO, it, none⟩ (.int .u8 (z : Int))).drew 5 1 (some ⟨GO, 0, none⟩) nf nf (u8s ((List.range nf).map (outE ys (eR row i (q + 1))))) from by
                have := Builds.set hO it (by omega) (.int .u8 (z : Int))
                rw [show (u8s ((List.range nf).map (outE ys (eR row i q)))).set it (.int .u8 (z : Int)) = u8s (((List.range nf).map (outE ys (eR row i q))).set it z) by simp [u8s, List.map_set]] at this
                rw [show ((List.range nf).map (outE ys (eR row i q))).set it z = (List.range nf).map (outE ys (eR row i (q + 1))) from by
                  apply List.ext_getElem
                  · simp
                  · intro j h1 h2
                    simp only [List.length_set, List.length_map, List.length_range] at h1
                    have hs := outE_add HN.out.2.2.1 (eR row i q) (q := q) y (by have := HN.out.2.1; omega) j
                    rw [← hy, ← hst, i4] at hs
                    rw [List.getElem_set, List.getElem_map, List.getElem_map, List.getElem_range, hs]
                    by_cases e : it = j
                    · subst e
                      rw [if_pos rfl, if_pos rfl]
                      have := outE_at HN.out.2.2.1 (eR row i q) (k := q) (by have := HN.out.2.1; omega)
                      rw [i4, hx] at this
                      omega
                    · rw [if_neg e, if_neg (fun e' => e e'.symm)]] at this
                exact this.drew)
              subst hIe
              clear hcell2 hst hle1 hle1' hx hy hz hval i1 i3 i4 i5 hO
              generalize hw0 : wr = w0 at *
              clear hw0
              go_wp2_with fail
              go_region
              have hO2 := HSt.out
              generalize (w0.setCell ⟨GO, it, none⟩ (.int .u8 (z : Int))).drew = w6 at *
              clear c3 c4 c5 co fo HSt
              go_wp2_with fail
              go_roundg (ni - (q + 1))
              case measure => have := HG2.out; omega
              case rel => exact ⟨q + 1, by omega, rfl, by go_num, hO2⟩
            · obtain rfl : ni = q := by omega
              have hltq' : ¬ (ni : Int) < (ni : Int) := by omega
              have hfull : (List.range nf).map (outE ys (eR row i ni)) = (List.range nf).map (outE ys (eR row (i + 1) 0)) := by
                refine List.map_congr_left fun j _ => ?_
                exact outE_congr (fun k hk => eR_full HRi.out k (by have := HN.out.2.1; omega)) j
              rw [hfull] at hO
              clear hfull
              go_wp2_with fail
              go_roundg (m - (i + 1))
              case measure => have := HG.out; omega
              case rel => exact ⟨i + 1, by omega, rfl, by go_num, hO⟩
        · obtain rfl : m = i := by omega
          have hlt' : ¬ (m : Int) < (m : Int) := by omega
          have hfin : (List.range nf).map (outE ys (eR row m 0)) = outL fr ys L := by
            have hn := HN.out.1
            subst hn
            unfold outL
            refine List.map_congr_left fun j _ => ?_
            unfold outF
            refine sumN_congr fun k _ => ?_
            rw [eR_zero]
            show (if itF ys k = j then sumT (ofT k) (row.take m) else 0) = _
            rw [HLen.out, blF, if_neg (show ¬ ys.length = 1 by have := HN.out.2.1; omega), HN.out.2.2.2, ← HN.out.2.1]
          rw [hfin] at hO
          clear hfin
          have hO9 := hO.rebase hbW
          go_wp2_with fail
          go_ret
          exact ⟨_, nf, rfl, hO9⟩
end Go.Proofs.Ytolcekbldpdmpaa
