/-
  The document's Take as a reading; its lengths of the code for lengths.
-/
import Derived.Test.YtahboomghjdjhaaGreatG03
import Derived.Test.YtahboomghjdjhaaGreatG05
import Derived.Test.YtahboomghjdjhaaGreatG06
import Derived.Test.YtahboomghjdjhaaGreatG09
import Derived.Test.YtahboomghjdjhaaGreatG18
import Derived.Test.YtahboomghjdjhaaGreatG22
import Derived.Test.YtahboomghjdjhaaGreatG26
import Derived.Test.YtahboomghjdjhaaGreatG29
import Derived.Test.YtahboomghjdjhaaGreatG47
namespace Go.Proofs.YtahboomghjdjhaaGreat
open Go.RowKit

/-- What a number's reading answers. -/
def TkpRes (b : List Nat) (a k : Nat) (e : Ending) : Prop := match tkP k b a with
  | .error x => e = .returned (.tuple #[.int .u32 0, .int .i64 ((x : Nat) : Int)])
  | .ok (v, _) => e = .returned (.tuple #[.int .u32 ((v : Nat) : Int), .int .i64 0])
theorem rtakeP (B : Option Addr) (n c : Nat) (b : List Nat) (a k : Nat) (w : World) (hB : Bs w B b) (hn : n = b.length) (hm : n ≤ 1000000) (hk : k ≤ 32) (ha : a ≤ 1000000000) :
    Calls Tryz.prog 48 #[.slice B n c, .int .i64 (a : Int), .int .i64 (k : Int)] w fun e w' => TkpRes b a k e ∧ w = w' := by
  subst hn
  refine (rtake_any B c b (a : Int) (k : Int) w hB (by omega) (by omega) (by omega)).mono ?_
  rintro e w' ⟨he, hw⟩
  refine ⟨?_, hw⟩
  unfold TkpRes tkP
  by_cases hf : 8 * b.length < a + k
  · rw [if_pos hf]
    have h1 : takeE b (a : Int) (k : Int) = 10 := by
      unfold takeE
      rw [if_neg (by omega), if_pos (by omega)]
    unfold takeV at he
    rw [h1] at he
    exact he
  · rw [if_neg hf]
    have h1 : takeE b (a : Int) (k : Int) = 0 := by
      unfold takeE
      rw [if_neg (by omega), if_neg (by omega)]
    unfold takeV at he
    rw [h1] at he
    exact he

/-- The lengths of the code for lengths, that may be and are whole. -/
def shA (k : Nat) : Pa (List Nat) := paBind (shP k 0 (List.replicate 19 0)) fun row => if canE row 7 ≠ 0 ∨ kraft row ≠ 32768 then paNo 132 else paOk row
def ShRes (w w' : World) (b : List Nat) (a k : Nat) (e : Ending) : Prop := Below w.heap.size w w' ∧ match shA k b a with
  | .error x => e = .returned (.tuple #[.slice none 0 0, .int .i64 0, .int .i64 ((x : Nat) : Int)])
  | .ok (row, m) => ∃ A d, e = .returned (.tuple #[.slice A 19 d, .int .i64 ((m : Nat) : Int), .int .i64 0]) ∧ Rd w' A (u8s row)
theorem fe_sh_len : ∀ k i row b a row' m, shP k i row b a = .ok (row', m) → row'.length = row.length
  | 0, _, _, _, _, _, _, h => by cases h; rfl
  | k + 1, i, row, b, a, row', m, h => by
    obtain ⟨v, m1, _, h2⟩ := paBind_inv h
    rw [fe_sh_len k _ _ _ _ _ _ h2, List.length_set]
theorem ord_lt (i : Nat) : nth orderL i < 19 := by
  rcases Nat.lt_or_ge i 19 with h | h
  · revert i; decide
  · have : nth orderL i = 0 := by unfold nth; rw [List.getElem?_eq_none h]; rfl
    omega
theorem order_is (k : Nat) (h : k < 19) : orderV[k]? = some (.int .i64 ((nth orderL k : Nat) : Int)) := by
  unfold orderV
  have hl : k < orderL.length := h
  simp [nth, List.getElem?_eq_getElem hl]

theorem rwhole_any (A : Option Addr) (c : Nat) (l : List Nat) (w : World) (hl : Bs w A l) (hm : l.length ≤ 1001) (h15 : ∀ x ∈ l, x ≤ 15) :
    Calls Tryz.prog 91 #[.slice A l.length c] w fun e w' => e = .returned (.bool ((kraft l : Int) == 32768)) ∧ w' = w := by
  have HP := Lib.hid (parts_any A c l w hl hm h15)
  clear hl hm h15
  go_enter Tryz.func91, Tryz.ntmps91
  go_wp2_with (go_at_call 87; refine HP.out.mono ?_; rintro e w' ⟨rfl, rfl⟩)
  go_ret
  exact ⟨rfl, rfl⟩
set_option maxRecDepth 100000 in
set_option maxHeartbeats 2000000 in
theorem rshorts_any (B : Option Addr) (n c : Nat) (b : List Nat) (a k : Nat) (w : World) (hB : Bs w B b) (hn : n = b.length) (hm : n ≤ 100000) (hk : k ≤ 19) (ha : a ≤ 10000000) :
    Calls Tryz.prog 65 #[.slice B n c, .int .i64 (a : Int), .int .i64 (k : Int)] w fun e w' => ShRes w w' b a k e := by
  have HT := Lib.hid fun wx (at_ : Nat) (h : at_ ≤ 1000000000) (hb : Below w.heap.size w wx) => (rtakeP B n c b at_ 3 wx (hB.below hb) hn (by omega) (by omega) h : Calls Tryz.prog 48 #[.slice B n c, .int .i64 (at_ : Int), .int .i64 3] wx fun e w' => TkpRes b at_ 3 e ∧ wx = w')
  clear hB hn
  go_enter Tryz.func65, Tryz.ntmps65
  go_upto_region 2 with (at_make; refine makes elem_u8 (z := .int .u8 0) (by kernel_rfl) rfl _ _ rfl 19 rfl rfl rfl (by omega) (by omega) (u8s (List.replicate 19 0)) (made_u8s 19) ?_; intro w1 hO)
  obtain ⟨g, hg⟩ : ∃ g, w.heap.size = g := ⟨_, rfl⟩
  rw [hg] at hO
  rw [hg]
  have HGE := Lib.hid hg
  clear hg
  go_upto_region 3 with (first
    | (go_at_call 90; refine (rorder_any _).mono ?_; rintro e w2 ⟨rfl, hb2⟩)
    | (refine wpList_store_new rfl _ _ _ rfl _ orderV rfl rfl (by simp) _ _ (by kernel_rfl) rfl (by kernel_rfl) ?_))
  have hb2' := hO.1.trans (hb2.mono hO.1.size)
  have kO : Blk (w2.alloc (.cells orderV 149)) w2.heap.size 149 orderV := Blk.new _ _ _
  have hO3 := (hO.below hb2).alloc (.cells orderV 149)
  generalize w2.alloc (.cells orderV 149) = w3 at *
  generalize w2.heap.size = gO at *
  clear hO hb2 hb2'
  dsimp only [Act.put]
  go_wp2_with fail
  go_loopg [11] k (fun gk v11 wr => ∃ (i : Nat) (row : List Nat), i ≤ k ∧ gk = k - i ∧ v11 = .int .i64 (i : Int) ∧ Builds w wr 5 1 (some ⟨g, 0, none⟩) 19 19 (u8s row) ∧ Blk wr gO 149 orderV ∧ Hid (shP (k - i) i row b (a + 3 * i) = shP k 0 (List.replicate 19 0) b a ∧ row.length = 19 ∧ ∀ x ∈ row, x < 8))
  case atStart => exact ⟨0, List.replicate 19 0, by omega, rfl, rfl, hO3, kO, Lib.hid ⟨rfl, by simp, fun x hx => by rw [List.eq_of_mem_replicate hx]; omega⟩⟩
  case round =>
    clear hO3 kO
    obtain ⟨i, row, hi, hgk, rfl, hO, kO, HS⟩ := hrel
    have HG := Lib.hid hgk
    clear hgk
    by_cases hlt : i < k
    · have hlt' : (i : Int) < (k : Int) := by omega
      have HTT := Lib.hid (HT.out wr (a + 3 * i) (by omega) hO.1)
      have es : shP (k - i) i row b (a + 3 * i) = paBind (tkP 3) (fun v => shP (k - (i + 1)) (i + 1) (row.set (nth orderL i) v)) b (a + 3 * i) := by
        rw [show k - i = (k - (i + 1)) + 1 by omega]; rfl
      obtain ⟨t, ht⟩ : ∃ t, a + 3 * i = t := ⟨_, rfl⟩
      have et : (a : Int) + 3 * (i : Int) = (t : Int) := by omega
      have htm : t ≤ 100000000 := by omega
      rw [ht] at HTT es
      have HTE := Lib.hid ht
      have hsn : a + 3 * (i + 1) = t + 3 := by omega
      unfold TkpRes at HTT
      cases htk : tkP 3 b t with
      | error x =>
        rw [htk] at HTT
        have hE : shA k b a = .error x := by
          unfold shA
          exact paBind_no (by rw [← HS.out.1, HTE.out, es]; exact paBind_no htk)
        have HE := Lib.hid hE
        have hx0 : ((x : Int) != 0) = true := by
          rw [bne_iff_ne]
          unfold tkP at htk
          split at htk
          · injection htk with htk; omega
          · cases htk
        clear htk hE es ht hsn
        go_wp2_with (go_at_call 48; refine HTT.out.mono ?_; rintro e w' ⟨rfl, rfl⟩)
        go_ret3
        unfold ShRes
        rw [HE.out]
        exact ⟨hO.1, rfl⟩
      | ok r =>
        obtain ⟨v, m⟩ := r
        rw [htk] at HTT
        have hv8 : v < 8 ∧ m = t + 3 := by
          unfold tkP at htk
          split at htk
          · cases htk
          · injection htk with htk
            simp only [Prod.mk.injEq] at htk
            rw [← htk.1, ← htk.2]
            exact ⟨numOf_lt b _ 3, rfl⟩
        have hS2 : shP (k - (i + 1)) (i + 1) (row.set (nth orderL i) v) b (a + 3 * (i + 1)) = shP k 0 (List.replicate 19 0) b a := by
          rw [← HS.out.1, HTE.out, es, paBind_ok htk, hv8.2, hsn]
        have hX := ord_lt i
        have cO := (Blk.cell kO i).trans (order_is i (by omega))
        have cR := Builds.cell hO (nth orderL i) (by omega)
        have fR := Builds.free hO (nth orderL i)
        rw [u8s_get row _ (by rw [HS.out.2.1]; exact hX)] at cR
        have hset := Lib.hid fun (u : Int) (hu : u = (v : Int)) => show Builds w (wr.setCell ⟨g, nth orderL i, none⟩ (.int .u8 u)) 5 1 (some ⟨g, 0, none⟩) 19 19 (u8s (row.set (nth orderL i) v)) from by
          have h := Builds.set hO (nth orderL i) (by omega) (.int .u8 u)
          rw [show (u8s row).set (nth orderL i) (.int .u8 u) = u8s (row.set (nth orderL i) v) by rw [hu]; simp [u8s, List.map_set]] at h
          exact h
        have kO2 := fun u => Blk.far kO (p := ⟨g, nth orderL i, none⟩) (by
          intro e
          subst e
          exact absurd (own_blk_ne hO.2 kO (by decide)) (by simp [Value.ownBlock])) (.int .u8 u)
        have HS2 := Lib.hid (And.intro hS2 (And.intro (show (row.set (nth orderL i) v).length = 19 by rw [List.length_set]; exact HS.out.2.1) (show ∀ x ∈ row.set (nth orderL i) v, x < 8 from fun x hx => (List.mem_or_eq_of_mem_set hx).elim (HS.out.2.2 x) (fun e => e ▸ hv8.1))))
        have hv1 := hv8.1
        clear hS2 es htk hv8 ht hsn
        generalize nth orderL i = X at *
        go_wp2_with (go_at_call 48; refine HTT.out.mono ?_; rintro e w' ⟨rfl, rfl⟩)
        go_roundg (k - (i + 1))
        case measure => have := HG.out; omega
        case rel => exact ⟨i + 1, row.set X v, by omega, rfl, by go_num, hset.out _ (by first | rfl | omega), kO2 _, HS2⟩
    · obtain rfl : i = k := by omega
      have hlt' : ¬ (i : Int) < (i : Int) := by omega
      have hfin : shP i 0 (List.replicate 19 0) b a = .ok (row, a + 3 * i) := by
        rw [← HS.out.1, Nat.sub_self]; rfl
      have hrd := own_rd hO.2
      have hbs : Bs wr (some ⟨g, 0, none⟩) row := rd_u8 hrd (fun x hx => by have := HS.out.2.2 x hx; omega)
      have hrl := HS.out.2.1
      have HCk := Lib.hid (by have h := rcheck_any (some ⟨g, 0, none⟩) 19 row 7 wr hbs (by omega) (by omega) (by omega); rw [hrl] at h; exact h)
      have HWh := Lib.hid (by have h := rwhole_any (some ⟨g, 0, none⟩) 19 row wr hbs (by omega) (fun x hx => by have := HS.out.2.2 x hx; omega); rw [hrl] at h; exact h)
      have HB := Lib.hid (And.intro hO.1 hrd)
      obtain ⟨E, hE⟩ : ∃ E, canE row 7 = E := ⟨_, rfl⟩
      rw [hE] at HCk
      obtain ⟨m, hm3⟩ : ∃ m, a + 3 * i = m := ⟨_, rfl⟩
      have em : (a : Int) + 3 * (i : Int) = (m : Int) := by omega
      have hmm : m ≤ 100000000 := by omega
      rw [hm3] at hfin
      have HF := Lib.hid (And.intro hfin hE)
      clear hfin hE hO kO hrd hbs hrl HS HG hm3
      by_cases hE0 : E = 0
      · subst hE0
        by_cases hk2 : kraft row = 32768
        · have hq : ((kraft row : Int) == 32768) = true := by rw [hk2]; rfl
          rw [hq] at HWh
          have HR := Lib.hid (show shA i b a = .ok (row, m) by
            unfold shA
            rw [paBind_ok HF.out.1, if_neg (by rw [HF.out.2, hk2]; simp)]
            rfl)
          clear hk2 hq
          go_wp2_with (first
            | (go_at_call 63; refine HCk.out.mono ?_; rintro e w' ⟨rfl, rfl⟩)
            | (go_at_call 91; refine HWh.out.mono ?_; rintro e w' ⟨rfl, rfl⟩))
          go_ret3
          unfold ShRes
          rw [HR.out]
          exact ⟨HB.out.1, _, _, rfl, HB.out.2⟩
        · have hq : ((kraft row : Int) == 32768) = false := by rw [beq_eq_false_iff_ne]; omega
          rw [hq] at HWh
          have HR := Lib.hid (show shA i b a = .error 132 by
            unfold shA
            rw [paBind_ok HF.out.1, if_pos (.inr hk2)]
            rfl)
          clear hk2 hq
          go_wp2_with (first
            | (go_at_call 63; refine HCk.out.mono ?_; rintro e w' ⟨rfl, rfl⟩)
            | (go_at_call 91; refine HWh.out.mono ?_; rintro e w' ⟨rfl, rfl⟩))
          go_ret3
          unfold ShRes
          rw [HR.out]
          exact ⟨HB.out.1, rfl⟩
      · have hq : ((E : Int) != 0) = true := by rw [bne_iff_ne]; omega
        have HR := Lib.hid (show shA i b a = .error 132 by
          unfold shA
          rw [paBind_ok HF.out.1, if_pos (.inl (by rw [HF.out.2]; exact hE0))]
          rfl)
        clear hE0
        go_wp2_with (go_at_call 63; refine HCk.out.mono ?_; rintro e w' ⟨rfl, rfl⟩)
        go_ret3
        unfold ShRes
        rw [HR.out]
        exact ⟨HB.out.1, rfl⟩
end Go.Proofs.YtahboomghjdjhaaGreat

/-
  The document's Read as a reading; lengths by the code for lengths.
-/
namespace Go.Proofs.YtahboomghjdjhaaGreat
open Go.RowKit

theorem rd_in (l b : List Nat) : ∀ k n v a s m, rdT l b k n v a = (s, m, 0) → s < l.length
  | 0, _, _, _, _, _, h => by cases h
  | k + 1, n, v, a, s, m, h => by
    rw [rdT] at h
    split at h
    · rename_i i hi
      cases h
      unfold hitF at hi
      have := List.mem_of_find?_eq_some hi
      exact List.mem_range.1 this
    · split at h
      · split at h
        · exact rd_in l b k _ _ _ _ _ h
        · cases h
      · cases h
theorem rd_no (l b : List Nat) : ∀ k n v a s m e, rdT l b k n v a = (s, m, e) → e ≠ 0 → s = 0 ∧ m = 0
  | 0, _, _, _, _, _, _, h, _ => by cases h; exact ⟨rfl, rfl⟩
  | k + 1, n, v, a, s, m, e, h, he => by
    rw [rdT] at h
    split at h
    · cases h; exact absurd rfl he
    · split at h
      · split at h
        · exact rd_no l b k _ _ _ _ _ _ h he
        · cases h; exact ⟨rfl, rfl⟩
      · cases h; exact ⟨rfl, rfl⟩
def SypRes (l b : List Nat) (a : Nat) (e : Ending) : Prop := match syP l b a with
  | .error x => x ≠ 0 ∧ e = .returned (.tuple #[.int .i64 0, .int .i64 0, .int .i64 ((x : Nat) : Int)])
  | .ok (s, m) => s < l.length ∧ e = .returned (.tuple #[.int .i64 ((s : Nat) : Int), .int .i64 ((m : Nat) : Int), .int .i64 0])
theorem rreadP (A B : Option Addr) (c d n nl : Nat) (l b : List Nat) (a : Nat) (w : World) (hA : Rd w A (codV (codesL l))) (hl : l.length = nl) (hnl : nl ≤ 320) (hc : canE l 15 = 0) (hB : Bs w B b) (hn : n = b.length) (hm : n ≤ 100000) (ha : a ≤ 1000000000) :
    Calls Tryz.prog 52 #[.slice A nl c, .slice B n d, .int .i64 (a : Int)] w fun e w' => SypRes l b a e ∧ Below w.heap.size w w' := by
  refine (rread_len A B c d n nl l b a w hA hl hnl hc hB hn hm (by omega)).mono ?_
  rintro e w' ⟨he, hb⟩
  refine ⟨?_, hb⟩
  unfold SypRes syP
  rw [rdT_pad]
  rcases hr : rdT l b 16 0 0 a with ⟨s, m, x⟩
  rw [hr] at he
  by_cases hx : x = 0
  · subst hx
    rw [if_pos rfl]
    exact ⟨rd_in _ _ _ _ _ _ _ _ hr, he⟩
  · obtain ⟨rfl, rfl⟩ := rd_no _ _ _ _ _ _ _ _ _ hr hx
    rw [if_neg hx]
    exact ⟨hx, he⟩
theorem syP_le {l b : List Nat} {a s m : Nat} (hc : ∀ x ∈ l, x ≤ 15) (h : syP l b a = .ok (s, m)) (ha : a ≤ 8 * b.length) : m ≤ 8 * b.length := ((Gd.sym hc).ok _ _ _ _ h).2.2 ha
theorem rtimesP (s x : Nat) (w : World) (hs : s ≤ 18) (hx : x ≤ 1000) :
    Calls Tryz.prog 93 #[.agg #[.int .i64 (s : Int), .int .i64 (x : Int)]] w fun e w' => e = .returned (.tuple #[.int .i64 ((timesOf ((s : Int), (x : Int)) : Nat) : Int), .bool (decide (s = 16))]) ∧ Below w.heap.size w w' := by
  by_cases h16 : s = 16
  · subst h16
    refine (times_16 x w hx).mono ?_
    rintro e w' ⟨h, hb⟩
    refine ⟨?_, hb⟩
    rw [h]
    rfl
  · by_cases h17 : s = 17
    · subst h17
      refine (times_17 x w hx).mono ?_
      rintro e w' ⟨h, hb⟩
      refine ⟨?_, hb⟩
      rw [h]
      rfl
    · by_cases h18 : s = 18
      · subst h18
        refine (times_18 x w hx).mono ?_
        rintro e w' ⟨h, hb⟩
        refine ⟨?_, hb⟩
        rw [h]
        rfl
      · refine (times_lit s x w (by omega)).mono ?_
        rintro e w' ⟨h, hb⟩
        refine ⟨?_, hb⟩
        rw [h, decide_eq_false h16]
        unfold timesOf
        rw [if_neg (by dsimp only; omega), if_neg (by dsimp only; omega)]
        rfl

theorem can_up {l : List Nat} {m : Int} (h : canE l m = 0) : canE l 15 = 0 := by
  obtain ⟨h1, h2, h3, h4, h5, h6⟩ := canE_ok h
  unfold canE
  rw [if_neg (by omega), if_neg (by omega), if_pos, if_neg (by omega), if_pos h6]
  rw [List.all_eq_true]
  intro x hx
  have := h4 x hx
  exact decide_eq_true (by omega)
theorem fe_tk_inv {k : Nat} {b : List Nat} {a v m : Nat} (h : tkP k b a = .ok (v, m)) : v < 2 ^ k ∧ m = a + k ∧ a + k ≤ 8 * b.length := by
  unfold tkP at h
  split at h
  · cases h
  · injection h with h
    simp only [Prod.mk.injEq] at h
    rw [← h.1, ← h.2]
    exact ⟨numOf_lt b a k, rfl, by omega⟩
theorem fe_tk_err {k : Nat} {b : List Nat} {a x : Nat} (h : tkP k b a = .error x) : x = 10 := by
  unfold tkP at h
  split at h
  · injection h with h; exact h.symm
  · cases h
/-- What the document's lengths answers. -/
def FeLg (w w' : World) (b : List Nat) (a N : Nat) (row : List Nat) (e : Ending) : Prop := Below w.heap.size w w' ∧ match lgP N row N [] b a with
  | .error x => x ≠ 0 ∧ e = .returned (.tuple #[.slice none 0 0, .int .i64 0, .int .i64 ((x : Nat) : Int)])
  | .ok (out, m) => ∃ A d, e = .returned (.tuple #[.slice A N d, .int .i64 ((m : Nat) : Int), .int .i64 0]) ∧ w'.ownsRow w.heap.size 5 1 (.slice A N d) N (u8s out) ∧ out.length = N ∧ ∀ x ∈ out, x < 256

set_option maxRecDepth 100000 in
set_option maxHeartbeats 1500000 in
theorem rlengths13_any (C : Option Addr) (cc : Nat) (row : List Nat) (B : Option Addr) (n c : Nat) (b : List Nat) (a N : Nat) (w : World) (hC : Rd w C (u8s row)) (hrow : row.length = 19) (hcan : canE row 7 = 0) (hB : Bs w B b) (hn : n = b.length) (hm : n ≤ 100000) (hN : N ≤ 320) (ha : a ≤ 8 * n) :
    Calls Tryz.prog 66 #[.slice C 19 cc, .slice B n c, .int .i64 (a : Int), .int .i64 (N : Int)] w fun e w' => FeLg w w' b a N row e := by
  have hle7 : ∀ x ∈ row, x ≤ 7 := fun x hx => can_le hcan x hx
  have hc15 : canE row 15 = 0 := can_up hcan
  have hk : kraft row ≤ 32768 := (canE_ok hcan).2.2.2.2.1
  have HM := Lib.hid (by have h := made_any C cc row w (rd_u8 hC (fun x hx => by have := hle7 x hx; omega)) (by omega) (fun x hx => by have := hle7 x hx; omega) hk; rw [hrow] at h; exact h)
  have HRD := Lib.hid fun wx (A : Option Addr) (d at_ : Nat) (hA : Rd wx A (codV (codesL row))) (hb : Below w.heap.size w wx) (h : at_ ≤ 1000000000) => rreadP A B d c n 19 row b at_ wx hA hrow (by omega) hc15 (hB.below hb) hn hm h
  have HTK := Lib.hid fun wx (at_ k : Nat) (hb : Below w.heap.size w wx) (h1 : k ≤ 32) (h : at_ ≤ 1000000000) => rtakeP B n c b at_ k wx (hB.below hb) hn (by omega) h1 h
  have HH := Lib.hid (And.intro hrow (And.intro hn (And.intro hle7 hcan)))
  clear hle7 hc15 hk hC hrow hcan hB hn
  go_enter Tryz.func66, Tryz.ntmps66
  go_upto_region 2 with (go_at_call 53; refine HM.out.mono ?_; rintro e w1 ⟨D, dd, rfl, hD⟩)
  go_wp2_with fail
  go_loopg [2, 12] N (fun gk v2 v12 wr => ∃ (out : List Nat) (A : Option Addr) (d L a' : Nat), L ≤ N ∧ gk = N - L ∧ v2 = .int .i64 (a' : Int) ∧ v12 = .slice A L d ∧ Builds w1 wr 5 1 A L d (u8s out) ∧ a' ≤ 8 * n ∧ Hid (out.length = L ∧ (∀ x ∈ out, x < 256) ∧ ∃ f, N ≤ L + f ∧ lgP N row f out b a' = lgP N row N [] b a))
  case atStart => exact ⟨[], none, 0, 0, a, by omega, rfl, rfl, rfl, Builds.nil_ _ _ _, ha, Lib.hid ⟨rfl, fun x hx => (by cases hx), N, by omega, rfl⟩⟩
  case round =>
    obtain ⟨out, A, d, L, a', hL, hgk, rfl, rfl, hO, ha', HO⟩ := hrel
    have HG := Lib.hid hgk
    clear hgk
    have hb1 : Below w.heap.size w wr := hD.1.trans (hO.1.mono hD.1.size)
    by_cases hlt : L < N
    · have hlt' : (L : Int) < (N : Int) := by omega
      obtain ⟨f0, hf0, hlg⟩ := HO.out.2.2
      obtain ⟨f, rfl⟩ : ∃ f, f0 = f + 1 := ⟨f0 - 1, by omega⟩
      have es : lgP N row (f + 1) out b a' = paBind (syP row) (fun s => paBind (tkP (symBits s)) fun x => if s = 16 ∧ out = [] ∨ N < out.length + timesOf ((s : Int), (x : Int)) then paNo 132 else lgP N row f (putR ((s : Int), (x : Int)) out)) b a' := by
        rw [lgP, if_neg (by rw [HO.out.1]; omega)]
      have HRR := Lib.hid (HRD.out wr D dd a' ((own_rd hD.2).below hO.1) hb1 (by omega))
      unfold SypRes at HRR
      cases hsy : syP row b a' with
      | error x =>
        rw [hsy] at HRR
        have HE := Lib.hid (show lgP N row N [] b a = .error x by rw [← hlg, es]; exact paBind_no hsy)
        have hx0 := HRR.out
        clear hsy es hlg hx0
        go_upto_region 5 with (go_at_call 52; refine HRR.out.mono ?_; rintro e w4 ⟨⟨hx0, rfl⟩, h4⟩)
        have hx1 : ((x : Int) != 0) = true := by rw [bne_iff_ne]; omega
        go_wp2_with fail
        go_ret3
        unfold FeLg
        rw [HE.out]
        exact ⟨hb1.trans (h4.mono hb1.size), hx0, rfl⟩
      | ok r =>
        obtain ⟨s, m1⟩ := r
        rw [hsy] at HRR
        have hm1 : m1 ≤ 8 * n := by have h := syP_le (fun x hx => by have := HH.out.2.2.1 x hx; omega) hsy (by rw [← HH.out.2.1]; exact ha'); rw [← HH.out.2.1] at h; exact h
        go_upto_region 7 with (go_at_call 52; refine HRR.out.mono ?_; rintro e w4 ⟨⟨hs19, rfl⟩, h4⟩)
        rw [HH.out.1] at hs19
        have hb4 := hb1.trans (h4.mono hb1.size)
        have hO4 := hO.below h4
        obtain ⟨kb, hkb⟩ : ∃ kb, symBits (s : Int) = kb := ⟨_, rfl⟩
        have hkb7 : kb ≤ 7 := by rw [← hkb]; exact symBits_le _
        have HBI := Lib.hid (rbits_any (s : Int) w4 (by omega) (by omega))
        rw [hkb] at HBI
        have HTT := Lib.hid (HTK.out w4 m1 kb hb4 (by omega) (by omega))
        rw [paBind_ok hsy] at es
        rw [hkb] at es
        unfold TkpRes at HTT
        clear hO h4 HRR hb1
        cases htk : tkP kb b m1 with
        | error x =>
          rw [htk] at HTT
          obtain rfl := fe_tk_err htk
          have HE := Lib.hid (show lgP N row N [] b a = .error 10 by rw [← hlg, es]; exact paBind_no htk)
          clear htk es hlg hsy
          go_wp2_with (first
            | (go_at_call 92; refine HBI.out.mono ?_; rintro e w' ⟨rfl, rfl⟩)
            | (go_at_call 48; refine HTT.out.mono ?_; rintro e w' ⟨rfl, rfl⟩))
          go_ret3
          unfold FeLg
          rw [HE.out]
          exact ⟨hb4, by decide, rfl⟩
        | ok r =>
          obtain ⟨v, m2⟩ := r
          rw [htk] at HTT
          obtain ⟨hv, hm2, hm2b⟩ := fe_tk_inv htk
          have hv127 : v < 128 := Nat.lt_of_lt_of_le hv (Nat.pow_le_pow_right (n := 2) (j := 7) (by omega) hkb7)
          have hm2n : m2 ≤ 8 * n := by rw [HH.out.2.1]; omega
          have em2 : (m1 : Int) + (kb : Int) = (m2 : Int) := by omega
          have HTM := Lib.hid (rtimesP s v w4 (by omega) (by omega))
          rw [paBind_ok htk] at es
          obtain ⟨T, hT⟩ : ∃ T, timesOf ((s : Int), (v : Int)) = T := ⟨_, rfl⟩
          have hT1 : 1 ≤ T := by rw [← hT]; exact timesOf_pos _
          have hT2 : T ≤ 1000 := by
            rw [← hT]
            unfold timesOf
            dsimp only
            split
            · omega
            · split <;> omega
          rw [hT] at HTM es
          have HTE := Lib.hid hT
          have HK := Lib.hid (And.intro hkb (And.intro hm2 hsy))
          clear hv hm2b hT hkb hm2 htk hsy
          go_upto_region 12 with (first
            | (go_at_call 92; refine HBI.out.mono ?_; rintro e w' ⟨rfl, rfl⟩)
            | (go_at_call 48; refine HTT.out.mono ?_; rintro e w' ⟨rfl, rfl⟩))
          clear HBI HTT
          by_cases h16 : s = 16
          · have d16 : decide (s = 16) = true := decide_eq_true h16
            by_cases hL0 : L = 0
            · have q0 : ((L : Int) == 0) = true := by rw [hL0]; rfl
              have HE := Lib.hid (show lgP N row N [] b a = .error 132 by
                rw [← hlg, es, if_pos (by rw [HO.out.1]; exact .inl ⟨h16, List.eq_nil_of_length_eq_zero (by rw [HO.out.1]; exact hL0)⟩)]
                rfl)
              clear es hlg hf0
              try clear hL0
              try clear h16
              go_wp2_with (go_at_call 93; refine HTM.out.mono ?_; rintro e w6 ⟨rfl, h6⟩; have hO6 := hO4.below h6; have hb6 := hb4.trans (h6.mono hb4.size))
              go_ret3
              unfold FeLg
              rw [HE.out]
              exact ⟨hb6, by decide, rfl⟩
            · have q0 : ((L : Int) == 0) = false := by rw [beq_eq_false_iff_ne]; omega
              by_cases hbig : N < L + T
              · have q1 : decide ((N : Int) < (L : Int) + (T : Int)) = true := decide_eq_true (by omega)
                have HE := Lib.hid (show lgP N row N [] b a = .error 132 by
                  rw [← hlg, es, if_pos (by rw [HO.out.1]; exact .inr hbig)]
                  rfl)
                clear es hlg hf0
                try clear hL0
                try clear h16
                go_wp2_with (go_at_call 93; refine HTM.out.mono ?_; rintro e w6 ⟨rfl, h6⟩; have hO6 := hO4.below h6; have hb6 := hb4.trans (h6.mono hb4.size))
                go_ret3
                unfold FeLg
                rw [HE.out]
                exact ⟨hb6, by decide, rfl⟩
              · have q1 : decide ((N : Int) < (L : Int) + (T : Int)) = false := decide_eq_false (by omega)
                obtain ⟨X, hXe⟩ : ∃ X, nth out (L - 1) = X := ⟨_, rfl⟩
                obtain ⟨ga, rfl, _⟩ := own_at hO4.2 (by omega)
                have cX : ∀ w6, Below w4.heap.size w4 w6 → w6.cell? ⟨ga, L - 1, none⟩ = some (.int .u8 (X : Int)) := fun w6 h6 => by
                  have h := Builds.cell (hO4.below h6) (L - 1) (by omega)
                  rw [u8s_get out (L - 1) (by rw [HO.out.1]; omega), hXe] at h
                  exact h
                have eL : (L : Int) - 1 = ((L - 1 : Nat) : Int) := by omega
                have hLL : L - 1 < L := by omega
                have HXE := Lib.hid (And.intro hXe h16)
                clear hXe h16 hL0
                have HX := Lib.hid (show whatOf ((s : Int), (v : Int)) out = X by unfold whatOf; rw [if_pos (by rw [HXE.out.2]; rfl), HO.out.1]; exact HXE.out.1)
                have HXL := Lib.hid (show X < 256 by rw [← HXE.out.1]; exact nth_lt HO.out.2.1 (by omega) _)
                have HNX := Lib.hid (show ∃ f, N ≤ L + T + f ∧ lgP N row f (putR ((s : Int), (v : Int)) out) b m2 = lgP N row N [] b a from ⟨f, by omega, by rw [← hlg, es, if_neg (by rw [HO.out.1]; intro h; rcases h with ⟨h1, h2⟩ | h2; (first | omega | (have := congrArg List.length h2; rw [HO.out.1] at this; simp at this; omega)); omega)]⟩)
                clear es hlg hf0
                go_wp2_with (go_at_call 93; refine HTM.out.mono ?_; rintro e w6 ⟨rfl, h6⟩; have hO6 := hO4.below h6; have hb6 := hb4.trans (h6.mono hb4.size); have cXX := cX w6 h6)
                go_loopg [12, 23] T (fun gj v12 v23 wr2 => ∃ (A2 : Option Addr) (d2 i : Nat), i ≤ T ∧ gj = T - i ∧ v23 = .int .i64 (i : Int) ∧ v12 = .slice A2 (L + i) d2 ∧ Builds w1 wr2 5 1 A2 (L + i) d2 (u8s (out ++ List.replicate i X)))
                case atStart => exact ⟨some ⟨ga, 0, none⟩, d, 0, by omega, rfl, rfl, rfl, by simpa using hO6⟩
                case round =>
                  clear hO6 h6
                  obtain ⟨A2, d2, i, hi, hgj, rfl, rfl, hO2⟩ := hrel
                  have HGJ := Lib.hid hgj
                  clear hgj
                  by_cases hit : i < T
                  · have hit' : (i : Int) < (T : Int) := by omega
                    have HAP := Lib.hid (show u8s (out ++ List.replicate i X) ++ u8s [X] = u8s (out ++ List.replicate (i + 1) X) by rw [← u8s_append, List.append_assoc, ← List.replicate_succ'])
                    go_wp2_with (at_builtin; refine grow elem_u8 rfl (.tmp 97) (.tmp 99) rfl rfl (hO2.alloc _) rfl (Rd.new' _ _ _ (u8s [X]) _ (by simp) rfl) rfl (u8s_one _) (L + i + 1) rfl (u8s (out ++ List.replicate (i + 1) X)) HAP.out (by omega) (by omega) ?_; intro A3 d3 w3 hO3 hg3)
                    go_roundg (T - (i + 1))
                    case measure => have := HGJ.out; omega
                    case rel => exact ⟨A3, d3, i + 1, by omega, rfl, by go_num, rfl, hO3⟩
                  · obtain rfl : i = T := by omega
                    have hit' : ¬ (i : Int) < (i : Int) := by omega
                    go_wp2_with fail
                    go_roundg (N - (L + i))
                    case measure => have := HG.out; omega
                    case rel =>
                      refine ⟨out ++ List.replicate i X, A2, d2, L + i, m2, by omega, rfl, rfl, rfl, hO2, hm2n, Lib.hid ⟨by rw [List.length_append, List.length_replicate, HO.out.1], fun x hx => ?_, ?_⟩⟩
                      · rcases List.mem_append.1 hx with h | h
                        · exact HO.out.2.1 x h
                        · rw [List.eq_of_mem_replicate h]; exact HXL.out
                      · obtain ⟨f, hf1, hf2⟩ := HNX.out
                        refine ⟨f, by omega, ?_⟩
                        rw [← hf2]
                        unfold putR
                        rw [HTE.out, HX.out]
          · have d16 : decide (s = 16) = false := decide_eq_false h16
            by_cases hbig : N < L + T
            · have q1 : decide ((N : Int) < (L : Int) + (T : Int)) = true := decide_eq_true (by omega)
              have HE := Lib.hid (show lgP N row N [] b a = .error 132 by
                rw [← hlg, es, if_pos (by rw [HO.out.1]; exact .inr hbig)]
                rfl)
              clear es hlg hf0
              try clear hL0
              try clear h16
              go_wp2_with (go_at_call 93; refine HTM.out.mono ?_; rintro e w6 ⟨rfl, h6⟩; have hO6 := hO4.below h6; have hb6 := hb4.trans (h6.mono hb4.size))
              go_ret3
              unfold FeLg
              rw [HE.out]
              exact ⟨hb6, by decide, rfl⟩
            · have q1 : decide ((N : Int) < (L : Int) + (T : Int)) = false := decide_eq_false (by omega)
              by_cases hs16 : s < 16
              · have q2 : decide ((s : Int) < 16) = true := decide_eq_true (by omega)
                have q2' : decide (s < 16) = true := decide_eq_true (by omega)
                have HX := Lib.hid (show whatOf ((s : Int), (v : Int)) out = s by unfold whatOf; rw [if_neg (by dsimp only; omega), if_neg (by dsimp only; omega)]; rfl)
                have HXL := Lib.hid (show s < 256 by omega)
                have HNX := Lib.hid (show ∃ f, N ≤ L + T + f ∧ lgP N row f (putR ((s : Int), (v : Int)) out) b m2 = lgP N row N [] b a from ⟨f, by omega, by rw [← hlg, es, if_neg (by rw [HO.out.1]; intro h; rcases h with ⟨h1, h2⟩ | h2; (first | omega | (have := congrArg List.length h2; rw [HO.out.1] at this; simp at this; omega)); omega)]⟩)
                clear es hlg hf0
                go_wp2_with (go_at_call 93; refine HTM.out.mono ?_; rintro e w6 ⟨rfl, h6⟩; have hO6 := hO4.below h6; have hb6 := hb4.trans (h6.mono hb4.size))
                go_loopg [12, 23] T (fun gj v12 v23 wr2 => ∃ (A2 : Option Addr) (d2 i : Nat), i ≤ T ∧ gj = T - i ∧ v23 = .int .i64 (i : Int) ∧ v12 = .slice A2 (L + i) d2 ∧ Builds w1 wr2 5 1 A2 (L + i) d2 (u8s (out ++ List.replicate i s)))
                case atStart => exact ⟨_, d, 0, by omega, rfl, rfl, rfl, by simpa using hO6⟩
                case round =>
                  clear hO6 h6
                  obtain ⟨A2, d2, i, hi, hgj, rfl, rfl, hO2⟩ := hrel
                  have HGJ := Lib.hid hgj
                  clear hgj
                  by_cases hit : i < T
                  · have hit' : (i : Int) < (T : Int) := by omega
                    have HAP := Lib.hid (show u8s (out ++ List.replicate i s) ++ u8s [s] = u8s (out ++ List.replicate (i + 1) s) by rw [← u8s_append, List.append_assoc, ← List.replicate_succ'])
                    go_wp2_with (at_builtin; refine grow elem_u8 rfl (.tmp 97) (.tmp 99) rfl rfl (hO2.alloc _) rfl (Rd.new' _ _ _ (u8s [s]) _ (by simp) rfl) rfl (u8s_one _) (L + i + 1) rfl (u8s (out ++ List.replicate (i + 1) s)) HAP.out (by omega) (by omega) ?_; intro A3 d3 w3 hO3 hg3)
                    go_roundg (T - (i + 1))
                    case measure => have := HGJ.out; omega
                    case rel => exact ⟨A3, d3, i + 1, by omega, rfl, by go_num, rfl, hO3⟩
                  · obtain rfl : i = T := by omega
                    have hit' : ¬ (i : Int) < (i : Int) := by omega
                    go_wp2_with fail
                    go_roundg (N - (L + i))
                    case measure => have := HG.out; omega
                    case rel =>
                      refine ⟨out ++ List.replicate i s, A2, d2, L + i, m2, by omega, rfl, rfl, rfl, hO2, hm2n, Lib.hid ⟨by rw [List.length_append, List.length_replicate, HO.out.1], fun x hx => ?_, ?_⟩⟩
                      · rcases List.mem_append.1 hx with h | h
                        · exact HO.out.2.1 x h
                        · rw [List.eq_of_mem_replicate h]; exact HXL.out
                      · obtain ⟨f, hf1, hf2⟩ := HNX.out
                        refine ⟨f, by omega, ?_⟩
                        rw [← hf2]
                        unfold putR
                        rw [HTE.out, HX.out]
              · have q2 : decide ((s : Int) < 16) = false := decide_eq_false (by omega)
                have q2' : decide (s < 16) = false := decide_eq_false (by omega)
                have HX := Lib.hid (show whatOf ((s : Int), (v : Int)) out = 0 by unfold whatOf; rw [if_neg (by dsimp only; omega), if_pos (by dsimp only; omega)])
                have HXL := Lib.hid (show 0 < 256 by omega)
                have HNX := Lib.hid (show ∃ f, N ≤ L + T + f ∧ lgP N row f (putR ((s : Int), (v : Int)) out) b m2 = lgP N row N [] b a from ⟨f, by omega, by rw [← hlg, es, if_neg (by rw [HO.out.1]; intro h; rcases h with ⟨h1, h2⟩ | h2; (first | omega | (have := congrArg List.length h2; rw [HO.out.1] at this; simp at this; omega)); omega)]⟩)
                clear es hlg hf0
                go_wp2_with (go_at_call 93; refine HTM.out.mono ?_; rintro e w6 ⟨rfl, h6⟩; have hO6 := hO4.below h6; have hb6 := hb4.trans (h6.mono hb4.size))
                go_loopg [12, 23] T (fun gj v12 v23 wr2 => ∃ (A2 : Option Addr) (d2 i : Nat), i ≤ T ∧ gj = T - i ∧ v23 = .int .i64 (i : Int) ∧ v12 = .slice A2 (L + i) d2 ∧ Builds w1 wr2 5 1 A2 (L + i) d2 (u8s (out ++ List.replicate i 0)))
                case atStart => exact ⟨_, d, 0, by omega, rfl, rfl, rfl, by simpa using hO6⟩
                case round =>
                  clear hO6 h6
                  obtain ⟨A2, d2, i, hi, hgj, rfl, rfl, hO2⟩ := hrel
                  have HGJ := Lib.hid hgj
                  clear hgj
                  by_cases hit : i < T
                  · have hit' : (i : Int) < (T : Int) := by omega
                    have HAP := Lib.hid (show u8s (out ++ List.replicate i 0) ++ u8s [0] = u8s (out ++ List.replicate (i + 1) 0) by rw [← u8s_append, List.append_assoc, ← List.replicate_succ'])
                    go_wp2_with (at_builtin; refine grow elem_u8 rfl (.tmp 97) (.tmp 99) rfl rfl (hO2.alloc _) rfl (Rd.new' _ _ _ (u8s [0]) _ (by simp) rfl) rfl (u8s_one _) (L + i + 1) rfl (u8s (out ++ List.replicate (i + 1) 0)) HAP.out (by omega) (by omega) ?_; intro A3 d3 w3 hO3 hg3)
                    go_roundg (T - (i + 1))
                    case measure => have := HGJ.out; omega
                    case rel => exact ⟨A3, d3, i + 1, by omega, rfl, by go_num, rfl, hO3⟩
                  · obtain rfl : i = T := by omega
                    have hit' : ¬ (i : Int) < (i : Int) := by omega
                    go_wp2_with fail
                    go_roundg (N - (L + i))
                    case measure => have := HG.out; omega
                    case rel =>
                      refine ⟨out ++ List.replicate i 0, A2, d2, L + i, m2, by omega, rfl, rfl, rfl, hO2, hm2n, Lib.hid ⟨by rw [List.length_append, List.length_replicate, HO.out.1], fun x hx => ?_, ?_⟩⟩
                      · rcases List.mem_append.1 hx with h | h
                        · exact HO.out.2.1 x h
                        · rw [List.eq_of_mem_replicate h]; exact HXL.out
                      · obtain ⟨f, hf1, hf2⟩ := HNX.out
                        refine ⟨f, by omega, ?_⟩
                        rw [← hf2]
                        unfold putR
                        rw [HTE.out, HX.out]
    · obtain rfl : L = N := by omega
      have hlt' : ¬ (L : Int) < (L : Int) := by omega
      have HE := Lib.hid (show lgP L row L [] b a = .ok (out, a') by
        obtain ⟨f, _, hf⟩ := HO.out.2.2
        rw [← hf]
        cases f with
        | zero => rfl
        | succ f => rw [lgP, if_pos (by rw [HO.out.1]; exact Nat.le_refl _)]; rfl)
      go_wp2_with fail
      go_ret3
      unfold FeLg
      rw [HE.out]
      exact ⟨hb1, A, d, rfl, own_far_base hO.2 hD.1.size, HO.out.1, HO.out.2.1⟩
end Go.Proofs.YtahboomghjdjhaaGreat

/-
  A number's extra bits, as the document reads them.
-/
namespace Go.Proofs.YtahboomghjdjhaaGreat
open Go.RowKit

def ExRes (w w' : World) (p : Pa Nat) (b : List Nat) (a : Nat) (e : Ending) : Prop := Below w.heap.size w w' ∧ match p b a with
  | .error x => ∃ v m : Int, x ≠ 0 ∧ e = .returned (.tuple #[.int .i64 v, .int .i64 m, .int .i64 ((x : Nat) : Int)])
  | .ok (v, m) => e = .returned (.tuple #[.int .i64 ((v : Nat) : Int), .int .i64 ((m : Nat) : Int), .int .i64 0])
set_option maxRecDepth 100000 in
set_option maxHeartbeats 1500000 in
theorem rextra_Long (B : Option Addr) (n c : Nat) (b : List Nat) (sym a : Nat) (w : World) (hB : Bs w B b) (hn : n = b.length) (hm : n ≤ 100000) (_hs : sym ≤ 1000) (ha : a ≤ 8 * n) :
    Calls Tryz.prog 54 #[.bool false, .int .i64 (sym : Int), .slice B n c, .int .i64 (a : Int)] w fun e w' => ExRes w w' (exP 257 longT sym) b a e := by
  have HT := Lib.hid fun wx (k : Nat) (hk : k ≤ 13) (hb : Below w.heap.size w wx) => rtakeP B n c b a k wx (hB.below hb) hn (by omega) (by omega) (by omega)
  clear hB hn
  by_cases h0 : bitE 257 longT sym = 0
  · have hk : bitN 257 longT sym ≤ 13 := by rw [(bitE_zero h0).2.2]; exact Nat.le_trans (rowT_long _).1 (by omega)
    obtain ⟨k, hkk⟩ : ∃ k, bitN 257 longT sym = k := ⟨_, rfl⟩
    rw [hkk] at hk
    have hex : exP 257 longT sym b a = paBind (tkP k) (fun x => if numE 257 longT sym x ≠ 0 then paNo (numE 257 longT sym x) else paOk (numV 257 longT sym x).toNat) b a := by
      unfold exP; rw [if_neg (by rw [h0]; simp), hkk]
    have HBK := Lib.hid (And.intro h0 hkk)
    clear h0 hkk
    go_enter Tryz.func54, Tryz.ntmps54
    go_upto_region 4 with (first
      | (go_at_call 68; refine (rLongBits_any (sym : Int) _).mono ?_; rintro e w1 ⟨rfl, hb1⟩))
    rw [HBK.out.1, HBK.out.2]
    have hbw : Below w.heap.size w w1 := hb1
    have HTT := Lib.hid (HT.out w1 k hk hbw)
    unfold TkpRes at HTT
    cases htk : tkP k b a with
    | error x =>
      rw [htk] at HTT
      obtain rfl := fe_tk_err htk
      have HE := Lib.hid (show exP 257 longT sym b a = .error 10 by rw [hex]; exact paBind_no htk)
      clear htk hex
      go_wp2_with (go_at_call 48; refine HTT.out.mono ?_; rintro e w' ⟨rfl, hwe⟩)
      go_ret3
      unfold ExRes
      rw [HE.out]
      exact ⟨hwe ▸ hbw, 0, 0, by decide, rfl⟩
    | ok r =>
      obtain ⟨v, m⟩ := r
      rw [htk] at HTT
      obtain ⟨hv, hm1, hm2⟩ := fe_tk_inv htk
      have hv13 : v < 8192 := Nat.lt_of_lt_of_le hv (Nat.pow_le_pow_right (n := 2) (j := 13) (by omega) hk)
      rw [paBind_ok htk] at hex
      have em : (a : Int) + (k : Int) = (m : Int) := by omega
      have HX := Lib.hid hex
      clear htk hex hv hm1 hm2
      go_wp2_with (first
      | (go_at_call 48; refine HTT.out.mono ?_; rintro e w' ⟨rfl, hwe⟩; have hbt : Below w.heap.size w w' := hwe ▸ hbw)
      | (go_at_call 70; refine (rLongOf_any (sym : Int) (v : Int) _ (by omega) (by omega)).mono ?_; rintro e w4 ⟨rfl, hb4⟩))
      go_ret3
      unfold ExRes
      rw [HX.out]
      by_cases hn : numE 257 longT sym v = 0
      · rw [if_neg (by rw [hn]; simp)]
        obtain ⟨x, hx⟩ : ∃ x : Nat, numV 257 longT sym v = (x : Int) := ⟨(numV 257 longT sym v).toNat, by
          have h1 : 0 ≤ numV 257 longT sym v := by
            unfold numV
            rw [if_pos hn]
            omega
          omega⟩
        rw [hn, hx]
        exact ⟨(hbt.trans (hb4.mono hbt.size)), rfl⟩
      · rw [if_pos hn]
        exact ⟨(hbt.trans (hb4.mono hbt.size)), _, _, hn, rfl⟩
  · have hex : exP 257 longT sym b a = .error (bitE 257 longT sym) := by
      unfold exP; rw [if_pos h0]; rfl
    obtain ⟨E, hE⟩ : ∃ E, bitE 257 longT sym = E := ⟨_, rfl⟩
    rw [hE] at hex h0
    have q0 : ((E : Int) != 0) = true := by rw [bne_iff_ne]; omega
    have HX := Lib.hid (And.intro hex (And.intro h0 hE))
    clear hex h0 hE
    go_enter Tryz.func54, Tryz.ntmps54
    go_upto_region 4 with (first
      | (go_at_call 68; refine (rLongBits_any (sym : Int) _).mono ?_; rintro e w1 ⟨rfl, hb1⟩))
    have hbw : Below w.heap.size w w1 := hb1
    rw [HX.out.2.2]
    go_wp2_with fail
    go_ret3
    unfold ExRes
    rw [HX.out.1]
    exact ⟨hbw, 0, 0, HX.out.2.1, rfl⟩
set_option maxRecDepth 100000 in
set_option maxHeartbeats 1500000 in
theorem rextra_Far (B : Option Addr) (n c : Nat) (b : List Nat) (sym a : Nat) (w : World) (hB : Bs w B b) (hn : n = b.length) (hm : n ≤ 100000) (_hs : sym ≤ 1000) (ha : a ≤ 8 * n) :
    Calls Tryz.prog 54 #[.bool true, .int .i64 (sym : Int), .slice B n c, .int .i64 (a : Int)] w fun e w' => ExRes w w' (exP 0 farT sym) b a e := by
  have HT := Lib.hid fun wx (k : Nat) (hk : k ≤ 13) (hb : Below w.heap.size w wx) => rtakeP B n c b a k wx (hB.below hb) hn (by omega) (by omega) (by omega)
  clear hB hn
  by_cases h0 : bitE 0 farT sym = 0
  · have hk : bitN 0 farT sym ≤ 13 := by rw [(bitE_zero h0).2.2]; exact rowT_far _
    obtain ⟨k, hkk⟩ : ∃ k, bitN 0 farT sym = k := ⟨_, rfl⟩
    rw [hkk] at hk
    have hex : exP 0 farT sym b a = paBind (tkP k) (fun x => if numE 0 farT sym x ≠ 0 then paNo (numE 0 farT sym x) else paOk (numV 0 farT sym x).toNat) b a := by
      unfold exP; rw [if_neg (by rw [h0]; simp), hkk]
    have HBK := Lib.hid (And.intro h0 hkk)
    clear h0 hkk
    go_enter Tryz.func54, Tryz.ntmps54
    go_upto_region 4 with (first
      | (go_at_call 68; refine (rLongBits_any (sym : Int) _).mono ?_; rintro e w1 ⟨rfl, hb1⟩)
      | (go_at_call 69; refine (rFarBits_any (sym : Int) _).mono ?_; rintro e w2 ⟨rfl, hb2⟩))
    rw [HBK.out.1, HBK.out.2]
    have hbw : Below w.heap.size w w2 := (hb1.trans (hb2.mono hb1.size))
    have HTT := Lib.hid (HT.out w2 k hk hbw)
    unfold TkpRes at HTT
    cases htk : tkP k b a with
    | error x =>
      rw [htk] at HTT
      obtain rfl := fe_tk_err htk
      have HE := Lib.hid (show exP 0 farT sym b a = .error 10 by rw [hex]; exact paBind_no htk)
      clear htk hex
      go_wp2_with (go_at_call 48; refine HTT.out.mono ?_; rintro e w' ⟨rfl, hwe⟩)
      go_ret3
      unfold ExRes
      rw [HE.out]
      exact ⟨hwe ▸ hbw, 0, 0, by decide, rfl⟩
    | ok r =>
      obtain ⟨v, m⟩ := r
      rw [htk] at HTT
      obtain ⟨hv, hm1, hm2⟩ := fe_tk_inv htk
      have hv13 : v < 8192 := Nat.lt_of_lt_of_le hv (Nat.pow_le_pow_right (n := 2) (j := 13) (by omega) hk)
      rw [paBind_ok htk] at hex
      have em : (a : Int) + (k : Int) = (m : Int) := by omega
      have HX := Lib.hid hex
      clear htk hex hv hm1 hm2
      go_wp2_with (first
      | (go_at_call 48; refine HTT.out.mono ?_; rintro e w' ⟨rfl, hwe⟩; have hbt : Below w.heap.size w w' := hwe ▸ hbw)
      | (go_at_call 70; refine (rLongOf_any (sym : Int) (v : Int) _ (by omega) (by omega)).mono ?_; rintro e w4 ⟨rfl, hb4⟩)
      | (go_at_call 71; refine (rFarOf_any (sym : Int) (v : Int) _ (by omega) (by omega)).mono ?_; rintro e w5 ⟨rfl, hb5⟩))
      go_ret3
      unfold ExRes
      rw [HX.out]
      by_cases hn : numE 0 farT sym v = 0
      · rw [if_neg (by rw [hn]; simp)]
        obtain ⟨x, hx⟩ : ∃ x : Nat, numV 0 farT sym v = (x : Int) := ⟨(numV 0 farT sym v).toNat, by
          have h1 : 0 ≤ numV 0 farT sym v := by
            unfold numV
            rw [if_pos hn]
            omega
          omega⟩
        rw [hn, hx]
        exact ⟨((hbt.trans (hb4.mono hbt.size)).trans (hb5.mono (hbt.trans (hb4.mono hbt.size)).size)), rfl⟩
      · rw [if_pos hn]
        exact ⟨((hbt.trans (hb4.mono hbt.size)).trans (hb5.mono (hbt.trans (hb4.mono hbt.size)).size)), _, _, hn, rfl⟩
  · have hex : exP 0 farT sym b a = .error (bitE 0 farT sym) := by
      unfold exP; rw [if_pos h0]; rfl
    obtain ⟨E, hE⟩ : ∃ E, bitE 0 farT sym = E := ⟨_, rfl⟩
    rw [hE] at hex h0
    have q0 : ((E : Int) != 0) = true := by rw [bne_iff_ne]; omega
    have HX := Lib.hid (And.intro hex (And.intro h0 hE))
    clear hex h0 hE
    go_enter Tryz.func54, Tryz.ntmps54
    go_upto_region 4 with (first
      | (go_at_call 68; refine (rLongBits_any (sym : Int) _).mono ?_; rintro e w1 ⟨rfl, hb1⟩)
      | (go_at_call 69; refine (rFarBits_any (sym : Int) _).mono ?_; rintro e w2 ⟨rfl, hb2⟩))
    have hbw : Below w.heap.size w w2 := (hb1.trans (hb2.mono hb1.size))
    rw [HX.out.2.2]
    go_wp2_with fail
    go_ret3
    unfold ExRes
    rw [HX.out.1]
    exact ⟨hbw, 0, 0, HX.out.2.1, rfl⟩
end Go.Proofs.YtahboomghjdjhaaGreat
