/-
  Walks: Codes; the reference's Made and Codes; Same.
-/
import Derived.Test.YtpfhaalbikgmnaaCanonB
namespace Go.Proofs.Ytpfhaalbikgmnaa
open Go.RowKit

/-- Codes as they lie in memory. -/
def codV (l : List (Nat × Nat)) : List Value := prs (fun c => .int .u32 ((c.1 : Nat) : Int)) (fun c => .int .u8 ((c.2 : Nat) : Int)) l
theorem codV_length (l : List (Nat × Nat)) : (codV l).length = l.length * 2 := prs_length l
theorem codV_one (l : List (Nat × Nat)) : ∀ u ∈ codV l, u.oneCell' = true := prs_one (fun _ => rfl) (fun _ => rfl) l
/-- What Codes answers. -/
def canL (l : List Nat) (m : Int) : List (Nat × Nat) := if canE l m = 0 then codesL l else []
def CodRes (w w' : World) (e : Ending) (l : List Nat) (m : Int) : Prop :=
  ∃ B d, e = .returned (.tuple #[.slice B (canL l m).length d, .int .i64 ((canE l m : Nat) : Int)]) ∧ Builds w w' 54 2 B (canL l m).length d (codV (canL l m))
theorem CodRes.no {w w' : World} {e : Ending} {l : List Nat} {m : Int} {E : Nat} (hE : canE l m = E) (h0 : E ≠ 0) (hb : Below w.heap.size w w') (he : e = .returned (.tuple #[.slice none 0 0, .int .i64 (E : Int)])) : CodRes w w' e l m := by
  have : canL l m = [] := by unfold canL; rw [if_neg (by rw [hE]; exact h0)]
  unfold CodRes
  rw [this, hE]
  exact ⟨none, 0, he, Builds.nil' hb _ _⟩
theorem CodRes.yes {w w' : World} {e : Ending} {l : List Nat} {m : Int} (hE : canE l m = 0) {B : Option Addr} {d n : Nat} (hn : n = l.length) (he : e = .returned (.tuple #[.slice B n d, .int .i64 0])) (hb : Builds w w' 54 2 B n d (codV (codesL l))) : CodRes w w' e l m := by
  have : canL l m = codesL l := by unfold canL; rw [if_pos hE]
  unfold CodRes
  rw [this, hE, codesL_length]
  subst hn
  exact ⟨B, d, he, hb⟩

/-- The codes of the first i places. -/
def someC (l : List Nat) (p : Nat → Bool) : List (Nat × Nat) := (List.range l.length).map fun k => if p k = true then codeAt l k else (0, 0)
theorem someC_length (l : List Nat) (p : Nat → Bool) : (someC l p).length = l.length := by simp [someC]
theorem someC_none (l : List Nat) (p : Nat → Bool) (h : ∀ k, k < l.length → p k = true → nth l k = 0) : someC l p = List.replicate l.length (0, 0) := by
  apply List.ext_getElem
  · simp [someC]
  · intro k h1 h2
    rw [someC_length] at h1
    simp only [someC, List.getElem_map, List.getElem_range, List.getElem_replicate]
    split
    · rename_i hp
      unfold codeAt; rw [if_pos (h k h1 hp)]
    · rfl
theorem someC_all (l : List Nat) (p : Nat → Bool) (h : ∀ k, k < l.length → p k = true ∨ nth l k = 0) : someC l p = codesL l := by
  unfold someC codesL
  apply List.map_congr_left
  intro k hk
  rcases h k (List.mem_range.1 hk) with h | h
  · rw [if_pos h]
  · split
    · rfl
    · unfold codeAt; rw [if_pos h]
theorem someC_congr (l : List Nat) {p q : Nat → Bool} (h : ∀ k, k < l.length → p k = q k ∨ nth l k = 0) : someC l p = someC l q := by
  unfold someC
  apply List.map_congr_left
  intro k hk
  rcases h k (List.mem_range.1 hk) with h | h
  · rw [h]
  · have : codeAt l k = (0, 0) := by unfold codeAt; rw [if_pos h]
    rw [this]; simp
theorem someC_set (l : List Nat) {p q : Nat → Bool} {i : Nat} (_ : i < l.length) (hq : q i = true) (h : ∀ k, k < l.length → k ≠ i → p k = q k ∨ nth l k = 0) : (someC l p).set i (codeAt l i) = someC l q := by
  apply List.ext_getElem
  · simp [someC]
  · intro k h1 h2
    rw [someC_length] at h2
    rw [List.getElem_set]
    by_cases e : i = k
    · subst e
      rw [if_pos rfl]
      simp [someC, hq]
    · rw [if_neg e]
      simp only [someC, List.getElem_map, List.getElem_range]
      rcases h k h2 (fun h => e h.symm) with h | h
      · rw [h]
      · have : codeAt l k = (0, 0) := by unfold codeAt; rw [if_pos h]
        rw [this]; simp

theorem nth_le {l : List Nat} {B : Nat} (h : ∀ x ∈ l, x ≤ B) (i : Nat) : nth l i ≤ B := by
  unfold nth
  rcases Nat.lt_or_ge i l.length with hi | hi
  · rw [List.getElem?_eq_getElem hi]; exact h _ (List.getElem_mem hi)
  · rw [List.getElem?_eq_none hi]; exact Nat.zero_le _

theorem two_far {w : World} {g i : Nat} {g' : Nat} {t : TypeId} {cs : Array Value} {a b : Value} (h : Blk w g' t cs) (hne : g' ≠ g) : Blk ((w.setCell ⟨g, i, none⟩ a).setCell ⟨g, i + 1, none⟩ b) g' t cs := (h.far (p := ⟨g, i, none⟩) hne a).far (p := ⟨g, i + 1, none⟩) hne b

set_option maxHeartbeats 4000000 in
set_option maxRecDepth 100000 in
theorem codes_any (A : Option Addr) (c : Nat) (l : List Nat) (m : Int) (w : World) (hl : Bs w A l) (hm : l.length ≤ 1001) (h1 : -9223372036854775808 ≤ m) (h2 : m ≤ 9223372036854775807) :
    Calls Try.prog 22 #[.slice A l.length c, .int .i64 m] w fun e w' => CodRes w w' e l m := by
  have HE := Lib.hid fun w h => check_any A c l m w h hm h1 h2
  by_cases h0 : canE l m = 0
  · obtain ⟨g1, g2, g3, g4, g5, _⟩ := canE_ok h0
    have g15 : ∀ x ∈ l, x ≤ 15 := fun x hx => by have := g4 x hx; omega
    have n15 := nth_le g15
    have HC := Lib.hid fun w h => count_any A c l w h hm n15
    have HB := Lib.hid fun g w h => begin_any g (cnt l) w h (fun n hn => fr_16 g15 g5 hn)
    have HR := Lib.hid fun k => fr_le' (l := l) g15 g5 (n := nth l k) (n15 k)
    have H0 := Lib.hid h0
    have H15 := Lib.hid n15
    rw [h0] at HE
    clear h0 g4 g5 n15 g15
    go_enter Try.func22, Try.ntmps22
    go_wp2_with fail
    refine (HE.out _ hl).mono ?_
    rintro e w1 ⟨rfl, rfl⟩
    go_wp2_with fail
    refine (HC.out _ hl).mono ?_
    rintro e w1 ⟨rfl, hb1⟩
    generalize hcc : cellsOf 17 (w32 (cnt l)) = CC
    have HCC := Lib.hid hcc; clear hcc
    go_wp2_with (refine store_new rfl _ _ _ rfl _ CC rfl rfl (by simp) _ _ (by rw [← HCC.out, size_counts, cellsOf_size]) (by rw [← HCC.out, cellsOf_size]; rfl) (by rw [← HCC.out]; exact cellsOf_one (fun _ _ => rfl)) ?_)
    have hA1 : CntArr (w1.alloc (.cells CC 78)) w1.heap.size (cnt l) := by rw [← HCC.out]; exact Blk.new _ _ _
    refine (HB.out _ _ hA1).mono ?_
    rintro e w2 ⟨rfl, hA2, hG2⟩
    have hb2 : Below w.heap.size w w2 := (hb1.alloc hb1.size _).trans (only_below hG2 (by have := hb1.size; simp; omega) hb1.size)
    clear hA1 hG2 HCC
    go_wp2_with (at_make; refine makes elem_code (z := .agg #[.int .u32 0, .int .u8 0]) (by kernel_rfl) rfl _ _ rfl l.length rfl rfl rfl (by omega) (by omega) (codV (List.replicate l.length (0, 0))) (made_prs (0, 0) rfl _) ?_; intro w3 hB3)
    have hA3 := Arr.below hA2 hB3.1 (Arr.lt hA2)
    have hB3' := hB3.rebase hb2
    have hg3 : w1.heap.size ≤ w2.heap.size := Nat.le_of_lt (Arr.lt hA2)
    have hg0 := hb1.size
    have hgne : w2.heap.size ≠ w1.heap.size := by have := Arr.lt hA2; omega
    clear hB3 hA2
    go_loopg [25] l.length (fun gk v wr => ∃ i : Nat, i ≤ l.length ∧ gk = l.length - i ∧ v = .int .i64 (i : Int) ∧ CntArr wr w1.heap.size (fun n => frF (cnt l) n + cnt (l.take i) n) ∧ Builds w wr 54 2 (some ⟨w2.heap.size, 0, none⟩) l.length l.length (codV (someC l (fun k => decide (k < i)))))
    case atStart =>
      refine ⟨0, by omega, by omega, rfl, Arr.congr hA3 (fun k _ => by unfold w32; simp [cnt_nil]), ?_⟩
      rw [someC_none]
      · exact hB3'
      · intro k _ h; simp at h
    case round =>
      obtain ⟨i, hi, hk, rfl, hA, hB⟩ := hrel
      have hl1 := hl.below hB.1
      by_cases hlt : i < l.length
      · obtain ⟨b, off, rfl, hcell, hx⟩ := hl1.at_ hlt
        have hx15 := H15.out i
        have hfr := HR.out i
        have hct := cnt_take_le l (nth l i) i
        have HT := Lib.hid (take_snoc l i hlt)
        have HCA := Lib.hid (show codeAt l i = if nth l i = 0 then (0, 0) else (frF (cnt l) (nth l i) + cnt (l.take i) (nth l i), nth l i) from rfl)
        by_cases hz : nth l i = 0
        · have HN := Lib.hid (show ∀ k, k < 17 → w32 (fun n => frF (cnt l) n + cnt (l.take i) n) k = w32 (fun n => frF (cnt l) n + cnt (l.take (i + 1)) n) k from fun k _ => by
            unfold w32; dsimp only; rw [HT.out, cnt_snoc, if_neg (by omega)])
          have HM := Lib.hid (show someC l (fun k => decide (k < i)) = someC l (fun k => decide (k < i + 1)) from someC_congr l (fun k _ => by
            by_cases e : k = i
            · right; rw [e]; exact hz
            · left; rw [Bool.eq_iff_iff]; simp; omega))
          rw [hz] at hcell
          clear hz hfr hct
          go_wp2_with fail
          go_roundg (l.length - (i + 1))
          case measure => omega
          case rel => exact ⟨i + 1, by omega, by omega, by go_num, Arr.congr hA HN.out, by rw [← HM.out]; exact hB⟩
        · have HN := Lib.hid (show ∀ k, k < 17 → w32 (fun k => if k = nth l i then (frF (cnt l) (nth l i) + cnt (l.take i) (nth l i)) + 1 else frF (cnt l) k + cnt (l.take i) k) k = w32 (fun n => frF (cnt l) n + cnt (l.take (i + 1)) n) k from fun k _ => by
            unfold w32; dsimp only; rw [HT.out, cnt_snoc]
            by_cases e : k = nth l i
            · rw [if_pos e, if_pos ⟨by omega, e⟩, e, Nat.add_assoc]
            · rw [if_neg e, if_neg (fun h => e h.2)])
          have HM := Lib.hid (show (someC l (fun k => decide (k < i))).set i (codeAt l i) = someC l (fun k => decide (k < i + 1)) from someC_set l hlt (by simp) (fun k _ hne => by
            left; rw [Bool.eq_iff_iff]; simp; omega))
          have HX := Lib.hid fun w h => next_any w1.heap.size (nth l i) (fun n => frF (cnt l) n + cnt (l.take i) n) w h hx15 (by omega)
          rw [if_neg hz] at HCA
          generalize frF (cnt l) (nth l i) + cnt (l.take i) (nth l i) = Y at *
          generalize nth l i = x at *
          go_wp2_with fail
          refine (HX.out _ hA).mono ?_
          rintro e w4 ⟨rfl, hA4, hG4⟩
          have hB4 := hB.only hG4 hA (by decide) hg0
          have hc4 := hB4.cell (i * 2) (by omega)
          have hc5 := hB4.cell (i * 2 + 1) (by omega)
          have hcx := (codV_length (someC l (fun k => decide (k < i))))
          rw [someC_length] at hcx
          have hq4 : i * 2 < (codV (someC l (fun k => decide (k < i)))).length := by omega
          have hq5 : i * 2 + 1 < (codV (someC l (fun k => decide (k < i)))).length := by omega
          rw [List.getElem?_eq_getElem hq4] at hc4
          rw [List.getElem?_eq_getElem hq5] at hc5
          have hf4 := hB4.free (i * 2)
          have hf5 := hB4.free (i * 2 + 1)
          have hlt4 := (hB4.2.lt _ rfl).2
          have hB5 := (hB4.set (i * 2) (by omega) (.int .u32 (Y : Int))).set (i * 2 + 1) (by omega) (.int .u8 (x : Int))
          have HB5 := Lib.hid hB5
          have HB4 := Lib.hid hB4
          have HA5 := Lib.hid (two_far (i := i * 2) (a := .int .u32 (Y : Int)) (b := .int .u8 (x : Int)) hA4 (Ne.symm hgne))
          clear hB5 hB4 hcx
          generalize (codV (someC l (fun k => decide (k < i))))[i * 2] = v4 at *
          generalize (codV (someC l (fun k => decide (k < i))))[i * 2 + 1] = v5 at *
          clear hq4 hq5
          go_wp2_with fail
          go_roundg (l.length - (i + 1))
          case measure => omega
          case rel =>
            refine ⟨i + 1, by omega, by omega, by go_num, Arr.congr HA5.out HN.out, ?_⟩
            have h := HB5.out
            rw [show ((codV (someC l (fun k => decide (k < i)))).set (i * 2) (.int .u32 (Y : Int))).set (i * 2 + 1) (.int .u8 (x : Int)) = codV ((someC l (fun k => decide (k < i))).set i (Y, x)) from prs_set _ i (Y, x) (by rw [someC_length]; omega), ← HCA.out, HM.out] at h
            exact h
      · obtain rfl : i = l.length := by omega
        have HS := Lib.hid (someC_all l (fun k => decide (k < l.length)) (fun k hk => .inl (by simpa using hk)))
        go_wp2_with fail
        go_ret2
        rw [HS.out] at hB
        exact CodRes.yes H0.out rfl rfl hB
  · have H := Lib.hid fun w' e => CodRes.no (w := w) (w' := w') (e := e) rfl h0
    have he : ((canE l m : Int) != 0) = true := by rw [bne_iff_ne]; omega
    have hE := canE_le l m
    generalize canE l m = E at *
    go_enter Try.func22, Try.ntmps22
    go_wp2_with fail
    refine (HE.out _ hl).mono ?_
    rintro e w1 ⟨rfl, rfl⟩
    go_wp2_with fail
    go_ret2
    exact H.out _ _ (Below.refl _ _) rfl

/-- What the reference has made: all shorter ones, and those of length n ahead of i. -/
def madeP (l : List Nat) (n i k : Nat) : Bool := decide (nth l k < n ∨ nth l k = n ∧ k < i)

set_option maxHeartbeats 4000000 in
set_option maxRecDepth 100000 in
theorem made_any (A : Option Addr) (c : Nat) (l : List Nat) (w : World) (hl : Bs w A l) (hm : l.length ≤ 1001) (h15 : ∀ x ∈ l, x ≤ 15) (hk : kraft l ≤ 32768) :
    Calls Try.prog 36 #[.slice A l.length c] w fun e w' => ∃ B d, e = .returned (.slice B l.length d) ∧ Builds w w' 54 2 B l.length d (codV (codesL l)) := by
  have n15 := nth_le h15
  have HAT := Lib.hid fun n (hn : n ≤ 16) => (show atF (cnt l) n ≤ 32768 from Nat.le_trans (atF_mono _ hn) (by rw [← kraft_at l h15]; exact hk))
  have HFA := Lib.hid (fr_at (cnt l) (cnt_0 l))
  have H15 := Lib.hid n15
  clear h15 hk n15
  go_enter Try.func36, Try.ntmps36
  go_wp2_with (at_make; refine makes elem_code (z := .agg #[.int .u32 0, .int .u8 0]) (by kernel_rfl) rfl _ _ rfl l.length rfl rfl rfl (by omega) (by omega) (codV (List.replicate l.length (0, 0))) (made_prs (0, 0) rfl _) ?_; intro w3 hB3)
  go_loopg [4, 5] 15 (fun gk av nv wr => ∃ n : Nat, 1 ≤ n ∧ n ≤ 16 ∧ gk = 16 - n ∧ nv = .int .i64 (n : Int) ∧ av = .int .i64 ((atF (cnt l) n : Nat) : Int) ∧ Builds w wr 54 2 (some ⟨w.heap.size, 0, none⟩) l.length l.length (codV (someC l (madeP l n 0))))
  case atStart =>
    refine ⟨1, by omega, by omega, by omega, rfl, by simp [atF, cnt_0], ?_⟩
    rw [someC_none]
    · exact hB3
    · intro k _ h; simp [madeP] at h; omega
  case round =>
    obtain ⟨n, hn1, hn2, hgk, rfl, rfl, hB⟩ := hrel
    by_cases hlt : n ≤ 15
    · have hd15 : decide ((n : Int) ≤ 15) = true := by simp; omega
      have hat := HAT.out n (by omega)
      have hat2 := HAT.out (n + 1) (by omega)
      have HS := Lib.hid (show atF (cnt l) (n + 1) = atF (cnt l) n + cnt l n * pw n from rfl)
      have HFN := Lib.hid (HFA.out n hlt)
      go_wp2_with fail
      obtain ⟨wo, rfl⟩ : ∃ wo : World, wo = wr := ⟨_, rfl⟩
      go_loopg [4, 6] l.length (fun gk av iv wr => ∃ i : Nat, i ≤ l.length ∧ gk = l.length - i ∧ iv = .int .i64 (i : Int) ∧ av = .int .i64 ((atF (cnt l) n + cnt (l.take i) n * pw n : Nat) : Int) ∧ Builds w wr 54 2 (some ⟨w.heap.size, 0, none⟩) l.length l.length (codV (someC l (madeP l n i))))
      case atStart => exact ⟨0, by omega, by omega, rfl, by simp [cnt_nil], hB⟩
      case round =>
        obtain ⟨i, hi, hgk2, rfl, rfl, hB⟩ := hrel
        have hl1 := hl.below hB.1
        have hct := cnt_take_le l n i
        have hcm := Nat.mul_le_mul_right (pw n) hct
        by_cases hlti : i < l.length
        · obtain ⟨b, off, rfl, hcell, hx⟩ := hl1.at_ hlti
          have HT := Lib.hid (take_snoc l i hlti)
          by_cases he : nth l i = n
          · have HP := Lib.hid fun w => part_any n w hlt
            have hpp := pw_pos n
            have HCA := Lib.hid (show codeAt l i = (frF (cnt l) n + cnt (l.take i) n, n) by unfold codeAt; rw [he, if_neg (by omega)])
            have HM := Lib.hid (show (someC l (madeP l n i)).set i (codeAt l i) = someC l (madeP l n (i + 1)) from someC_set l hlti (by simp [madeP, he]) (fun k _ hne => by
              left; unfold madeP; rw [Bool.eq_iff_iff]; simp; omega))
            have HQ := Lib.hid (show (atF (cnt l) n + cnt (l.take i) n * pw n) / pw n = frF (cnt l) n + cnt (l.take i) n by rw [← HFN.out, ← Nat.add_mul, Nat.mul_div_cancel _ (by omega)])
            have hQle : frF (cnt l) n + cnt (l.take i) n ≤ 32768 := by rw [← HQ.out]; exact Nat.le_trans (Nat.div_le_self _ _) (by have := HS.out; omega)
            have HC1 := Lib.hid (show atF (cnt l) n + cnt (l.take (i + 1)) n * pw n = (atF (cnt l) n + cnt (l.take i) n * pw n) + pw n by rw [HT.out, cnt_snoc, if_pos ⟨by omega, he.symm⟩, Nat.add_mul]; omega)
            have hs32 : atF (cnt l) n + cnt (l.take i) n * pw n ≤ 32768 := by have := HS.out; omega
            have hpw := pw_le n
            rw [he] at hcell
            have hc4 := hB.cell (i * 2) (by omega)
            have hc5 := hB.cell (i * 2 + 1) (by omega)
            have hcx := (codV_length (someC l (madeP l n i)))
            rw [someC_length] at hcx
            have hq4 : i * 2 < (codV (someC l (madeP l n i))).length := by omega
            have hq5 : i * 2 + 1 < (codV (someC l (madeP l n i))).length := by omega
            rw [List.getElem?_eq_getElem hq4] at hc4
            rw [List.getElem?_eq_getElem hq5] at hc5
            have hf4 := hB.free (i * 2)
            have hf5 := hB.free (i * 2 + 1)
            have hlt4 := (hB.2.lt _ rfl).2
            have HB5 := Lib.hid ((hB.set (i * 2) (by omega) (.int .u32 ((frF (cnt l) n + cnt (l.take i) n : Nat) : Int))).set (i * 2 + 1) (by omega) (.int .u8 (n : Int)))
            generalize (codV (someC l (madeP l n i)))[i * 2] = v4 at *
            generalize (codV (someC l (madeP l n i)))[i * 2 + 1] = v5 at *
            clear hq4 hq5 hcx he hct hcm
            generalize frF (cnt l) n + cnt (l.take i) n = Y at *
            generalize hSS : atF (cnt l) n + cnt (l.take i) n * pw n = S at *
            generalize hpn : pw n = p at *
            have HPN := Lib.hid hpn; clear hpn
            have HSS := Lib.hid hSS; clear hSS
            go_wp2_with fail
            refine (HP.out _).mono ?_
            rintro e w4 ⟨rfl, rfl⟩
            have hdiv : (S : Int) / p = (Y : Int) := by rw [← HQ.out]; simp
            go_wp2_with fail
            refine (HP.out _).mono ?_
            rintro e w5 ⟨rfl, rfl⟩
            go_wp2_with fail
            go_roundg (l.length - (i + 1))
            case measure => omega
            case rel =>
              refine ⟨i + 1, by omega, by omega, by go_num, by rw [HC1.out]; go_num, ?_⟩
              have h := HB5.out
              rw [show ((codV (someC l (madeP l n i))).set (i * 2) (.int .u32 (Y : Int))).set (i * 2 + 1) (.int .u8 (n : Int)) = codV ((someC l (madeP l n i)).set i (Y, n)) from prs_set _ i (Y, n) (by rw [someC_length]; omega), ← HCA.out, HM.out] at h
              exact h
          · have HM := Lib.hid (show someC l (madeP l n i) = someC l (madeP l n (i + 1)) from someC_congr l (fun k _ => by
              left; unfold madeP; rw [Bool.eq_iff_iff]; simp
              by_cases e : k = i
              · subst e; omega
              · omega))
            have HC1 := Lib.hid (show cnt (l.take (i + 1)) n = cnt (l.take i) n by rw [HT.out, cnt_snoc, if_neg (fun h => he h.2.symm)])
            have hd : (((nth l i : Nat) : Int) == (n : Int)) = false := by rw [beq_eq_false_iff_ne]; omega
            generalize nth l i = x at *
            go_wp2_with fail
            go_roundg (l.length - (i + 1))
            case measure => omega
            case rel => exact ⟨i + 1, by omega, by omega, by go_num, by rw [HC1.out], by rw [← HM.out]; exact hB⟩
        · obtain rfl : i = l.length := by omega
          rw [List.take_length] at *
          have HM := Lib.hid (show someC l (madeP l n l.length) = someC l (madeP l (n + 1) 0) from someC_congr l (fun k hk => by
            left; unfold madeP; rw [Bool.eq_iff_iff]; simp; omega))
          go_wp2_with fail
          go_roundg (16 - (n + 1))
          case measure => omega
          case rel => exact ⟨n + 1, by omega, by omega, by omega, by go_num, by rw [HS.out], by rw [← HM.out]; exact hB⟩
    · obtain rfl : n = 16 := by omega
      have HM := Lib.hid (show someC l (madeP l 16 0) = codesL l from someC_all l _ (fun k _ => by
        left; unfold madeP; simp; have := H15.out k; omega))
      go_wp2_with fail
      go_ret
      rw [HM.out] at hB
      exact ⟨_, _, rfl, hB⟩

/-- A code's two cells. -/
theorem Rd.cod {w : World} {A : Option Addr} {l : List (Nat × Nat)} (h : Rd w A (codV l)) {i : Nat} (hi : i < l.length) :
    ∃ b off, A = some ⟨b, off, none⟩ ∧ w.cell? ⟨b, off + i * 2, none⟩ = some (.int .u32 (((l[i]'hi).1 : Nat) : Int)) ∧ w.cell? ⟨b, off + i * 2 + 1, none⟩ = some (.int .u8 (((l[i]'hi).2 : Nat) : Int)) := by
  obtain ⟨b, off, hA, hc⟩ := h.at_ (by rw [codV_length]; omega)
  obtain ⟨h1, h2⟩ := prs_get (f := fun c : Nat × Nat => .int .u32 ((c.1 : Nat) : Int)) (g := fun c : Nat × Nat => .int .u8 ((c.2 : Nat) : Int)) l i l[i] (List.getElem?_eq_getElem hi)
  refine ⟨b, off, hA, ?_, ?_⟩
  · rw [Nat.mul_comm]; exact hc _ _ h1
  · rw [Nat.add_assoc, Nat.mul_comm i 2]; exact hc _ _ h2

end Go.Proofs.Ytpfhaalbikgmnaa
