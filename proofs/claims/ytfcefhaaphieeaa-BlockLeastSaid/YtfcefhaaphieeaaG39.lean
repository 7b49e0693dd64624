/-
  Plain: what the stage's theorem asks of a block's bits. No program in sight.
-/
import Derived.Test.YtfcefhaaphieeaaG32
import Derived.Test.YtfcefhaaphieeaaGBlkQ
namespace Go.Proofs.Ytfcefhaaphieeaa

theorem bestN_le (f : Nat → Nat) : bestN f ≤ 2 := by unfold bestN; split <;> split <;> omega
theorem bestN_min (f : Nat → Nat) (k : Nat) (hk : k ≤ 2) : f (bestN f) ≤ f k ∧ (f (bestN f) = f k → bestN f ≤ k) := by
  have : k = 0 ∨ k = 1 ∨ k = 2 := by omega
  unfold bestN
  by_cases h1 : f 1 < f 0
  · rw [if_pos h1]
    by_cases h2 : f 2 < f 1
    · rw [if_pos h2]
      rcases this with rfl | rfl | rfl <;> exact ⟨by omega, fun h => by omega⟩
    · rw [if_neg h2]
      rcases this with rfl | rfl | rfl <;> exact ⟨by omega, fun h => by omega⟩
  · rw [if_neg h1]
    by_cases h2 : f 2 < f 0
    · rw [if_pos h2]
      rcases this with rfl | rfl | rfl <;> exact ⟨by omega, fun h => by omega⟩
    · rw [if_neg h2]
      rcases this with rfl | rfl | rfl <;> exact ⟨by omega, fun h => by omega⟩
theorem nums_last (a kind : Nat) (raw : List Nat) (l : List Tk) (last : Bool) : lenN (numsP a kind raw l last) = lenN (numsP a kind raw l false) := by
  unfold numsP
  rw [lenN_append, lenN_append]
  congr 1
section
variable {pl raw : List Nat} {l : List Tk} {b kind : Nat}
/-- A block of few bytes and tokens has few bits. -/
theorem few_bits (last : Bool) (hk : kind ≤ 2) (hx : ∀ x ∈ raw, x < 256) (hr : raw.length ≤ 500) (hl : l.length ≤ 200) (ht : TksOk l) (a : Nat) : lenN (numsP a kind raw l last) ≤ 64000 := by
  have := numsP_bits (at_ := a) last hk hx (by omega) ht
  omega
theorem few_pen (hP : Pen pl b) (h : pl.length ≤ 500) : b ≤ 4000 := by have := hP.len; omega
theorem wrE_ask (last : Bool) (hP : Pen pl b) (hb : pl.length ≤ 500) (hx : ∀ x ∈ raw, x < 256) (hr : raw.length ≤ 500) (hl : l.length ≤ 200) (hk : ∀ t ∈ l, TkN t) : wrE pl b kind raw l last = askK kind raw.length l := by
  have h4 := few_pen hP hb
  unfold wrE
  rw [hP.may (by omega), if_pos rfl]
  by_cases h0 : askK kind raw.length l = 0
  · rw [if_pos h0, h0]
    obtain ⟨k1, _, _, k4⟩ := askK_zero h0
    have := few_bits last k1 hx hr hl (tks_of k4 hk) (b % 8)
    unfold wrNums
    rw [Int.toNat_natCast, if_neg (by omega)]
  · rw [if_neg h0]
theorem longV_ok (a : Nat) (ha : a ≤ 7) (h0 : askK kind raw.length l = 0) : longV a kind raw l = (lenN (numsP a kind raw l false), 0) := by
  unfold longV
  rw [if_neg (by omega), if_pos h0, Int.toNat_natCast]
theorem longV_no (a : Nat) (ha : a ≤ 7) (h0 : askK kind raw.length l ≠ 0) : longV a kind raw l = (0, askK kind raw.length l) := by
  unfold longV
  rw [if_neg (by omega), if_neg h0]
theorem bestV_ok (a : Nat) (ha : a ≤ 7) (h0 : askK kind raw.length l = 0) : bestV a raw l = (bestN fun k => (longV a k raw l).1, 0) := by
  have hk := (askK_zero h0).1
  have : (longV (a : Int) 0 raw l).2 = 0 := by
    rw [longV_ok a ha (by rw [← ask_le kind hk]; exact h0)]
  unfold bestV
  rw [this, if_pos rfl]

/-- The first three bits. -/
theorem three_bits (hP : Pen pl b) (at_ : Nat) (last : Bool) (hk : kind ≤ 2) : numOf (putAll pl b (numsP at_ kind raw l last)) b 3 = (if last = true then 1 else 0) + 2 * kind := by
  obtain ⟨_, hB⟩ := hP.all (numsP at_ kind raw l last)
  have hf : flat (numsP at_ kind raw l last) = [(if last = true then 1 else 0), kind % 2, kind / 2 % 2] ++ flat (bodyP at_ kind raw l) := by
    unfold numsP headN
    rw [flat_append]
    congr 1
    cases last <;> simp [flat, flatN, List.range_succ]
  rw [numOf_bits _ _ ((if last = true then 1 else 0) + 2 * kind)]
  · apply Nat.mod_eq_of_lt; cases last <;> simp <;> omega
  · intro i hi
    rw [hB, if_neg (by omega), hf]
    have : i = 0 ∨ i = 1 ∨ i = 2 := by omega
    rcases this with rfl | rfl | rfl
    · rw [show b + 0 - b = 0 by omega]; cases last <;> simp [nth]
    · rw [show b + 1 - b = 1 by omega]; cases last <;> simp [nth] <;> omega
    · rw [show b + 2 - b = 2 by omega]; cases last <;> simp [nth] <;> omega
end
end Go.Proofs.Ytfcefhaaphieeaa

/-
  Plain: a stored block's bytes. No program in sight.
-/
namespace Go.Proofs.Ytfcefhaaphieeaa

theorem flat_bytes : ∀ (bs : List Nat) (i : Nat), nth (flat (bs.map byteN)) i = bitOf bs i
  | [], i => by simp [flat, nth, bitOf]
  | x :: bs, i => by
    rw [List.map_cons, flat_cons, bnth_append, flatN_length]
    have e : (byteN x).2 = 8 := rfl
    rw [e]
    by_cases hi : i < 8
    · rw [if_pos hi, flatN_at _ _ (by rw [e]; exact hi)]
      unfold bitOf
      rw [Nat.div_eq_of_lt hi, Nat.mod_eq_of_lt hi]
      simp [nth, byteN]
    · rw [if_neg hi, flat_bytes bs (i - 8)]
      unfold bitOf
      obtain ⟨j, rfl⟩ : ∃ j, i = j + 8 := ⟨i - 8, by omega⟩
      rw [show j + 8 - 8 = j by omega, show (j + 8) / 8 = j / 8 + 1 by omega, show (j + 8) % 8 = j % 8 by omega]
      simp [nth]
theorem flat_16 (x : Nat) : flatN (x, 16) = flatN (byteN (x % 256)) ++ flatN (byteN (x / 256)) := by
  have h16 : ∀ i, i < 16 → x / 2 ^ i % 2 = if i < 8 then x % 256 / 2 ^ i % 2 else x / 256 / 2 ^ (i - 8) % 2 := by
    intro i hi
    by_cases h : i < 8
    · rw [if_pos h]
      have : i = 0 ∨ i = 1 ∨ i = 2 ∨ i = 3 ∨ i = 4 ∨ i = 5 ∨ i = 6 ∨ i = 7 := by omega
      rcases this with rfl | rfl | rfl | rfl | rfl | rfl | rfl | rfl <;> simp <;> omega
    · rw [if_neg h, show 256 = 2 ^ 8 by rfl, Nat.div_div_eq_div_mul, ← Nat.pow_add, show 8 + (i - 8) = i by omega]
  apply List.ext_getElem
  · simp [flatN, byteN]
  · intro i h1 h2
    have hi : i < 16 := by simpa [flatN] using h1
    have e1 : (flatN (x, 16))[i]'h1 = x / 2 ^ i % 2 := by simp [flatN]
    rw [e1, h16 i hi]
    by_cases h : i < 8
    · rw [if_pos h, List.getElem_append_left (by simp [flatN, byteN]; exact h)]; simp [flatN, byteN]
    · rw [if_neg h, List.getElem_append_right (by simp [flatN, byteN]; omega)]; simp [flatN, byteN]
/-- The bytes behind the pad. -/
def tailB (raw : List Nat) : List Nat := raw.length % 256 :: raw.length / 256 :: (65535 - raw.length) % 256 :: (65535 - raw.length) / 256 :: raw
theorem raw_flat (raw : List Nat) : flat (rawN raw) = flat ((tailB raw).map byteN) := by
  unfold rawN tailB
  simp only [List.map_cons]
  rw [flat_cons, flat_cons, flat_cons, flat_cons, flat_cons, flat_cons, flat_16, flat_16]
  simp only [List.append_assoc]
theorem stored_nums (a : Nat) (raw : List Nat) (l : List Tk) (last : Bool) : numsP a 0 raw l last = headN last 0 ++ ((0, padN a) :: rawN raw) := by unfold numsP bodyP; rw [if_pos rfl]
theorem stored_len (a : Nat) (raw : List Nat) (l : List Tk) (last : Bool) : lenN (numsP a 0 raw l last) = 3 + (padN a + (32 + 8 * raw.length)) := by
  rw [stored_nums, lenN_append, lenN_cons]
  have e1 : lenN (headN last 0) = 3 := rfl
  have e2 : lenN (rawN raw) = 32 + 8 * raw.length := by
    unfold rawN
    rw [lenN_cons, lenN_cons]
    have : ∀ bs : List Nat, lenN (bs.map byteN) = 8 * bs.length := fun bs => by
      induction bs with
      | nil => rfl
      | cons x bs ih => rw [List.map_cons, lenN_cons, ih, List.length_cons]; show 8 + _ = _; omega
    rw [this]; omega
  rw [e1, e2]
theorem pad_whole (b : Nat) : b + (3 + padN (b % 8)) = 8 * ((b + 3 + 7) / 8) := by unfold padN; omega
theorem stored_tail {pl : List Nat} {b : Nat} (hP : Pen pl b) (raw : List Nat) (l : List Tk) (last : Bool) (hx : ∀ x ∈ raw, x < 256) (hr : raw.length ≤ 65535) : (putAll pl b (numsP (b % 8) 0 raw l last)).drop ((b + 3 + 7) / 8) = tailB raw := by
  obtain ⟨hM, hB⟩ := hP.all (numsP (b % 8) 0 raw l last)
  have hw := pad_whole b
  have hl := hM.len
  rw [stored_len] at hl
  refine bytes_ext (fun x h => hM.byte x (List.mem_of_mem_drop h)) ?_ ?_ ?_
  · intro x h
    unfold tailB at h
    simp only [List.mem_cons] at h
    rcases h with rfl | rfl | rfl | rfl | h
    · omega
    · omega
    · omega
    · omega
    · exact hx x h
  · rw [List.length_drop, hl]
    unfold tailB
    simp only [List.length_cons]
    omega
  · intro i _
    rw [bitOf_drop, hB, if_neg (by omega), ← flat_bytes, ← raw_flat, stored_nums, flat_append, flat_cons]
    rw [bnth_append, flat_length, if_neg (by have : lenN (headN last 0) = 3 := rfl; omega), bnth_append, flatN_length, if_neg (by have : lenN (headN last 0) = 3 := rfl; simp only; omega)]
    congr 1
    have : lenN (headN last 0) = 3 := rfl
    simp only
    omega
end Go.Proofs.Ytfcefhaaphieeaa

/-
  Plain: a dynamic block is not short; the chapter's numbers. No program in sight.
-/
namespace Go.Proofs.Ytfcefhaaphieeaa

theorem code_len (l : List Nat) (i : Nat) (h : i < l.length) : (nthC (codesL l) i).2 = nth l i := by
  rw [nthC_at l i h]
  unfold codeAt
  by_cases h0 : nth l i = 0
  · rw [if_pos h0, h0]
  · rw [if_neg h0]
theorem cut_nth {l : List Nat} {least i : Nat} (h : nth l i ≠ 0) (hi : i < l.length) : nth (cutL l least) i ≠ 0 ∧ i < (cutL l least).length := by
  have := toldN_lt (least := least) h hi
  rw [cutL_length]
  refine ⟨?_, this⟩
  unfold cutL
  rw [nth_take _ _ _ this]; exact h
theorem sym_len {l : List Tk} (h : TksOk l) : ∀ s ∈ symsL l, 1 ≤ (nthC (if s.far = true then codesL (dFars l) else codesL (dLongs l)) s.sym).2 := fun s hs => by
  have h1 := (symsL_ok h s hs).1
  by_cases hf : s.far = true
  · rw [if_pos hf] at h1 ⊢
    have hp := oftS_pos hs hf
    have hm := min_fars l
    have hl := hm.len
    rw [freqL_length] at hl
    have h0 : nth (minL (freqL true 30 (symsL l)) 15) s.sym ≠ 0 := fun e => by
      have := (hm.pos s.sym (by rw [freqL_length]; exact h1)).1 e
      rw [freqL_at _ _ _ _ h1] at this
      omega
    obtain ⟨e1, e2⟩ := cut_nth (least := 1) h0 (by omega)
    have := code_len (dFars l) s.sym e2
    unfold dFars at this ⊢
    omega
  · rw [if_neg hf] at h1 ⊢
    have hf' : s.far = false := by simpa using hf
    have hp := oftS_pos hs hf'
    have hm := min_longs l
    have hl := hm.len
    rw [freqL_length] at hl
    have h0 : nth (minL (freqL false 286 (symsL l)) 15) s.sym ≠ 0 := fun e => by
      have := (hm.pos s.sym (by rw [freqL_length]; exact h1)).1 e
      rw [freqL_at _ _ _ _ h1] at this
      omega
    obtain ⟨e1, e2⟩ := cut_nth (least := 257) h0 (by omega)
    have := code_len (dLongs l) s.sym e2
    unfold dLongs at this ⊢
    omega
theorem toks_low (a b : List (Nat × Nat)) : ∀ ss : List Sy, (∀ s ∈ ss, 1 ≤ (nthC (if s.far = true then b else a) s.sym).2) → ss.length ≤ lenN (toksP a b ss)
  | [], _ => by simp
  | s :: ss, h => by
    have e : toksP a b (s :: ss) = tokP a b s ++ toksP a b ss := by simp [toksP]
    have h1 := h s List.mem_cons_self
    have h2 := toks_low a b ss fun t ht => h t (List.mem_cons_of_mem _ ht)
    rw [e, lenN_append, List.length_cons]
    have : 1 ≤ lenN (tokP a b s) := by
      unfold tokP
      rw [lenN_cons]
      unfold codeN
      omega
    omega
theorem runs_low (l : List Tk) : 1 ≤ lenN (runsN (codesL (dShorts l)) (dAll l)) := by
  have hL := (dLongs_len l).1
  have hne : 0 < (dLongs l ++ dFars l).length := by rw [List.length_append]; omega
  have e : dAll l = (stepOf (dLongs l ++ dFars l) 0).1 :: runsFrom (dLongs l ++ dFars l) (0 + (stepOf (dLongs l ++ dFars l) 0).2) := by unfold dAll; rw [runsFrom_step hne]
  have hmem : (stepOf (dLongs l ++ dFars l) 0).1 ∈ dAll l := by rw [e]; exact List.mem_cons_self
  obtain ⟨o1, o2, _, _⟩ := dAll_ok l _ hmem
  have hp := oftR_pos hmem o1
  have hm := min_shorts l
  have hs := dShorts_len l
  generalize (stepOf (dLongs l ++ dFars l) 0).1 = r at *
  have hlt : r.1.toNat < 19 := by omega
  have h0 : nth (dShorts l) r.1.toNat ≠ 0 := fun e => by
    have := (hm.pos r.1.toNat (by rw [freqR_length]; exact hlt)).1 e
    rw [freqR_at _ _ hlt] at this
    omega
  have hc := code_len (dShorts l) r.1.toNat (by omega)
  have hsplit : runsN (codesL (dShorts l)) (r :: runsFrom (dLongs l ++ dFars l) (0 + (stepOf (dLongs l ++ dFars l) 0).2)) = runN (codesL (dShorts l)) r ++ runsN (codesL (dShorts l)) (runsFrom (dLongs l ++ dFars l) (0 + (stepOf (dLongs l ++ dFars l) 0).2)) := by simp [runsN]
  rw [e, hsplit, lenN_append]
  have : 1 ≤ lenN (runN (codesL (dShorts l)) r) := by
    unfold runN
    rw [lenN_cons]
    unfold codeN
    omega
  omega
theorem dyn_low {l : List Tk} (h : TksOk l) (a : Nat) (raw : List Nat) : 30 + (symsL l).length ≤ lenN (numsP a 2 raw l false) := by
  have h1 := toks_low _ _ (symsL l) (sym_len h)
  have h2 := runs_low l
  have h3 := (dRow_len l).1
  have e : numsP a 2 raw l false = headN false 2 ++ (dNums l ++ toksP (codesL (dLongs l)) (codesL (dFars l)) (symsL l)) := by unfold numsP bodyP; rw [if_neg (by omega), if_neg (by omega)]
  rw [e, lenN_append, lenN_append]
  have e3 : lenN (headN false 2) = 3 := rfl
  have e4 : lenN (dNums l) = 14 + (3 * (dRow l).length + lenN (runsN (codesL (dShorts l)) (dAll l))) := by
    unfold dNums
    rw [lenN_append, lenN_append]
    have x1 : lenN (dHead l) = 14 := by unfold dHead; simp [lenN]
    have x2 : ∀ r : List Nat, lenN (r.map shortN) = 3 * r.length := fun r => by
      induction r with
      | nil => rfl
      | cons x r ih => rw [List.map_cons, lenN_cons, ih, List.length_cons]; show 3 + _ = _; omega
    rw [x1, x2]
  omega

theorem fixed_nums (a : Nat) (raw : List Nat) (l : List Tk) : numsP a 1 raw l false = headN false 1 ++ toksP (codesL longsF) (codesL farsF) (symsL l) := by unfold numsP bodyP; rw [if_neg (by omega), if_pos rfl]
theorem bestN_one (f : Nat → Nat) (h1 : f 1 < f 0) (h2 : ¬ f 2 < f 1) : bestN f = 1 := by unfold bestN; rw [if_pos h1, if_neg h2]
def tk3 : List Tk := [⟨97, 0, 0⟩, ⟨98, 0, 0⟩, ⟨99, 0, 0⟩]
theorem tk3_ok : TksOk tk3 := by
  intro t ht
  simp only [tk3, List.mem_cons, List.not_mem_nil, or_false] at ht
  rcases ht with rfl | rfl | rfl <;> exact ⟨by decide, by decide⟩
set_option maxRecDepth 100000 in
theorem best_three : bestV 0 [97, 98, 99] tk3 = (1, 0) := by
  have h0 : ∀ k, k ≤ 2 → askK k ([97, 98, 99] : List Nat).length tk3 = 0 := by decide
  have e := bestV_ok (raw := [97, 98, 99]) (l := tk3) (kind := 0) 0 (by omega) (h0 0 (by omega))
  have e' : bestV 0 [97, 98, 99] tk3 = bestV ((0 : Nat) : Int) [97, 98, 99] tk3 := rfl
  rw [e', e]
  have f0 : (longV ((0 : Nat) : Int) 0 [97, 98, 99] tk3).1 = 64 := by rw [longV_ok 0 (by omega) (h0 0 (by omega)), stored_len]; rfl
  have f1 : (longV ((0 : Nat) : Int) 1 [97, 98, 99] tk3).1 = 34 := by rw [longV_ok 0 (by omega) (h0 1 (by omega)), fixed_nums]; decide +kernel
  have f2 : 34 ≤ (longV ((0 : Nat) : Int) 2 [97, 98, 99] tk3).1 := by
    rw [longV_ok 0 (by omega) (h0 2 (by omega))]
    exact dyn_low tk3_ok 0 [97, 98, 99]
  rw [bestN_one _ (by show (longV _ 1 _ _).1 < (longV _ 0 _ _).1; omega) (by show ¬ (longV _ 2 _ _).1 < (longV _ 1 _ _).1; omega)]
set_option maxRecDepth 100000 in
theorem best_none : bestV 0 [] [] = (1, 0) := by
  have h0 : ∀ k, k ≤ 2 → askK k ([] : List Nat).length [] = 0 := by decide
  have e := bestV_ok (raw := []) (l := []) (kind := 0) 0 (by omega) (h0 0 (by omega))
  have e' : bestV 0 [] [] = bestV ((0 : Nat) : Int) [] [] := rfl
  rw [e', e]
  have f0 : (longV ((0 : Nat) : Int) 0 [] []).1 = 40 := by rw [longV_ok 0 (by omega) (h0 0 (by omega)), stored_len]; rfl
  have f1 : (longV ((0 : Nat) : Int) 1 [] []).1 = 10 := by rw [longV_ok 0 (by omega) (h0 1 (by omega)), fixed_nums]; decide +kernel
  have f2 : 10 ≤ (longV ((0 : Nat) : Int) 2 [] []).1 := by
    rw [longV_ok 0 (by omega) (h0 2 (by omega))]
    have := dyn_low (l := []) (by intro t ht; cases ht) 0 []
    omega
  rw [bestN_one _ (by show (longV _ 1 _ _).1 < (longV _ 0 _ _).1; omega) (by show ¬ (longV _ 2 _ _).1 < (longV _ 1 _ _).1; omega)]
theorem long_0 : longV 0 0 [] [] = (40, 0) := by
  have e' : longV 0 0 [] [] = longV ((0 : Nat) : Int) 0 [] [] := rfl
  rw [e', longV_ok 0 (by omega) (by decide), stored_len]; rfl
theorem long_6 : longV 6 0 [] [] = (42, 0) := by
  have e' : longV 6 0 [] [] = longV ((6 : Nat) : Int) 0 [] [] := rfl
  rw [e', longV_ok 6 (by omega) (by decide), stored_len]; rfl
theorem long_3 : longV 0 3 [] [] = (0, 2) := by unfold longV; rw [if_neg (by omega), if_neg (by decide)]; rfl
theorem long_8 : longV 8 0 [] [] = (0, 2) := by unfold longV; rw [if_pos (by omega)]
theorem best_no : bestV (-1) [] [] = (0, 2) := by
  unfold bestV longV
  rw [if_pos (show (-1 : Int) < 0 ∨ 7 < (-1 : Int) by omega)]; rfl
theorem write_no1 : wrE [] 1 0 [] [] false = 8 := by unfold wrE; rw [if_neg (by decide)]
theorem write_no2 : wrE [] 0 1 [] [⟨0, 1, 2⟩] false = 8 := by unfold wrE; rw [if_pos (by decide), if_neg (by decide)]; rfl
set_option maxRecDepth 100000 in
theorem is_ten : wrE [] 0 1 [] [] true = 0 ∧ wrM [] 0 1 [] [] true = [3, 0] ∧ wrN [] 0 1 [] [] true = 10 := by
  have e : wrNums 0 1 [] [] true = headN true 1 ++ toksP (codesL longsF) (codesL farsF) (symsL []) := by unfold wrNums numsP bodyP; rw [if_neg (by omega), if_pos rfl]
  have h0 : wrE [] 0 1 [] [] true = 0 := by unfold wrE; rw [e]; decide +kernel
  refine ⟨h0, ?_, ?_⟩
  · unfold wrM; rw [h0, if_pos rfl, e]; decide +kernel
  · unfold wrN; rw [h0, if_pos rfl, e]; decide +kernel
end Go.Proofs.Ytfcefhaaphieeaa
