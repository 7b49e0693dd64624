/-
  Plain: what a tree is read as: the lengths of its symbols. Trees of lengths that may be are read back.
-/
import Derived.Test.YtpfhaalbikgmnaaTreeC
namespace Go.Proofs.Ytpfhaalbikgmnaa

/-- One row's symbols, put down. -/
def putS (n : Nat) : List Int → List Nat → Option (List Nat)
  | [], o => some o
  | s :: r, o => if s < 0 ∨ 320 ≤ s ∨ nth o s.toNat ≠ 0 then none else putS n r (o.set s.toNat n)
/-- k rows from row n on. -/
def rowsT (f : Nat → Int) : Nat → Nat → List Int → List Nat → Option (List Nat × List Int)
  | 0, _, xs, o => some (o, xs)
  | k + 1, n, xs, o => if f n < 0 ∨ (xs.length : Int) < f n ∨ n = 0 ∧ 0 < f n then none else
      match putS n (xs.take (f n).toNat) o with
      | none => none
      | some o' => rowsT f k (n + 1) (xs.drop (f n).toNat) o'
def endT (f : Nat → Int) (xs : List Int) (o : List Nat) (r : List Int) : Option (List Nat) := if canE o 15 = 0 ∧ r = [] ∧ sameT (cntS (allP o 16)) f (symS (allP o 16)) xs = true then some o else none
/-- A tree's lengths, if it is one. -/
def chkT (f : Nat → Int) (xs : List Int) : Option (List Nat) := if 320 < xs.length then none else
  match rowsT f 16 0 xs (List.replicate 320 0) with
  | none => none
  | some (o, r) => endT f xs o r
def innT (f : Nat → Int) (m n : Nat) (rest row : List Int) (o : List Nat) : Option (List Nat × List Int) := match putS n row o with
  | none => none
  | some o' => rowsT f m (n + 1) rest o'

section
variable {f : Nat → Int} {m n j : Nat} {rest row xs : List Int} {o : List Nat}
theorem drop_cons (h : j < row.length) : row.drop j = nthI row j :: row.drop (j + 1) := by
  rw [List.drop_eq_getElem_cons h]; simp [nthI, List.getElem?_eq_getElem h]
theorem inn_bad (h : j < row.length) (hb : nthI row j < 0 ∨ 320 ≤ nthI row j ∨ nth o (nthI row j).toNat ≠ 0) : innT f m n rest (row.drop j) o = none := by
  unfold innT
  rw [drop_cons h, putS, if_pos hb]
theorem inn_step (h : j < row.length) (hb : ¬ (nthI row j < 0 ∨ 320 ≤ nthI row j ∨ nth o (nthI row j).toNat ≠ 0)) : innT f m n rest (row.drop j) o = innT f m n rest (row.drop (j + 1)) (o.set (nthI row j).toNat n) := by
  unfold innT
  rw [drop_cons h, putS, if_neg hb]
theorem inn_end : innT f m n rest (row.drop row.length) o = rowsT f m (n + 1) rest o := by
  unfold innT
  rw [List.drop_length, putS]
theorem rows_bad (hb : f n < 0 ∨ (xs.length : Int) < f n ∨ n = 0 ∧ 0 < f n) : rowsT f (m + 1) n xs o = none := by rw [rowsT, if_pos hb]
theorem rows_inn (hb : ¬ (f n < 0 ∨ (xs.length : Int) < f n ∨ n = 0 ∧ 0 < f n)) : rowsT f (m + 1) n xs o = innT f m n (xs.drop (f n).toNat) ((xs.take (f n).toNat).drop 0) o := by
  rw [rowsT, if_neg hb, List.drop_zero]; rfl
theorem rows_one (h : f 0 = 0) : rowsT f 16 0 xs o = rowsT f 15 1 xs o := by
  rw [rows_inn (by omega), h]
  simp [innT, putS]
end

theorem putS_append (n : Nat) (r s : List Int) (o : List Nat) : putS n (r ++ s) o = (putS n r o).bind (putS n s) := by
  induction r generalizing o with
  | nil => rfl
  | cons a r ih =>
    simp only [List.cons_append, putS]
    split
    · rfl
    · exact ih _

/-! ### Grown trees -/
/-- Lengths as far as those below n, and the first j of length n, are put down. -/
def maskL (l : List Nat) (n j : Nat) : List Nat := (List.range l.length).map fun i => if nth l i < n ∨ nth l i = n ∧ i < j then nth l i else 0
theorem maskL_length (l : List Nat) (n j : Nat) : (maskL l n j).length = l.length := by simp [maskL]
theorem maskL_nth (l : List Nat) (n j i : Nat) (h : i < l.length) : nth (maskL l n j) i = if nth l i < n ∨ nth l i = n ∧ i < j then nth l i else 0 := by simp [maskL, nth, h]
theorem list_nth {a b : List Nat} (h : a.length = b.length) (hh : ∀ i, i < a.length → nth a i = nth b i) : a = b := by
  apply List.ext_getElem h
  intro i h1 h2
  have := hh i h1
  simpa [nth, List.getElem?_eq_getElem h1, List.getElem?_eq_getElem h2] using this
theorem nth_set (a : List Nat) (i x k : Nat) (h : i < a.length) : nth (a.set i x) k = if k = i then x else nth a k := by
  unfold nth
  rw [List.getElem?_set]
  by_cases hk : i = k
  · subst hk; simp [h]
  · rw [if_neg hk, if_neg (fun e => hk e.symm)]
theorem symS_append (a b : List (Nat × Nat)) : symS (a ++ b) = symS a ++ symS b := by simp [symS]

theorem put_row (l : List Nat) (hl : l.length ≤ 320) (n : Nat) (hn : n ≠ 0) : ∀ j, j ≤ l.length → putS n (symS (rowP l n j)) (maskL l n 0) = some (maskL l n j)
  | 0, _ => by simp [rowP, symS, putS]
  | j + 1, h => by
    have ih := put_row l hl n hn j (by omega)
    rw [rowP, symS_append, putS_append, ih, Option.bind_some]
    by_cases hj : nth l j = n
    · rw [if_pos hj]
      have h0 : nth (maskL l n j) j = 0 := by rw [maskL_nth l n j j (by omega), if_neg (by omega)]
      simp only [symS, List.map_cons, List.map_nil, putS]
      rw [if_neg (by rw [Int.toNat_natCast, h0]; omega), Int.toNat_natCast]
      congr 1
      apply list_nth
      · rw [List.length_set, maskL_length, maskL_length]
      · intro i hi
        rw [List.length_set, maskL_length] at hi
        rw [nth_set _ _ _ _ (by rw [maskL_length]; omega), maskL_nth l n j i hi, maskL_nth l n (j + 1) i hi]
        by_cases hij : i = j
        · subst hij; rw [if_pos rfl, if_pos (by omega), hj]
        · rw [if_neg hij]
          by_cases hc : nth l i < n ∨ nth l i = n ∧ i < j
          · rw [if_pos hc, if_pos (by omega)]
          · rw [if_neg hc, if_neg (by omega)]
    · rw [if_neg hj]
      simp only [symS, List.map_nil, putS]
      congr 1
      apply list_nth
      · rw [maskL_length, maskL_length]
      · intro i hi
        rw [maskL_length] at hi
        rw [maskL_nth l n j i hi, maskL_nth l n (j + 1) i hi]
        by_cases hc : nth l i < n ∨ nth l i = n ∧ i < j
        · rw [if_pos hc, if_pos (by omega)]
        · rw [if_neg hc, if_neg]
          intro h2
          apply hc
          rcases h2 with h2 | h2
          · exact .inl h2
          · by_cases hij : i = j
            · subst hij; exact absurd h2.1 hj
            · exact .inr ⟨h2.1, by omega⟩
theorem mask_next (l : List Nat) (n : Nat) : maskL l n l.length = maskL l (n + 1) 0 := by
  apply list_nth
  · rw [maskL_length, maskL_length]
  · intro i hi
    rw [maskL_length] at hi
    rw [maskL_nth l _ _ i hi, maskL_nth l _ _ i hi]
    by_cases hc : nth l i < n + 1
    · rw [if_pos (by omega), if_pos (by omega)]
    · rw [if_neg (by omega), if_neg (by omega)]

/-- The rows from n on, k of them. -/
def sufP (l : List Nat) : Nat → Nat → List (Nat × Nat)
  | 0, _ => []
  | k + 1, n => (if n = 0 then [] else rowP l n l.length) ++ sufP l k (n + 1)
theorem allP_suf (l : List Nat) : ∀ k n, allP l (n + k) = allP l n ++ sufP l k n
  | 0, n => by simp [sufP]
  | k + 1, n => by
    rw [show n + (k + 1) = (n + 1) + k by omega, allP_suf l k (n + 1), sufP, allP, List.append_assoc]
theorem rowP_fst (l : List Nat) (n j : Nat) : ∀ x ∈ rowP l n j, x.1 = n := by
  induction j with
  | zero => simp [rowP]
  | succ j ih =>
    intro x hx
    rw [rowP, List.mem_append] at hx
    rcases hx with hx | hx
    · exact ih x hx
    · split at hx
      · simp only [List.mem_cons, List.not_mem_nil, or_false] at hx; rw [hx]
      · cases hx
theorem cntS_append (p q : List (Nat × Nat)) (k : Nat) : cntS (p ++ q) k = cntS p k + cntS q k := by simp [cntS, List.filter_append]
theorem cntS_row (l : List Nat) (n j k : Nat) : cntS (rowP l n j) k = if k = n then ((rowP l n j).length : Int) else 0 := by
  unfold cntS
  by_cases h : k = n
  · rw [if_pos h, List.filter_eq_self.2 (fun x hx => by rw [rowP_fst l n j x hx, h]; simp)]
  · rw [if_neg h, List.filter_eq_nil_iff.2 (fun x hx => by rw [rowP_fst l n j x hx]; simpa using fun e => h e.symm)]; rfl
theorem cntS_all (l : List Nat) (k n : Nat) : cntS (allP l n) k = if k < n ∧ k ≠ 0 then ((rowP l k l.length).length : Int) else 0 := by
  induction n with
  | zero => simp [allP, cntS]
  | succ n ih =>
    rw [allP, cntS_append, ih]
    by_cases hn : n = 0
    · subst hn
      rw [if_pos rfl, if_neg (by omega), if_neg (by omega)]; rfl
    · rw [if_neg hn, cntS_row]
      by_cases hk : k = n
      · subst hk; rw [if_neg (by omega), if_pos rfl, if_pos ⟨by omega, hn⟩]; omega
      · rw [if_neg hk]
        by_cases hc : k < n ∧ k ≠ 0
        · rw [if_pos hc, if_pos ⟨by omega, hc.2⟩]; omega
        · rw [if_neg hc, if_neg (by omega)]; rfl

theorem rows_grown (l : List Nat) (hl : l.length ≤ 320) : ∀ k n, n + k = 16 → rowsT (cntS (allP l 16)) k n (symS (sufP l k n)) (maskL l n 0) = some (maskL l 16 0, [])
  | 0, n, h => by
    obtain rfl : n = 16 := by omega
    simp [rowsT, sufP, symS]
  | k + 1, n, h => by
    have ih := rows_grown l hl k (n + 1) (by omega)
    by_cases hn : n = 0
    · subst hn
      have h0 : cntS (allP l 16) 0 = 0 := by rw [cntS_all, if_neg (by omega)]
      rw [rows_inn (by rw [h0]; omega), h0]
      have e1 : sufP l (k + 1) 0 = sufP l k 1 := by simp [sufP]
      have e2 : maskL l 0 0 = maskL l 1 0 := by
        apply list_nth
        · rw [maskL_length, maskL_length]
        · intro i hi
          rw [maskL_length] at hi
          rw [maskL_nth l _ _ i hi, maskL_nth l _ _ i hi, if_neg (by omega)]
          split <;> omega
      rw [e1]
      simp only [Int.toNat_zero, List.drop_zero, List.take_zero, innT, putS]
      rw [e2]
      exact ih
    · have hc : cntS (allP l 16) n = ((rowP l n l.length).length : Int) := by rw [cntS_all, if_pos ⟨by omega, hn⟩]
      have e1 : symS (sufP l (k + 1) n) = symS (rowP l n l.length) ++ symS (sufP l k (n + 1)) := by rw [sufP, if_neg hn, symS_append]
      have hlen : (symS (rowP l n l.length)).length = (rowP l n l.length).length := by simp [symS]
      rw [rows_inn (by rw [hc, e1, List.length_append, hlen]; omega), hc, Int.toNat_natCast, e1, ← hlen, List.drop_left, List.take_left, List.drop_zero, innT, put_row l hl n hn l.length (Nat.le_refl _), mask_next]
      exact ih

theorem nth_le_t {l : List Nat} (h : ∀ x ∈ l, x ≤ 15) (i : Nat) : nth l i ≤ 15 := by
  have := nth_lt (B := 16) (fun x hx => by have := h x hx; omega) (by omega) i
  omega
theorem mask_all {l : List Nat} (h15 : ∀ x ∈ l, x ≤ 15) : maskL l 16 0 = l := by
  apply list_nth
  · rw [maskL_length]
  · intro i hi
    rw [maskL_length] at hi
    rw [maskL_nth l _ _ i hi]
    have := nth_le_t h15 i
    rw [if_pos (by omega)]
theorem mask_none (l : List Nat) : maskL l 0 0 = List.replicate l.length 0 := by
  apply list_nth
  · rw [maskL_length, List.length_replicate]
  · intro i hi
    rw [maskL_length] at hi
    rw [maskL_nth l _ _ i hi, if_neg (by omega)]
    simp [nth, hi]

theorem eqF_refl (n : Nat) (f : Nat → Int) : eqF n f f = true := eqF_iff.2 fun _ _ => rfl
theorem sameT_refl (f : Nat → Int) (xs : List Int) : sameT f f xs xs = true := by unfold sameT; rw [eqF_refl]; simp
theorem sameT_symm (f g : Nat → Int) (xs ys : List Int) : sameT f g xs ys = sameT g f ys xs := by
  unfold sameT
  have h1 : eqF 16 f g = eqF 16 g f := by rw [Bool.eq_iff_iff, eqF_iff, eqF_iff]; exact ⟨fun h i hi => (h i hi).symm, fun h i hi => (h i hi).symm⟩
  rw [h1]
  congr 1
  rw [Bool.eq_iff_iff]; simp [eq_comm]
theorem sameT_iff {f g : Nat → Int} {xs ys : List Int} : sameT f g xs ys = true ↔ (∀ i, i < 16 → f i = g i) ∧ xs = ys := by
  unfold sameT; rw [Bool.and_eq_true, eqF_iff]; simp

/-- What is read is what it was grown of. -/
theorem chk_some {f : Nat → Int} {xs : List Int} {l : List Nat} (h : chkT f xs = some l) : canE l 15 = 0 ∧ (∀ i, i < 16 → f i = cntS (allP l 16) i) ∧ xs = symS (allP l 16) := by
  unfold chkT at h
  split at h
  · cases h
  · split at h
    · cases h
    · rename_i o r _
      unfold endT at h
      split at h
      · rename_i hc
        injection h with h
        subst h
        obtain ⟨h1, h2⟩ := sameT_iff.1 hc.2.2
        exact ⟨hc.1, fun i hi => (h1 i hi).symm, h2.symm⟩
      · cases h

theorem rowP_mem {l : List Nat} {n j : Nat} : ∀ {x : Nat × Nat}, x ∈ rowP l n j → x.2 < j ∧ nth l x.2 = n := by
  induction j with
  | zero => intro x hx; simp [rowP] at hx
  | succ j ih =>
    intro x hx
    rw [rowP, List.mem_append] at hx
    rcases hx with hx | hx
    · obtain ⟨h1, h2⟩ := ih hx; exact ⟨by omega, h2⟩
    · split at hx
      · simp only [List.mem_cons, List.not_mem_nil, or_false] at hx; subst hx; exact ⟨by simp, by assumption⟩
      · cases hx
/-- Each symbol that has a length stands once. -/
def totP (l : List Nat) (j : Nat) : Nat → Nat
  | 0 => 0
  | n + 1 => totP l j n + if n = 0 then 0 else (rowP l n j).length
theorem totP_succ (l : List Nat) (j n : Nat) : totP l (j + 1) n = totP l j n + if nth l j ≠ 0 ∧ nth l j < n then 1 else 0 := by
  induction n with
  | zero => simp [totP]
  | succ n ih =>
    rw [totP, totP, ih]
    by_cases hn : n = 0
    · subst hn; rw [if_pos rfl, if_pos rfl, if_neg (by omega), if_neg (by omega)]
    · rw [if_neg hn, if_neg hn, rowP, List.length_append]
      by_cases hj : nth l j = n
      · rw [if_pos hj, if_neg (by omega), if_pos ⟨by omega, by omega⟩]; simp; omega
      · rw [if_neg hj]
        by_cases hc : nth l j ≠ 0 ∧ nth l j < n
        · rw [if_pos hc, if_pos ⟨hc.1, by omega⟩]; simp; omega
        · rw [if_neg hc, if_neg (by omega)]; simp
theorem totP_le (l : List Nat) (n j : Nat) : totP l j n ≤ j := by
  induction j with
  | zero =>
    have : ∀ n, totP l 0 n = 0 := by
      intro n
      induction n with
      | zero => rfl
      | succ n ih => rw [totP, ih]; simp [rowP]
    rw [this]; omega
  | succ j ih => rw [totP_succ]; split <;> omega
theorem allP_length (l : List Nat) (n : Nat) : (allP l n).length = totP l l.length n := by
  induction n with
  | zero => rfl
  | succ n ih => rw [allP, totP, List.length_append, ih]; split <;> simp
theorem allP_le (l : List Nat) (n : Nat) : (allP l n).length ≤ l.length := by rw [allP_length]; exact totP_le l n _
theorem symS_length (p : List (Nat × Nat)) : (symS p).length = p.length := by simp [symS]
theorem chk_len {f : Nat → Int} {xs : List Int} {l : List Nat} (h : chkT f xs = some l) : xs.length ≤ 320 := by
  unfold chkT at h
  split at h
  · cases h
  · omega

/-! ### Lengths, and the same with zeros behind them -/
def padL (l : List Nat) : List Nat := l ++ List.replicate (320 - l.length) 0
theorem padL_length {l : List Nat} (h : l.length ≤ 320) : (padL l).length = 320 := by simp [padL]; omega
theorem padL_nth (l : List Nat) (i : Nat) : nth (padL l) i = nth l i := by
  unfold nth padL
  rw [List.getElem?_append]
  split
  · rfl
  · rename_i h
    rw [List.getElem?_replicate, List.getElem?_eq_none (by omega)]
    split <;> rfl
theorem rowP_pad (l m : List Nat) (n j : Nat) (h : ∀ i, nth m i = nth l i) : rowP m n j = rowP l n j := by
  induction j with
  | zero => rfl
  | succ j ih => rw [rowP, rowP, ih, h]
theorem rowP_far (l : List Nat) (n j k : Nat) (hn : n ≠ 0) (h : l.length ≤ j) : rowP l n (j + k) = rowP l n j := by
  induction k with
  | zero => rfl
  | succ k ih =>
    have h0 : nth l (j + k) = 0 := by simp [nth, List.getElem?_eq_none (show l.length ≤ j + k by omega)]
    rw [show j + (k + 1) = (j + k) + 1 by omega, rowP, ih, if_neg (by omega), List.append_nil]
theorem allP_pad {l : List Nat} (hl : l.length ≤ 320) (n : Nat) : allP (padL l) n = allP l n := by
  induction n with
  | zero => rfl
  | succ n ih =>
    rw [allP, allP, ih]
    by_cases hn : n = 0
    · rw [if_pos hn, if_pos hn]
    · rw [if_neg hn, if_neg hn, padL_length hl, rowP_pad l (padL l) n 320 (padL_nth l), show 320 = l.length + (320 - l.length) by omega, rowP_far l n l.length _ hn (Nat.le_refl _)]
theorem kraft_append (a b : List Nat) : kraft (a ++ b) = kraft a + kraft b := by simp [kraft]
theorem kraft_zeros (n : Nat) : kraft (List.replicate n 0) = 0 := by simp [kraft]
theorem used_append (a b : List Nat) : used (a ++ b) = used a + used b := by simp [used]
theorem used_zeros (n : Nat) : used (List.replicate n 0) = 0 := by simp [used]
theorem kraft_pad (l : List Nat) : kraft (padL l) = kraft l := by rw [padL, kraft_append, kraft_zeros]; omega
theorem used_pad (l : List Nat) : used (padL l) = used l := by rw [padL, used_append, used_zeros]; omega
theorem padL_mem {l : List Nat} {B : Nat} (h : ∀ x ∈ l, x ≤ B) : ∀ x ∈ padL l, x ≤ B := by
  intro x hx
  rw [padL, List.mem_append] at hx
  rcases hx with hx | hx
  · exact h x hx
  · rw [(List.mem_replicate.1 hx).2]; omega
theorem canE_15 {l : List Nat} {m : Int} (h : canE l m = 0) : canE (padL l) 15 = 0 := by
  obtain ⟨h1, h2, h3, h4, h5, h6⟩ := canE_ok h
  unfold canE
  rw [if_neg (by omega), padL_length h3, if_neg (by omega), if_pos, kraft_pad, used_pad, if_neg (by omega), if_pos h6]
  rw [List.all_eq_true]
  intro x hx
  have := padL_mem (B := 15) (fun x hx => by have := h4 x hx; omega) x hx
  exact decide_eq_true (by omega)

/-- Grown trees are read back. -/
theorem chk_grown {l : List Nat} {m : Int} (h : canE l m = 0) : chkT (cntS (allP l 16)) (symS (allP l 16)) = some (padL l) := by
  obtain ⟨h1, h2, h3, h4, h5, h6⟩ := canE_ok h
  have hl : (padL l).length = 320 := padL_length h3
  have h15 : ∀ x ∈ padL l, x ≤ 15 := padL_mem (fun x hx => by have := h4 x hx; omega)
  have hg := rows_grown (padL l) (by omega) 16 0 rfl
  have e1 : sufP (padL l) 16 0 = allP (padL l) 16 := by
    have := allP_suf (padL l) 16 0
    simpa [allP] using this.symm
  rw [e1, mask_none, hl, mask_all h15, allP_pad h3] at hg
  have hle := allP_le l 16
  unfold chkT
  rw [if_neg (by rw [symS_length]; omega), hg]
  show endT _ _ _ _ = _
  unfold endT
  rw [allP_pad h3, if_pos ⟨canE_15 h, rfl, sameT_refl _ _⟩]
end Go.Proofs.Ytpfhaalbikgmnaa
