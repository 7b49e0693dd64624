/-
  Plain: a symbol read by codes, bit by bit; and by counts.
-/
import Derived.Test.YtpfhaalbikgmnaaTreeP
import Derived.Test.YtpfhaalbikgmnaaCanonP
import Derived.Test.YtpfhaalbikgmnaaBitsM
namespace Go.Proofs.Ytpfhaalbikgmnaa

/-- Is symbol i's code of length n just v? Is it longer, and begins with v? -/
def hitB (l : List Nat) (n v i : Nat) : Bool := decide (nth l i = n ∧ (codeAt l i).1 = v ∧ 0 < n)
def moreB (l : List Nat) (n v i : Nat) : Bool := decide (n < nth l i ∧ (codeAt l i).1 / 2 ^ (nth l i - n) = v)
def moreN (l : List Nat) (n v j : Nat) : Bool := (List.range j).any (moreB l n v)
def hitF (l : List Nat) (n v : Nat) : Option Nat := (List.range l.length).find? (hitB l n v)
/-- The symbol, the place behind it, and the error: n bits, v, were read. -/
def rdT (l b : List Nat) : Nat → Nat → Nat → Nat → Nat × Nat × Nat
  | 0, _, _, _ => (0, 0, 50)
  | k + 1, n, v, a => match hitF l n v with
    | some i => (i, a, 0)
    | none => if moreN l n v l.length then if a < 8 * b.length then rdT l b k (n + 1) (2 * v + bitOf b a) (a + 1) else (0, 0, 10) else (0, 0, 50)

section
variable {l b : List Nat} {k n v a i j : Nat}
theorem rd_hit (h : hitF l n v = some i) : rdT l b (k + 1) n v a = (i, a, 0) := by rw [rdT, h]
theorem rd_code (h : hitF l n v = none) (hm : moreN l n v l.length = false) : rdT l b (k + 1) n v a = (0, 0, 50) := by rw [rdT, h]; simp [hm]
theorem rd_end (h : hitF l n v = none) (hm : moreN l n v l.length = true) (ha : 8 * b.length ≤ a) : rdT l b (k + 1) n v a = (0, 0, 10) := by rw [rdT, h]; simp [hm]; omega
theorem rd_go (h : hitF l n v = none) (hm : moreN l n v l.length = true) (ha : a < 8 * b.length) : rdT l b (k + 1) n v a = rdT l b k (n + 1) (2 * v + bitOf b a) (a + 1) := by rw [rdT, h]; simp [hm, ha]
theorem moreN_succ : moreN l n v (j + 1) = (moreN l n v j || moreB l n v j) := by simp [moreN, List.range_succ, List.any_append]
theorem moreN_iff : moreN l n v j = true ↔ ∃ i, i < j ∧ moreB l n v i = true := by
  unfold moreN; rw [List.any_eq_true]
  exact ⟨fun ⟨x, h1, h2⟩ => ⟨x, List.mem_range.1 h1, h2⟩, fun ⟨x, h1, h2⟩ => ⟨x, List.mem_range.2 h1, h2⟩⟩
theorem hitF_none (h : ∀ i, i < l.length → hitB l n v i = false) : hitF l n v = none := by
  unfold hitF; rw [List.find?_eq_none]; intro x hx; rw [h x (List.mem_range.1 hx)]; simp
theorem find_range (p : Nat → Bool) : ∀ (m i : Nat), i < m → p i = true → (∀ k, k < i → p k = false) → (List.range m).find? p = some i
  | 0, i, h, _, _ => by omega
  | m + 1, i, h, hp, hn => by
    rw [List.range_succ, List.find?_append]
    rcases Nat.lt_or_ge i m with h1 | h1
    · rw [find_range p m i h1 hp hn]; rfl
    · obtain rfl : i = m := by omega
      rw [List.find?_eq_none.2 (fun x hx => by rw [hn x (List.mem_range.1 hx)]; simp)]
      simp [hp]
theorem hitF_some (hi : i < l.length) (hh : hitB l n v i = true) (hn : ∀ k, k < i → hitB l n v k = false) : hitF l n v = some i := find_range _ _ _ hi hh hn
theorem more_lt (h15 : ∀ x ∈ l, x ≤ 15) (hm : moreN l n v j = true) : n < 15 := by
  obtain ⟨i, _, h⟩ := moreN_iff.1 hm
  have := of_decide_eq_true h
  have := nth_le_t h15 i
  omega
theorem take_bit (l : List Nat) (a : Nat) (h : a < 8 * l.length) : takeE l (a : Int) 1 = 0 ∧ takeV l (a : Int) 1 = bitOf l a := by
  have h0 : takeE l (a : Int) 1 = 0 := by unfold takeE; rw [if_neg (by omega), if_neg (by omega)]
  refine ⟨h0, ?_⟩
  unfold takeV
  rw [if_pos h0]
  simp [numOf]
theorem take_none (l : List Nat) (a : Nat) (h : 8 * l.length ≤ a) : takeE l (a : Int) 1 = 10 ∧ takeV l (a : Int) 1 = 0 := by
  have h0 : takeE l (a : Int) 1 = 10 := by unfold takeE; rw [if_neg (by omega), if_pos (by omega)]
  exact ⟨h0, by unfold takeV; rw [if_neg (by omega)]⟩
end

/-! ### By counts -/
/-- How many codes are shorter than n. -/
def plF (c : Nat → Nat) : Nat → Nat
  | 0 => 0
  | n + 1 => plF c n + c n
theorem plF_mono (c : Nat → Nat) {a b : Nat} (h : a ≤ b) : plF c a ≤ plF c b := by
  induction h with
  | refl => exact Nat.le_refl _
  | step _ ih => exact Nat.le_trans ih (Nat.le_add_right _ _)
theorem row_len (l : List Nat) (n j : Nat) (hn : n ≠ 0) (hj : j ≤ l.length) : (rowP l n j).length = cnt (l.take j) n := by
  induction j with
  | zero => simp [rowP, cnt]
  | succ j ih =>
    rw [rowP, List.length_append, ih (by omega), take_snoc l j (by omega), cnt_snoc]
    by_cases h : nth l j = n
    · rw [if_pos h, if_pos ⟨hn, h.symm⟩]; rfl
    · rw [if_neg h, if_neg (fun e => h e.2.symm)]; rfl
theorem all_len (l : List Nat) (n : Nat) : (allP l n).length = plF (cnt l) n := by
  induction n with
  | zero => rfl
  | succ n ih =>
    rw [allP, List.length_append, ih, plF]
    by_cases h : n = 0
    · subst h; rw [if_pos rfl, cnt_0]; rfl
    · rw [if_neg h, row_len l n _ h (Nat.le_refl _), List.take_length]
theorem cntS_cnt (l : List Nat) (n : Nat) (hn : n < 16) : cntS (allP l 16) n = (cnt l n : Nat) := by
  rw [cntS_all]
  by_cases h : n = 0
  · subst h; rw [if_neg (by omega), cnt_0]; rfl
  · rw [if_pos ⟨hn, h⟩, row_len l n _ h (Nat.le_refl _), List.take_length]
theorem row_get (l : List Nat) (n i : Nat) (hn : n ≠ 0) (hi : nth l i = n) : ∀ j, i < j → j ≤ l.length → (rowP l n j)[cnt (l.take i) n]? = some (n, i)
  | 0, h, _ => by omega
  | j + 1, h, hj => by
    rw [rowP]
    rcases Nat.lt_or_ge i j with h1 | h1
    · have ih := row_get l n i hn hi j h1 (by omega)
      rw [List.getElem?_append_left (by
        rcases Nat.lt_or_ge (cnt (l.take i) n) (rowP l n j).length with h2 | h2
        · exact h2
        · rw [List.getElem?_eq_none h2] at ih; cases ih), ih]
    · obtain rfl : i = j := by omega
      rw [if_pos hi, List.getElem?_append_right (by rw [row_len l n i hn (by omega)]; exact Nat.le_refl _), row_len l n i hn (by omega), Nat.sub_self]; rfl
/-- The symbol at a place of the tree's. -/
theorem sym_get (l : List Nat) (n i : Nat) (hn : n ≠ 0) (h16 : n < 16) (hl : i < l.length) (hi : nth l i = n) : nthI (symS (allP l 16)) (plF (cnt l) n + cnt (l.take i) n) = (i : Int) ∧ plF (cnt l) n + cnt (l.take i) n < (allP l 16).length := by
  have h1 := allP_suf l (16 - n) n
  rw [show n + (16 - n) = 16 by omega, show 16 - n = (15 - n) + 1 by omega, sufP, if_neg hn] at h1
  have h2 := row_get l n i hn hi l.length hl (Nat.le_refl _)
  have h3 : cnt (l.take i) n < (rowP l n l.length).length := by
    rcases Nat.lt_or_ge (cnt (l.take i) n) (rowP l n l.length).length with h | h
    · exact h
    · rw [List.getElem?_eq_none h] at h2; cases h2
  constructor
  · unfold nthI symS
    rw [List.getElem?_map, h1, List.getElem?_append_right (by rw [all_len]; omega), all_len, Nat.add_sub_cancel_left, List.getElem?_append_left h3, h2]
    rfl
  · rw [h1]; simp only [List.length_append, all_len]; omega

section
variable {l : List Nat} (hc : canE l 15 = 0)
include hc in
theorem can15 : ∀ x ∈ l, x ≤ 15 := by
  obtain ⟨h1, h2, h3, h4, h5, h6⟩ := canE_ok hc
  intro x hx; have := h4 x hx; omega
/-- No code of n bits, or fewer, is v: then none of the length n is. -/
theorem no_hit {n v : Nat} (hv : frF (cnt l) n + cnt l n ≤ v) : hitF l n v = none := by
  refine hitF_none fun i hi => ?_
  unfold hitB
  refine decide_eq_false fun ⟨h1, h2, h3⟩ => ?_
  have hu := cnt_up (l := l) (i := i) (k := l.length) hi (Nat.le_refl _) h1 (by omega)
  rw [List.take_length] at hu
  unfold codeAt at h2
  rw [if_neg (by omega), h1] at h2
  simp only at h2
  omega
theorem is_hit {n v : Nat} (hn : n ≠ 0) (h16 : n < 16) (h1 : frF (cnt l) n ≤ v) (h2 : v < frF (cnt l) n + cnt l n) :
    ∃ i, i < l.length ∧ hitF l n v = some i ∧ nthI (symS (allP l 16)) (plF (cnt l) n + (v - frF (cnt l) n)) = (i : Int) ∧ plF (cnt l) n + (v - frF (cnt l) n) < (allP l 16).length := by
  obtain ⟨i, hi, g1, g2⟩ := find_cnt (l := l) n hn l.length (v - frF (cnt l) n) (Nat.le_refl _) (by rw [List.take_length]; omega)
  refine ⟨i, hi, hitF_some hi ?_ ?_, ?_⟩
  · unfold hitB
    refine decide_eq_true ⟨g1, ?_, by omega⟩
    unfold codeAt
    rw [if_neg (by omega), g1, g2]
    show _ = v
    omega
  · intro k hk
    unfold hitB
    refine decide_eq_false fun ⟨e1, e2, e3⟩ => ?_
    have hu := cnt_up (l := l) hk (by omega) e1 hn
    unfold codeAt at e2
    rw [if_neg (by omega), e1] at e2
    simp only at e2
    omega
  · rw [← g2]; exact sym_get l n i hn h16 hi g1
theorem fr_next {n v x : Nat} (hv : frF (cnt l) n + cnt l n ≤ v) : frF (cnt l) (n + 1) ≤ 2 * v + x := by
  show (frF (cnt l) n + cnt l n) * 2 ≤ _
  omega
include hc in
/-- More is to come just where there are longer codes. -/
theorem more_is {n v : Nat} (hn : n ≤ 15) (hv : frF (cnt l) n + cnt l n ≤ v) (hlt : v < 2 ^ n) (h1 : n ≠ 0 ∨ v = 0) : moreN l n v l.length = true ↔ plF (cnt l) (n + 1) ≠ (allP l 16).length := by
  obtain ⟨c1, c2, c3, c4, c5, c6⟩ := canE_ok hc
  have h15 := can15 hc
  rw [all_len]
  constructor
  · intro hm
    obtain ⟨i, hi, hb⟩ := moreN_iff.1 hm
    obtain ⟨h2, h3⟩ := of_decide_eq_true hb
    have hm15 := nth_le_t h15 i
    have hu := cnt_up (l := l) (i := i) (k := l.length) hi (Nat.le_refl _) rfl (by omega)
    rw [List.take_length] at hu
    have e1 : plF (cnt l) (nth l i + 1) = plF (cnt l) (nth l i) + cnt l (nth l i) := rfl
    have e2 := plF_mono (cnt l) (show n + 1 ≤ nth l i by omega)
    have e3 := plF_mono (cnt l) (show nth l i + 1 ≤ 16 by omega)
    omega
  · intro hp
    have hp2 := plF_mono (cnt l) (show n + 1 ≤ 16 by omega)
    have hpl := Nat.lt_of_le_of_ne hp2 hp
    -- a longer code
    have hex : ∃ i, i < l.length ∧ n < nth l i := by
      have : ∀ m, n + 1 ≤ m → m ≤ 16 → plF (cnt l) (n + 1) < plF (cnt l) m → ∃ i, i < l.length ∧ n < nth l i := by
        intro m h1 h2 h3
        induction h1 with
        | refl => omega
        | @step m h1 ih =>
          have h1' : n + 1 ≤ m := h1
          rcases Nat.lt_or_ge (plF (cnt l) (n + 1)) (plF (cnt l) m) with h4 | h4
          · exact ih (by omega) h4
          · have e : plF (cnt l) m.succ = plF (cnt l) m + cnt l m := rfl
            obtain ⟨i, hi, g1, _⟩ := find_cnt (l := l) m (by omega) l.length 0 (Nat.le_refl _) (by rw [List.take_length]; omega)
            exact ⟨i, hi, by omega⟩
      exact this 16 (by omega) (Nat.le_refl _) hpl
    obtain ⟨i0, hi0, hn0⟩ := hex
    rw [moreN_iff]
    by_cases hz : n = 0
    · subst hz
      have hv0 : v = 0 := by omega
      subst hv0
      refine ⟨i0, hi0, ?_⟩
      unfold moreB
      refine decide_eq_true ⟨hn0, ?_⟩
      have := code_fits (l := l) h15 c5 hi0
      rw [Nat.sub_zero, Nat.div_eq_of_lt this]
    · have hk : kraft l = 32768 := by
        rcases c6 with c6 | c6 | ⟨c6, c7⟩
        · exact c6
        · have : used l ≠ 0 := by
            unfold used
            intro h
            have h2 := List.eq_nil_of_length_eq_zero h
            rw [List.filter_eq_nil_iff] at h2
            have := h2 l[i0] (List.getElem_mem hi0)
            have e : nth l i0 = l[i0] := by simp [nth, List.getElem?_eq_getElem hi0]
            simp at this
            omega
          exact absurd c6 this
        · -- one code, of one bit
          exfalso
          have h2 := S0_top h15 c5 hi0 (by omega)
          have hat : atF (cnt l) (n + 1) ≤ atF (cnt l) (nth l i0) := atF_mono _ (by omega)
          have h16 : atF (cnt l) (nth l i0 + 1) ≤ atF (cnt l) 16 := atF_mono _ (by have := nth_le_t h15 i0; omega)
          rw [← kraft_at l h15, c7] at h16
          have e1 : atF (cnt l) (nth l i0 + 1) = atF (cnt l) (nth l i0) + cnt l (nth l i0) * pw (nth l i0) := rfl
          have hu := cnt_up (l := l) (i := i0) (k := l.length) hi0 (Nat.le_refl _) rfl (by omega)
          rw [List.take_length] at hu
          -- all but one are 0, and that one is pw
          have key : ∀ (l : List Nat), used l = 1 → ∀ i, i < l.length → nth l i ≠ 0 → kraft l = pw (nth l i) := by
            intro l
            induction l with
            | nil => intro h; simp [used] at h
            | cons x l ih =>
              intro h i hi h0
              have ek : kraft (x :: l) = (if x = 0 then 0 else pw x) + kraft l := by simp [kraft]
              by_cases hx : x = 0
              · subst hx
                have hu : used l = 1 := by simpa [used] using h
                cases i with
                | zero => simp [nth] at h0
                | succ i =>
                  have := ih hu i (by simpa using hi) (by simpa [nth] using h0)
                  rw [ek, if_pos rfl, this]; simp [nth]
              · have hu : used l = 0 := by
                  have : used (x :: l) = used l + 1 := by
                    unfold used
                    rw [List.filter_cons, if_pos (by simp; omega), List.length_cons]
                  omega
                have hz : ∀ y ∈ l, y = 0 := by
                  intro y hy
                  unfold used at hu
                  have h2 := List.eq_nil_of_length_eq_zero hu
                  rw [List.filter_eq_nil_iff] at h2
                  have := h2 y hy
                  simpa using this
                cases i with
                | zero =>
                  have : kraft l = 0 := by rw [List.eq_replicate_of_mem hz, kraft_zeros]
                  rw [ek, if_neg hx, this]; simp [nth]
                | succ i =>
                  have hi' : i < l.length := by simpa using hi
                  have := hz l[i] (List.getElem_mem hi')
                  simp [nth, List.getElem?_eq_getElem hi', this] at h0
          have := key l c6 i0 hi0 (by omega)
          rw [c7] at this
          have h3 : pw (nth l i0) ≤ 8192 := Nat.pow_le_pow_right (n := 2) (by omega) (show 15 - nth l i0 ≤ 13 by omega)
          omega
      have hpn := pw_split (n := n) hn
      have hpp := pw_pos n
      have hrow : v * pw n < kraft l := by
        rw [hk, ← hpn]
        exact Nat.mul_lt_mul_of_pos_right hlt hpp
      obtain ⟨i, hi, hb⟩ := cover h15 hrow
      have hb1 := beg_in (l := l) (i := i) (b := (v * pw n, 15)) (Nat.le_refl _) hb
      have e15 : pw 15 = 1 := rfl
      simp only [e15, Nat.mul_one] at hb1
      obtain ⟨b1, b2, b3⟩ := of_decide_eq_true hb
      rw [code_two] at b1 b2
      simp only [code_two] at b3
      refine ⟨i, hi, ?_⟩
      have hgt : n < nth l i := by
        rcases Nat.lt_or_ge n (nth l i) with h | h
        · exact h
        · exfalso
          have e1 : atF (cnt l) (nth l i + 1) = atF (cnt l) (nth l i) + cnt l (nth l i) * pw (nth l i) := rfl
          have e2 := S0_eq h15 (l := l) (i := i) (by omega)
          have hu := cnt_up (l := l) (i := i) (k := l.length) hi (Nat.le_refl _) rfl (by omega)
          rw [List.take_length] at hu
          have e3 := Nat.mul_le_mul_right (pw (nth l i)) hu
          rw [Nat.add_mul, Nat.one_mul] at e3
          have e4 : atF (cnt l) (nth l i + 1) ≤ atF (cnt l) (n + 1) := atF_mono _ (by omega)
          have e5 : atF (cnt l) (n + 1) = (frF (cnt l) n + cnt l n) * pw n := by
            show atF (cnt l) n + cnt l n * pw n = _
            rw [Nat.add_mul, fr_at (cnt l) (cnt_0 l) n hn]
          have e6 := Nat.mul_le_mul_right (pw n) hv
          omega
      unfold moreB
      refine decide_eq_true ⟨hgt, ?_⟩
      have hm15 := nth_le_t h15 i
      have hsp : pw n = 2 ^ (nth l i - n) * pw (nth l i) := (pw_split2 (by omega) hm15).symm
      rw [← b3, Nat.div_div_eq_div_mul, ← Nat.pow_add, show 15 - nth l i + (nth l i - n) = 15 - n by omega]
      show v * pw n / 2 ^ (15 - n) = v
      exact Nat.mul_div_cancel _ hpp
end
end Go.Proofs.Ytpfhaalbikgmnaa
