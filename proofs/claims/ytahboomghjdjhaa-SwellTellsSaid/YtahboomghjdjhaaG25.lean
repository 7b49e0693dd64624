/-
  Plain: tokens as symbols, how often each stands, lengths cut, and a block's numbers. No program in sight.
-/
import Derived.Test.YtahboomghjdjhaaG00
import Derived.Test.YtahboomghjdjhaaG03
import Derived.Test.YtahboomghjdjhaaG20
import Derived.Test.YtahboomghjdjhaaG24
namespace Go.Proofs.Ytahboomghjdjhaa

/-- A token. -/
structure Tk where
  lit : Nat
  dist : Int
  long : Int
/-- May it be? -/
def tkB (t : Tk) : Bool := decide (if t.long = 0 then t.dist = 0 else t.lit = 0 ∧ 3 ≤ t.long ∧ t.long ≤ 258 ∧ 1 ≤ t.dist ∧ t.dist ≤ 32768)
/-- A symbol of a token: whether it is a distance's, its extra bits, its extra. -/
structure Sy where
  far : Bool
  sym : Nat
  n : Nat
  x : Nat
def longS (n : Int) : Sy := ⟨false, (tellT 257 longT n).1, (tellT 257 longT n).2.1, (tellT 257 longT n).2.2.1.toNat⟩
def farS (n : Int) : Sy := ⟨true, (tellT 0 farT n).1, (tellT 0 farT n).2.1, (tellT 0 farT n).2.2.1.toNat⟩
def syT (t : Tk) : List Sy := if t.long = 0 then [⟨false, t.lit, 0, 0⟩] else [longS t.long, farS t.dist]
def endS : Sy := ⟨false, 256, 0, 0⟩
def symsL (l : List Tk) : List Sy := l.flatMap syT ++ [endS]
/-- May a symbol be? -/
def SyOk (s : Sy) : Prop := (if s.far = true then s.sym < 30 else s.sym < 286) ∧ s.n ≤ 13 ∧ s.x < 2 ^ s.n
theorem rows_long : ∀ i, i < 29 → (rowT longT i).1 ≤ 5 := by decide
theorem rows_far : ∀ i, i < 30 → (rowT farT i).1 ≤ 13 := by decide
theorem longS_ok {n : Int} (h1 : 3 ≤ n) (h2 : n ≤ 258) : SyOk (longS n) ∧ tellT 257 longT n = ((longS n).sym, (longS n).n, ((longS n).x : Int), 0) ∧
    lastLe longT n 29 < 29 ∧ (longS n).sym = 257 + lastLe longT n 29 ∧ (longS n).n = (rowT longT (lastLe longT n 29)).1 ∧ ((longS n).x : Int) = n - (rowT longT (lastLe longT n 29)).2.1 := by
  have e0 : lst longT 0 = 3 := by decide
  have e1 : rendT longT = 259 := by decide
  obtain ⟨i, hi, a1, a2, ei, et⟩ := tell_in rising_long 257 n (by rw [e0]; omega) (by rw [e1]; omega)
  have hb := tell_back rising_long 257 n (by rw [et])
  obtain ⟨j, hj, ej, _, _, b1, b2⟩ := hb
  have hij : i = j := by rw [et] at ej; have := congrArg (·.1) ej; simp at this; exact this
  subst hij
  have hl : (longT).length = 29 := rfl
  have hr := rows_long i (by omega)
  have hs : longS n = ⟨false, 257 + i, (rowT longT i).1, (n - lst longT i).toNat⟩ := by unfold longS; rw [et]
  rw [hl] at ei
  rw [hs, et]
  refine ⟨⟨by simp; omega, by simp only; omega, by simp only; omega⟩, ?_, by omega, by simp only; rw [← ei], by simp only; rw [← ei], ?_⟩
  · simp only
    rw [Int.toNat_of_nonneg b1]
  · simp only
    rw [Int.toNat_of_nonneg b1, ← ei]; rfl
theorem farS_ok {n : Int} (h1 : 1 ≤ n) (h2 : n ≤ 32768) : SyOk (farS n) ∧ tellT 0 farT n = ((farS n).sym, (farS n).n, ((farS n).x : Int), 0) ∧
    lastLe farT n 30 < 30 ∧ (farS n).sym = 0 + lastLe farT n 30 ∧ (farS n).n = (rowT farT (lastLe farT n 30)).1 ∧ ((farS n).x : Int) = n - (rowT farT (lastLe farT n 30)).2.1 := by
  have e0 : lst farT 0 = 1 := by decide
  have e1 : rendT farT = 32769 := by decide +kernel
  obtain ⟨i, hi, a1, a2, ei, et⟩ := tell_in rising_far 0 n (by rw [e0]; omega) (by rw [e1]; omega)
  have hb := tell_back rising_far 0 n (by rw [et])
  obtain ⟨j, hj, ej, _, _, b1, b2⟩ := hb
  have hij : i = j := by rw [et] at ej; have := congrArg (·.1) ej; simp at this; exact this
  subst hij
  have hl : (farT).length = 30 := rfl
  have hr := rows_far i (by omega)
  have hs : farS n = ⟨true, 0 + i, (rowT farT i).1, (n - lst farT i).toNat⟩ := by unfold farS; rw [et]
  rw [hl] at ei
  rw [hs, et]
  refine ⟨⟨by simp; omega, by simp only; omega, by simp only; omega⟩, ?_, by omega, by simp only; rw [← ei], by simp only; rw [← ei], ?_⟩
  · simp only
    rw [Int.toNat_of_nonneg b1]
  · simp only
    rw [Int.toNat_of_nonneg b1, ← ei]; rfl
theorem tk_cases {t : Tk} (h : tkB t = true) (_ : t.lit < 256) : (t.long = 0 ∧ t.dist = 0 ∧ syT t = [⟨false, t.lit, 0, 0⟩]) ∨ (t.long ≠ 0 ∧ t.lit = 0 ∧ 3 ≤ t.long ∧ t.long ≤ 258 ∧ 1 ≤ t.dist ∧ t.dist ≤ 32768 ∧ syT t = [longS t.long, farS t.dist]) := by
  have h := of_decide_eq_true h
  unfold syT
  by_cases e : t.long = 0
  · rw [if_pos e] at h ⊢; exact .inl ⟨e, h, rfl⟩
  · rw [if_neg e] at h ⊢; exact .inr ⟨e, h.1, h.2.1, h.2.2.1, h.2.2.2.1, h.2.2.2.2, rfl⟩
theorem syT_ok {t : Tk} (h : tkB t = true) (hl : t.lit < 256) : ∀ s ∈ syT t, SyOk s := by
  rcases tk_cases h hl with ⟨_, _, e⟩ | ⟨_, _, a1, a2, a3, a4, e⟩
  · rw [e]
    intro s hs
    simp only [List.mem_singleton] at hs
    subst hs
    exact ⟨by simp; omega, by simp, by simp⟩
  · rw [e]
    intro s hs
    simp only [List.mem_cons, List.not_mem_nil, or_false] at hs
    rcases hs with rfl | rfl
    · exact (longS_ok a1 a2).1
    · exact (farS_ok a3 a4).1
theorem syT_len (t : Tk) : (syT t).length ≤ 2 := by
  unfold syT
  split <;> simp
/-- Tokens that may be. -/
def TksOk (l : List Tk) : Prop := ∀ t ∈ l, tkB t = true ∧ t.lit < 256
theorem symsL_ok {l : List Tk} (h : TksOk l) : ∀ s ∈ symsL l, SyOk s := by
  intro s hs
  rcases List.mem_append.1 hs with hs | hs
  · obtain ⟨t, ht, hs⟩ := List.mem_flatMap.1 hs
    exact syT_ok (h t ht).1 (h t ht).2 s hs
  · simp only [List.mem_singleton] at hs
    subst hs
    exact ⟨by simp [endS], by simp [endS], by simp [endS]⟩
theorem flatMap_len {α β : Type} {f : α → List β} {B : Nat} (hf : ∀ x, (f x).length ≤ B) : ∀ l : List α, (l.flatMap f).length ≤ l.length * B
  | [] => by simp
  | x :: l => by
    have h1 := hf x
    have h2 := flatMap_len hf l
    rw [List.flatMap_cons, List.length_append, List.length_cons, Nat.add_mul]; omega
theorem symsL_len (l : List Tk) : (symsL l).length ≤ 2 * l.length + 1 := by
  have := flatMap_len syT_len l
  unfold symsL
  rw [List.length_append, List.length_singleton]; omega

/-! ### How often -/
def hitS (far : Bool) (i : Nat) (s : Sy) : Bool := s.far == far && s.sym == i
def oftS (far : Bool) (ss : List Sy) (i : Nat) : Nat := (ss.filter (hitS far i)).length
theorem oftS_snoc (far : Bool) (ss : List Sy) (s : Sy) (i : Nat) : oftS far (ss ++ [s]) i = if s.far = far ∧ s.sym = i then oftS far ss i + 1 else oftS far ss i := by
  unfold oftS
  rw [List.filter_append, List.length_append, List.filter_cons]
  by_cases h : s.far = far ∧ s.sym = i
  · rw [if_pos h, if_pos (by simp [hitS, h.1, h.2])]; rfl
  · rw [if_neg h, if_neg (by simpa [hitS] using h)]; rfl
theorem oftS_le (far : Bool) (ss : List Sy) (i : Nat) : oftS far ss i ≤ ss.length := List.length_filter_le _ _
theorem oftS_pos {far : Bool} {ss : List Sy} {s : Sy} (hs : s ∈ ss) (hf : s.far = far) : 0 < oftS far ss s.sym :=
  List.length_pos_of_mem (List.mem_filter.2 ⟨hs, by simp [hitS, hf]⟩)
/-- The frequencies of N symbols. -/
def freqL (far : Bool) (N : Nat) (ss : List Sy) : List Int := (List.range N).map fun i => ((oftS far ss i : Nat) : Int)
theorem freqL_length (far : Bool) (N : Nat) (ss : List Sy) : (freqL far N ss).length = N := by simp [freqL]
theorem freqL_at (far : Bool) (N : Nat) (ss : List Sy) (i : Nat) (h : i < N) : nthI (freqL far N ss) i = ((oftS far ss i : Nat) : Int) := by simp [freqL, nthI, h]
/-- How often each symbol stands in runs. -/
def oftR (rs : List (Int × Int)) (i : Nat) : Nat := (rs.filter fun r => r.1 == (i : Int)).length
theorem oftR_snoc (rs : List (Int × Int)) (r : Int × Int) (i : Nat) : oftR (rs ++ [r]) i = if r.1 = (i : Int) then oftR rs i + 1 else oftR rs i := by
  unfold oftR
  rw [List.filter_append, List.length_append, List.filter_cons]
  by_cases h : r.1 = (i : Int)
  · rw [if_pos h, if_pos (by simp [h])]; rfl
  · rw [if_neg h, if_neg (by simpa using h)]; rfl
theorem oftR_le (rs : List (Int × Int)) (i : Nat) : oftR rs i ≤ rs.length := List.length_filter_le _ _
theorem oftR_pos {rs : List (Int × Int)} {r : Int × Int} (hr : r ∈ rs) (h0 : 0 ≤ r.1) : 0 < oftR rs r.1.toNat :=
  List.length_pos_of_mem (List.mem_filter.2 ⟨hr, by simp [Int.toNat_of_nonneg h0]⟩)
def freqR (rs : List (Int × Int)) : List Int := (List.range 19).map fun i => ((oftR rs i : Nat) : Int)
theorem freqR_length (rs : List (Int × Int)) : (freqR rs).length = 19 := by simp [freqR]
theorem freqR_at (rs : List (Int × Int)) (i : Nat) (h : i < 19) : nthI (freqR rs) i = ((oftR rs i : Nat) : Int) := by simp [freqR, nthI, h]

/-! ### Lengths up to the last one that is not 0 -/
def downN (l : List Nat) (least : Nat) : Nat → Nat
  | 0 => 0
  | n + 1 => if least < n + 1 ∧ nth l n = 0 then downN l least n else n + 1
def toldN (l : List Nat) (least : Nat) : Nat := downN l least l.length
theorem downN_le (l : List Nat) (least : Nat) : ∀ n, downN l least n ≤ n
  | 0 => Nat.le_refl _
  | n + 1 => by
    unfold downN
    split
    · have := downN_le l least n; omega
    · exact Nat.le_refl _
theorem downN_ge (l : List Nat) (least : Nat) : ∀ n, least ≤ n → least ≤ downN l least n
  | 0, h => by simpa [downN] using h
  | n + 1, h => by
    unfold downN
    split
    · rename_i h1; exact downN_ge l least n (by omega)
    · exact h
theorem downN_zero (l : List Nat) (least : Nat) : ∀ n i, downN l least n ≤ i → i < n → nth l i = 0
  | 0, i, _, h => by omega
  | n + 1, i, h, hi => by
    unfold downN at h
    split at h
    · rename_i h1
      by_cases e : i = n
      · rw [e]; exact h1.2
      · exact downN_zero l least n i h (by omega)
    · omega
theorem downN_at (l : List Nat) (least : Nat) : downN l least least = least := by
  cases least with
  | zero => rfl
  | succ n => unfold downN; rw [if_neg (by omega)]
theorem toldN_le (l : List Nat) (least : Nat) : toldN l least ≤ l.length := downN_le l least _
theorem toldN_ge {l : List Nat} {least : Nat} (h : least ≤ l.length) : least ≤ toldN l least := downN_ge l least _ h
theorem toldN_lt {l : List Nat} {least i : Nat} (h : nth l i ≠ 0) (hi : i < l.length) : i < toldN l least := by
  rcases Nat.lt_or_ge i (toldN l least) with h1 | h1
  · exact h1
  · exact absurd (downN_zero l least _ i h1 hi) h
def cutL (l : List Nat) (least : Nat) : List Nat := l.take (toldN l least)
theorem cutL_length (l : List Nat) (least : Nat) : (cutL l least).length = toldN l least := by
  have := toldN_le l least
  unfold cutL
  rw [List.length_take]; omega
theorem nth_take (l : List Nat) (k i : Nat) (h : i < k) : nth (l.take k) i = nth l i := by
  unfold nth
  rw [List.getElem?_take, if_pos h]
theorem tail_zero {l : List Nat} : ∀ (k j : Nat), (∀ i, k ≤ i → i < l.length → nth l i = 0) → l.length - k ≤ j → kraft l = kraft (l.take k) ∧ used l = used (l.take k)
  | k, 0, _, hj => by rw [List.take_of_length_le (by omega)]; exact ⟨rfl, rfl⟩
  | k, j + 1, h, hj => by
    rcases Nat.lt_or_ge k l.length with hlt | hge
    · obtain ⟨e1, e2⟩ := tail_zero (k + 1) j (fun i hi hl => h i (by omega) hl) (by omega)
      rw [e1, e2, take_snoc l k hlt, h k (Nat.le_refl _) hlt, kraft_snoc, used_snoc]
      exact ⟨by simp, by simp⟩
    · rw [List.take_of_length_le hge]; exact ⟨rfl, rfl⟩
theorem can_cut {l : List Nat} {m : Int} (h : canE l m = 0) (least : Nat) : canE (cutL l least) m = 0 := by
  obtain ⟨a1, a2, a3, a4, a5, a6⟩ := canE_ok h
  obtain ⟨e1, e2⟩ := tail_zero (l := l) (toldN l least) l.length (fun i hi hl => downN_zero l least _ i hi hl) (by omega)
  have hl := cutL_length l least
  have := toldN_le l least
  unfold canE
  rw [if_neg (by omega), if_neg (by omega), if_pos, if_neg (by unfold cutL; omega), if_pos (by unfold cutL; rw [← e1, ← e2]; exact a6)]
  rw [List.all_eq_true]
  intro x hx
  exact decide_eq_true (a4 x (List.mem_of_mem_take hx))

/-! ### The least lengths -/
open Classical in
noncomputable def minL (fr : List Int) (L : Nat) : List Nat := if h : ∃ ys, Items fr ys then outL fr h.choose L else []
theorem minL_eq {fr ys : List Int} (h : Items fr ys) (L : Nat) : minL fr L = outL fr ys L := by
  have hx : ∃ ys, Items fr ys := ⟨ys, h⟩
  unfold minL
  rw [dif_pos hx, hx.choose_spec.uniq h]
/-- Lengths as the builder makes them. -/
structure MinL (fr : List Int) (L : Nat) (o : List Nat) : Prop where
  len : o.length = fr.length
  can : canE o L = 0
  pos : ∀ i, i < fr.length → (nth o i = 0 ↔ nthI fr i ≤ 0)
  le : ∀ x ∈ o, x ≤ L
theorem MinL.of {fr ys : List Int} {L : Nat} (h : Items fr ys) (hL : 1 ≤ L) (hn : ys.length ≤ 2 ^ L) (hL15 : L ≤ 15) (h320 : fr.length ≤ 320) : MinL fr L (minL fr L) := by
  rw [minL_eq h L]
  refine ⟨outL_length, out_can h hL hn hL15 h320, fun i hi => ?_, fun x hx => ?_⟩
  · rw [outL_nth i hi]; exact out_pos h hL hn hi
  · obtain ⟨i, hi, rfl⟩ := List.mem_map.1 hx
    exact out_le h hL hn i (List.mem_range.1 hi)

/-! ### Codes as numbers -/
def codeN (c : Nat × Nat) : Nat × Nat := (rev c.1 c.2, c.2)
def nthC (cs : List (Nat × Nat)) (i : Nat) : Nat × Nat := cs[i]?.getD (0, 0)
theorem nthC_at (l : List Nat) (i : Nat) (h : i < l.length) : nthC (codesL l) i = codeAt l i := by simp [nthC, codesL, h]
theorem code_fit {l : List Nat} (h15 : ∀ x ∈ l, x ≤ 15) (hk : kraft l ≤ 32768) (i : Nat) : (codeAt l i).1 < 2 ^ (codeAt l i).2 ∧ (codeAt l i).2 ≤ 15 := by
  unfold codeAt
  by_cases h0 : nth l i = 0
  · rw [if_pos h0]; simp
  · rw [if_neg h0]
    have hn : nth l i ≤ 15 := by have := nth_lt (B := 16) (fun x hx => by have := h15 x hx; omega) (by omega) i; omega
    refine ⟨?_, hn⟩
    have hi : i < l.length := by
      rcases Nat.lt_or_ge i l.length with h | h
      · exact h
      · exact absurd (nth_beyond l i h) h0
    have h1 := fr_le h15 hk hn
    have h2 : cnt (l.take i) (nth l i) + 1 ≤ cnt l (nth l i) := by
      have e := cnt_snoc (l.take i) (nth l i) (nth l i)
      rw [if_pos ⟨h0, rfl⟩, ← take_snoc l i hi] at e
      have := cnt_take_le l (nth l i) (i + 1)
      omega
    have h3 : (frF (cnt l) (nth l i) + cnt (l.take i) (nth l i) + 1) * pw (nth l i) ≤ 32768 := Nat.le_trans (Nat.mul_le_mul_right _ (by omega)) h1
    have h4 : (32768 : Nat) = 2 ^ nth l i * pw (nth l i) := by
      unfold pw
      rw [← Nat.pow_add, show nth l i + (15 - nth l i) = 15 by omega]
    rw [h4] at h3
    have := Nat.le_of_mul_le_mul_right h3 (pw_pos _)
    show frF (cnt l) (nth l i) + cnt (l.take i) (nth l i) < 2 ^ nth l i
    omega
theorem codeN_ok (c : Nat × Nat) (h : c.2 ≤ 15) : (codeN c).2 ≤ 32 ∧ (codeN c).1 < 2 ^ (codeN c).2 := ⟨by simp only [codeN]; omega, rev_lt _ _⟩
end Go.Proofs.Ytahboomghjdjhaa

/-
  Plain: a block's numbers, as the program has them and as the document has them: the same bits. No program in sight.
-/
namespace Go.Proofs.Ytahboomghjdjhaa

/-! ### Tokens by codes -/
def tokP (a b : List (Nat × Nat)) (s : Sy) : List (Nat × Nat) := [codeN (nthC (if s.far = true then b else a) s.sym), (s.x, s.n)]
def toksP (a b : List (Nat × Nat)) (ss : List Sy) : List (Nat × Nat) := ss.flatMap (tokP a b)
def tokD (a b : List (Nat × Nat)) (t : Tk) : List (Nat × Nat) := if t.long = 0 then [codeN (nthC a t.lit)] else toksP a b [longS t.long, farS t.dist]
def toksD (a b : List (Nat × Nat)) (l : List Tk) : List (Nat × Nat) := l.flatMap (tokD a b)
theorem toksP_snoc (a b : List (Nat × Nat)) (ss : List Sy) (s : Sy) : toksP a b (ss ++ [s]) = toksP a b ss ++ tokP a b s := by simp [toksP]
theorem toksP_append (a b : List (Nat × Nat)) (ss tt : List Sy) : toksP a b (ss ++ tt) = toksP a b ss ++ toksP a b tt := by simp [toksP]
theorem toksD_snoc (a b : List (Nat × Nat)) (l : List Tk) (t : Tk) : toksD a b (l ++ [t]) = toksD a b l ++ tokD a b t := by simp [toksD]
theorem toksP_length (a b : List (Nat × Nat)) (ss : List Sy) : (toksP a b ss).length = 2 * ss.length := by
  induction ss with
  | nil => rfl
  | cons s ss ih =>
    have : toksP a b (s :: ss) = tokP a b s ++ toksP a b ss := by simp [toksP]
    rw [this, List.length_append, ih, List.length_cons]
    simp [tokP]; omega
theorem toksD_length (a b : List (Nat × Nat)) (l : List Tk) : (toksD a b l).length ≤ l.length * 4 := flatMap_len (fun t => by
  unfold tokD
  split
  · simp
  · rw [toksP_length]; simp) l
theorem toks_flat (a b : List (Nat × Nat)) : ∀ l : List Tk, flat (toksP a b (symsL l)) = flat (toksD a b l ++ [codeN (nthC a 256)])
  | [] => by simp [symsL, toksP, toksD, tokP, endS, flat, flatN]
  | t :: l => by
    have ih := toks_flat a b l
    have e1 : symsL (t :: l) = syT t ++ symsL l := by simp [symsL]
    have e2 : toksD a b (t :: l) = tokD a b t ++ toksD a b l := by simp [toksD]
    rw [e1, e2, toksP_append, flat_append, ih, List.append_assoc, flat_append (tokD a b t)]
    congr 1
    unfold syT tokD
    by_cases h : t.long = 0
    · rw [if_pos h, if_pos h]
      simp [toksP, tokP, flat, flatN]
    · rw [if_neg h, if_neg h]

/-! ### The fixed lengths, the order -/
def longsF : List Nat := List.replicate 144 8 ++ (List.replicate 112 9 ++ (List.replicate 24 7 ++ List.replicate 8 8))
def farsF : List Nat := List.replicate 32 5
def orderL : List Nat := [16, 17, 18, 0, 8, 7, 9, 6, 10, 5, 11, 4, 12, 3, 13, 2, 14, 1, 15]
theorem can_longsF : canE longsF 15 = 0 := by decide +kernel
theorem can_farsF : canE farsF 15 = 0 := by decide +kernel

/-! ### A dynamic block's lengths -/
noncomputable def dLongs (l : List Tk) : List Nat := cutL (minL (freqL false 286 (symsL l)) 15) 257
noncomputable def dFars (l : List Tk) : List Nat := cutL (minL (freqL true 30 (symsL l)) 15) 1
noncomputable def dAll (l : List Tk) : List (Int × Int) := runsFrom (dLongs l ++ dFars l) 0
noncomputable def dShorts (l : List Tk) : List Nat := minL (freqR (dAll l)) 7
noncomputable def dRow (l : List Tk) : List Nat := cutL (orderL.map (nth (dShorts l))) 4
def runN (cs : List (Nat × Nat)) (r : Int × Int) : List (Nat × Nat) := [codeN (nthC cs r.1.toNat), (r.2.toNat, symBits r.1)]
def runsN (cs : List (Nat × Nat)) (rs : List (Int × Int)) : List (Nat × Nat) := rs.flatMap (runN cs)
theorem runsN_snoc (cs : List (Nat × Nat)) (rs : List (Int × Int)) (r : Int × Int) : runsN cs (rs ++ [r]) = runsN cs rs ++ runN cs r := by simp [runsN]
theorem runsN_length (cs : List (Nat × Nat)) (rs : List (Int × Int)) : (runsN cs rs).length = 2 * rs.length := by
  induction rs with
  | nil => rfl
  | cons r rs ih =>
    have : runsN cs (r :: rs) = runN cs r ++ runsN cs rs := by simp [runsN]
    rw [this, List.length_append, ih, List.length_cons]
    simp [runN]; omega
def shortN (x : Nat) : Nat × Nat := (x, 3)
noncomputable def dHead (l : List Tk) : List (Nat × Nat) := [((dLongs l).length - 257, 5), ((dFars l).length - 1, 5), ((dRow l).length - 4, 4)]
noncomputable def dNums (l : List Tk) : List (Nat × Nat) := dHead l ++ ((dRow l).map shortN ++ runsN (codesL (dShorts l)) (dAll l))

theorem pos_len_le (fr : List Int) (ys : List Int) (h : Items fr ys) : ys.length ≤ fr.length := by
  have e := reindex (it_inj h) (fun k hk => (it_rng h k hk).1) (fun i => if 0 < nthI fr i then 1 else 0) (fun i hi hno => by
    have : ¬ 0 < nthI fr i := fun h0 => by
      obtain ⟨k, hk, e⟩ := item_of h hi h0
      exact hno k hk e
    exact if_neg this)
  have e2 : sumN (fun k => if 0 < nthI fr (itF ys k) then 1 else 0) ys.length = sumN (fun _ => 1) ys.length := sumN_congr fun k hk => if_pos (it_rng h k hk).2
  have e3 : sumN (fun i => if 0 < nthI fr i then 1 else 0) fr.length ≤ sumN (fun _ => 1) fr.length := sumN_le fun i _ => by split <;> omega
  rw [e, e2, sumN_const, sumN_const] at e3
  omega

/-- Frequencies that may be, with their one list of items. -/
structure FreqOk (fr : List Int) (L : Nat) : Prop where
  ok : ∃ ys, Items fr ys ∧ ys.length ≤ 2 ^ L
  n320 : fr.length ≤ 320
theorem FreqOk.min {fr : List Int} {L : Nat} (h : FreqOk fr L) (h1 : 1 ≤ L) (h2 : L ≤ 15) : MinL fr L (minL fr L) := by
  obtain ⟨ys, hi, hn⟩ := h.ok
  exact MinL.of hi h1 hn h2 h.n320
theorem least_t {p : Nat → Prop} : ∀ n, p n → ∃ t, t ≤ n ∧ p t ∧ (0 < t → ¬ p (t - 1))
  | 0, h => ⟨0, Nat.le_refl _, h, fun h0 => by omega⟩
  | n + 1, h => by
    by_cases h1 : p n
    · obtain ⟨t, a, b, c⟩ := least_t n h1
      exact ⟨t, by omega, b, c⟩
    · exact ⟨n + 1, Nat.le_refl _, h, fun _ => h1⟩
theorem items_put {fr out : List Int} {i : Nat} (h : ItemsN fr i out) (hi : i < fr.length) (h0 : 0 < nthI fr i) : ∃ ys, ItemsN fr (i + 1) ys := by
  obtain ⟨t, ht, hp, hn⟩ := least_t (p := fun t => ∀ u, t ≤ u → u < out.length → nthI fr i < nthI fr (nthI out u).toNat) out.length (fun u h1 h2 => by omega)
  refine ⟨_, h.put hi h0 ht (fun h1 => ?_) hp⟩
  rcases Int.lt_or_le (nthI fr i) (nthI fr (nthI out (t - 1)).toNat) with h2 | h2
  · refine absurd (fun u hu hlt => ?_) (hn h1)
    by_cases e : u = t - 1
    · rw [e]; exact h2
    · exact hp u (by omega) hlt
  · exact h2
/-- The items of any frequencies. -/
theorem items_any (fr : List Int) : ∃ ys, Items fr ys := by
  obtain ⟨ys, h⟩ : ∃ ys, ItemsN fr fr.length ys := by
    have key : ∀ i, i ≤ fr.length → ∃ ys, ItemsN fr i ys := by
      intro i
      induction i with
      | zero => exact fun _ => ⟨[], ItemsN.zero fr⟩
      | succ i ih =>
        intro hi
        obtain ⟨ys, h⟩ := ih (by omega)
        by_cases h0 : 0 < nthI fr i
        · exact items_put h (by omega) h0
        · exact ⟨ys, h.skip h0⟩
    exact key fr.length (Nat.le_refl _)
  exact ⟨ys, h.full⟩
theorem freq_ok {fr : List Int} (L : Nat) (hl : fr.length ≤ 320) (hp : fr.length ≤ 2 ^ L) : FreqOk fr L := by
  obtain ⟨ys, h⟩ := items_any fr
  exact ⟨⟨ys, h, Nat.le_trans (pos_len_le fr ys h) hp⟩, hl⟩
theorem min_of {fr : List Int} (L : Nat) (h1 : 1 ≤ L) (h2 : L ≤ 15) (hl : fr.length ≤ 320) (hp : fr.length ≤ 2 ^ L) : MinL fr L (minL fr L) := (freq_ok L hl hp).min h1 h2
section
variable (l : List Tk)
theorem min_longs : MinL (freqL false 286 (symsL l)) 15 (minL (freqL false 286 (symsL l)) 15) := min_of 15 (by omega) (by omega) (by rw [freqL_length]; omega) (by rw [freqL_length]; decide)
theorem min_fars : MinL (freqL true 30 (symsL l)) 15 (minL (freqL true 30 (symsL l)) 15) := min_of 15 (by omega) (by omega) (by rw [freqL_length]; omega) (by rw [freqL_length]; decide)
theorem min_shorts : MinL (freqR (dAll l)) 7 (dShorts l) := min_of 7 (by omega) (by omega) (by rw [freqR_length]; omega) (by rw [freqR_length]; decide)
theorem dLongs_len : 257 ≤ (dLongs l).length ∧ (dLongs l).length ≤ 286 := by
  have h := (min_longs l).len
  rw [freqL_length] at h
  unfold dLongs
  rw [cutL_length]
  exact ⟨toldN_ge (by omega), by have := toldN_le (minL (freqL false 286 (symsL l)) 15) 257; omega⟩
theorem dFars_len : 1 ≤ (dFars l).length ∧ (dFars l).length ≤ 30 := by
  have h := (min_fars l).len
  rw [freqL_length] at h
  unfold dFars
  rw [cutL_length]
  exact ⟨toldN_ge (by omega), by have := toldN_le (minL (freqL true 30 (symsL l)) 15) 1; omega⟩
theorem dShorts_len : (dShorts l).length = 19 := by rw [(min_shorts l).len, freqR_length]
theorem dRow_len : 4 ≤ (dRow l).length ∧ (dRow l).length ≤ 19 := by
  have h : (orderL.map (nth (dShorts l))).length = 19 := by rw [List.length_map]; rfl
  unfold dRow
  rw [cutL_length]
  exact ⟨toldN_ge (by omega), by have := toldN_le (orderL.map (nth (dShorts l))) 4; omega⟩
theorem dLongs_le : ∀ x ∈ dLongs l, x ≤ 15 := fun x hx => (min_longs l).le x (List.mem_of_mem_take hx)
theorem dFars_le : ∀ x ∈ dFars l, x ≤ 15 := fun x hx => (min_fars l).le x (List.mem_of_mem_take hx)
theorem dShorts_le : ∀ x ∈ dShorts l, x ≤ 7 := (min_shorts l).le
theorem dRow_le : ∀ x ∈ dRow l, x ≤ 7 := fun x hx => by
  obtain ⟨i, _, rfl⟩ := List.mem_map.1 (List.mem_of_mem_take hx)
  have := nth_lt (B := 8) (fun x hx => by have := dShorts_le l x hx; omega) (by omega) i
  omega
theorem can_dLongs : canE (dLongs l) 15 = 0 := can_cut (min_longs l).can _
theorem can_dFars : canE (dFars l) 15 = 0 := can_cut (min_fars l).can _
theorem can_dShorts : canE (dShorts l) 7 = 0 := (min_shorts l).can
theorem sqE_all : sqE (dLongs l ++ dFars l) = 0 := by
  have h1 := dLongs_len l
  have h2 := dFars_len l
  unfold sqE
  rw [if_neg (by rw [List.length_append]; omega), if_pos]
  rw [List.all_eq_true]
  intro x hx
  rcases List.mem_append.1 hx with hx | hx
  · exact decide_eq_true (dLongs_le l x hx)
  · exact decide_eq_true (dFars_le l x hx)
theorem dAll_sq : sq (dLongs l ++ dFars l) = dAll l := by unfold sq dAll; rw [if_pos (sqE_all l)]
theorem dAll_len : (dAll l).length ≤ 316 := by
  have h1 := dLongs_len l
  have h2 := dFars_len l
  have := runsFrom_len (dLongs l ++ dFars l) _ 0 (Nat.le_refl _)
  rw [List.length_append] at this
  unfold dAll; omega
end
theorem runs_ok {l : List Nat} (h15 : ∀ i, nth l i ≤ 15) : ∀ (k a : Nat), l.length - a ≤ k → ∀ r ∈ runsFrom l a, runOk r = true
  | 0, a, h => by rw [runsFrom_end (by omega)]; simp
  | k + 1, a, h => by
    rcases Nat.lt_or_ge a l.length with hlt | hge
    · have := stepOf_pos l a
      rw [runsFrom_step hlt]
      intro r hr
      rcases List.mem_cons.1 hr with rfl | hr
      · exact (step_put hlt h15).1
      · exact runs_ok h15 k _ (by omega) r hr
    · rw [runsFrom_end hge]; simp
theorem dAll_ok (l : List Tk) : ∀ r ∈ dAll l, 0 ≤ r.1 ∧ r.1 ≤ 18 ∧ 0 ≤ r.2 ∧ r.2 < 2 ^ symBits r.1 := fun r hr => by
  have := runs_ok (sq_ok (sqE_all l)).2 _ 0 (Nat.le_refl _) r hr
  exact of_decide_eq_true this

/-! ### All of a block's numbers -/
def headN (last : Bool) (kind : Nat) : List (Nat × Nat) := [(if last = true then 1 else 0, 1), (kind, 2)]
def padN (at_ : Nat) : Nat := (8 - (at_ + 3) % 8) % 8
def byteN (x : Nat) : Nat × Nat := (x, 8)
def rawN (raw : List Nat) : List (Nat × Nat) := (raw.length, 16) :: (65535 - raw.length, 16) :: raw.map byteN
noncomputable def bodyP (at_ kind : Nat) (raw : List Nat) (l : List Tk) : List (Nat × Nat) :=
  if kind = 0 then (0, padN at_) :: rawN raw else if kind = 1 then toksP (codesL longsF) (codesL farsF) (symsL l) else dNums l ++ toksP (codesL (dLongs l)) (codesL (dFars l)) (symsL l)
noncomputable def bodyD (at_ kind : Nat) (raw : List Nat) (l : List Tk) : List (Nat × Nat) :=
  if kind = 0 then List.replicate (padN at_) (0, 1) ++ rawN raw else if kind = 1 then toksD (codesL longsF) (codesL farsF) l ++ [codeN (nthC (codesL longsF) 256)] else dNums l ++ (toksD (codesL (dLongs l)) (codesL (dFars l)) l ++ [codeN (nthC (codesL (dLongs l)) 256)])
noncomputable def numsP (at_ kind : Nat) (raw : List Nat) (l : List Tk) (last : Bool) : List (Nat × Nat) := headN last kind ++ bodyP at_ kind raw l
noncomputable def numsD (at_ kind : Nat) (raw : List Nat) (l : List Tk) (last : Bool) : List (Nat × Nat) := headN last kind ++ bodyD at_ kind raw l
theorem nums_flat (at_ kind : Nat) (raw : List Nat) (l : List Tk) (last : Bool) : flat (numsP at_ kind raw l last) = flat (numsD at_ kind raw l last) := by
  unfold numsP numsD
  rw [flat_append, flat_append]
  congr 1
  unfold bodyP bodyD
  by_cases h0 : kind = 0
  · rw [if_pos h0, if_pos h0, flat_cons, flat_append, flat_noughts, flatN_zero]
  · rw [if_neg h0, if_neg h0]
    by_cases h1 : kind = 1
    · rw [if_pos h1, if_pos h1, toks_flat]
    · rw [if_neg h1, if_neg h1, flat_append, flat_append (dNums l), toks_flat]
theorem nums_len (at_ kind : Nat) (raw : List Nat) (l : List Tk) (last : Bool) : lenN (numsP at_ kind raw l last) = lenN (numsD at_ kind raw l last) := by
  rw [← flat_length, ← flat_length, nums_flat]

/-! ### They have their bits -/
theorem code_ok_of {l : List Nat} {m : Int} (h : canE l m = 0) (i : Nat) : (nthC (codesL l) i).1 < 2 ^ (nthC (codesL l) i).2 ∧ (nthC (codesL l) i).2 ≤ 15 := by
  obtain ⟨a1, a2, a3, a4, a5, _⟩ := canE_ok h
  rcases Nat.lt_or_ge i l.length with hi | hi
  · rw [nthC_at l i hi]
    exact code_fit (fun x hx => by have := a4 x hx; omega) a5 i
  · have : nthC (codesL l) i = (0, 0) := by unfold nthC; rw [List.getElem?_eq_none (by rw [codesL_length]; exact hi)]; rfl
    rw [this]; simp
theorem ok_toksP {a b : List Nat} {m m' : Int} (ha : canE a m = 0) (hb : canE b m' = 0) {ss : List Sy} (h : ∀ s ∈ ss, SyOk s) : NOk (toksP (codesL a) (codesL b) ss) := fun x hx => by
  obtain ⟨s, hs, hx⟩ := List.mem_flatMap.1 hx
  simp only [tokP, List.mem_cons, List.not_mem_nil, or_false] at hx
  rcases hx with rfl | rfl
  · refine codeN_ok _ ?_
    split
    · exact (code_ok_of hb _).2
    · exact (code_ok_of ha _).2
  · obtain ⟨_, h2, h3⟩ := h s hs
    exact ⟨by simp only; omega, h3⟩
theorem ok_head (last : Bool) {kind : Nat} (h : kind ≤ 2) : NOk (headN last kind) := fun x hx => by
  simp only [headN, List.mem_cons, List.not_mem_nil, or_false] at hx
  rcases hx with rfl | rfl
  · refine ⟨by simp, ?_⟩
    cases last <;> simp
  · exact ⟨by simp, by simp only; omega⟩
theorem ok_raw {raw : List Nat} (h : ∀ x ∈ raw, x < 256) (hl : raw.length ≤ 65535) : NOk (rawN raw) := fun x hx => by
  simp only [rawN, List.mem_cons] at hx
  rcases hx with rfl | rfl | hx
  · exact ⟨by simp, by simp only; omega⟩
  · exact ⟨by simp, by simp only; omega⟩
  · obtain ⟨y, hy, rfl⟩ := List.mem_map.1 hx
    have := h y hy
    exact ⟨by simp [byteN], by simp only [byteN]; omega⟩
theorem ok_dNums (l : List Tk) : NOk (dNums l) := by
  have h1 := dLongs_len l
  have h2 := dFars_len l
  have h3 := dRow_len l
  refine NOk.append ?_ (NOk.append ?_ ?_)
  · intro x hx
    simp only [dHead, List.mem_cons, List.not_mem_nil, or_false] at hx
    rcases hx with rfl | rfl | rfl
    · exact ⟨by simp, by simp only; omega⟩
    · exact ⟨by simp, by simp only; omega⟩
    · exact ⟨by simp, by simp only; omega⟩
  · intro x hx
    obtain ⟨y, hy, rfl⟩ := List.mem_map.1 hx
    have := dRow_le l y hy
    exact ⟨by simp [shortN], by simp only [shortN]; omega⟩
  · intro x hx
    obtain ⟨r, hr, hx⟩ := List.mem_flatMap.1 hx
    obtain ⟨r1, r2, r3, r4⟩ := dAll_ok l r hr
    simp only [runN, List.mem_cons, List.not_mem_nil, or_false] at hx
    rcases hx with rfl | rfl
    · exact codeN_ok _ (code_ok_of (can_dShorts l) _).2
    · refine ⟨?_, ?_⟩
      · simp only
        unfold symBits
        repeat' split
        all_goals omega
      · simp only
        have : ((r.2.toNat : Nat) : Int) < ((2 ^ symBits r.1 : Nat) : Int) := by rw [Int.toNat_of_nonneg r3]; simpa using r4
        exact_mod_cast this
theorem nums_ok {at_ kind : Nat} {raw : List Nat} {l : List Tk} (last : Bool) (hk : kind ≤ 2) (hr : ∀ x ∈ raw, x < 256) (hrl : raw.length ≤ 65535) (hl : TksOk l) : NOk (numsP at_ kind raw l last) := by
  refine (ok_head last hk).append ?_
  unfold bodyP
  by_cases h0 : kind = 0
  · rw [if_pos h0]
    intro x hx
    rcases List.mem_cons.1 hx with rfl | hx
    · exact ⟨by simp only [padN]; omega, by simp only; exact Nat.two_pow_pos _⟩
    · exact ok_raw hr hrl x hx
  · rw [if_neg h0]
    by_cases h1 : kind = 1
    · rw [if_pos h1]; exact ok_toksP can_longsF can_farsF (symsL_ok hl)
    · rw [if_neg h1]; exact (ok_dNums l).append (ok_toksP (can_dLongs l) (can_dFars l) (symsL_ok hl))
theorem ok_toksD {a b : List Nat} {m m' : Int} (ha : canE a m = 0) (hb : canE b m' = 0) {l : List Tk} (h : TksOk l) : NOk (toksD (codesL a) (codesL b) l) := fun x hx => by
  obtain ⟨t, ht, hx⟩ := List.mem_flatMap.1 hx
  unfold tokD at hx
  by_cases h0 : t.long = 0
  · rw [if_pos h0] at hx
    simp only [List.mem_singleton] at hx
    subst hx
    exact codeN_ok _ (code_ok_of ha _).2
  · rw [if_neg h0] at hx
    have hs := syT_ok (h t ht).1 (h t ht).2
    unfold syT at hs
    rw [if_neg h0] at hs
    exact ok_toksP ha hb hs x hx
theorem ok_one {c : Nat × Nat} (h : c.2 ≤ 15) : NOk [codeN c] := fun x hx => by
  simp only [List.mem_singleton] at hx
  subst hx
  exact codeN_ok _ h
theorem numsD_ok {at_ kind : Nat} {raw : List Nat} {l : List Tk} (last : Bool) (hk : kind ≤ 2) (hr : ∀ x ∈ raw, x < 256) (hrl : raw.length ≤ 65535) (hl : TksOk l) : NOk (numsD at_ kind raw l last) := by
  refine (ok_head last hk).append ?_
  unfold bodyD
  by_cases h0 : kind = 0
  · rw [if_pos h0]
    refine NOk.append (fun x hx => ?_) (ok_raw hr hrl)
    obtain ⟨_, rfl⟩ := List.mem_replicate.1 hx
    exact ⟨by simp, by simp⟩
  · rw [if_neg h0]
    by_cases h1 : kind = 1
    · rw [if_pos h1]; exact (ok_toksD can_longsF can_farsF hl).append (ok_one (code_ok_of can_longsF _).2)
    · rw [if_neg h1]; exact (ok_dNums l).append ((ok_toksD (can_dLongs l) (can_dFars l) hl).append (ok_one (code_ok_of (can_dLongs l) _).2))
/-! ### How many there are -/
theorem dNums_length (l : List Tk) : (dNums l).length ≤ 3 + (19 + 632) := by
  have h1 := dRow_len l
  have h2 := dAll_len l
  unfold dNums
  rw [List.length_append, List.length_append, List.length_map, runsN_length]
  have : (dHead l).length = 3 := rfl
  omega
theorem numsP_length (at_ kind : Nat) (raw : List Nat) (l : List Tk) (last : Bool) : (numsP at_ kind raw l last).length ≤ 700 + 4 * l.length + raw.length := by
  have h1 := symsL_len l
  have h2 := dNums_length l
  unfold numsP
  rw [List.length_append]
  have : (headN last kind).length = 2 := rfl
  unfold bodyP
  by_cases h0 : kind = 0
  · rw [if_pos h0, List.length_cons]
    simp only [rawN, List.length_cons, List.length_map]; omega
  · rw [if_neg h0]
    by_cases h1 : kind = 1
    · rw [if_pos h1, toksP_length]; omega
    · rw [if_neg h1, List.length_append, toksP_length]; omega
theorem numsD_length (at_ kind : Nat) (raw : List Nat) (l : List Tk) (last : Bool) : (numsD at_ kind raw l last).length ≤ 700 + 4 * l.length + raw.length := by
  have h2 := dNums_length l
  have hp : padN at_ ≤ 7 := by unfold padN; omega
  unfold numsD
  rw [List.length_append]
  have : (headN last kind).length = 2 := rfl
  unfold bodyD
  by_cases h0 : kind = 0
  · rw [if_pos h0, List.length_append, List.length_replicate]
    simp only [rawN, List.length_cons, List.length_map]; omega
  · rw [if_neg h0]
    by_cases h1 : kind = 1
    · rw [if_pos h1, List.length_append]
      have := toksD_length (codesL longsF) (codesL farsF) l
      simp only [List.length_cons, List.length_nil]; omega
    · rw [if_neg h1, List.length_append, List.length_append]
      have := toksD_length (codesL (dLongs l)) (codesL (dFars l)) l
      simp only [List.length_cons, List.length_nil]; omega
theorem numsP_bits {at_ kind : Nat} {raw : List Nat} {l : List Tk} (last : Bool) (hk : kind ≤ 2) (hr : ∀ x ∈ raw, x < 256) (hrl : raw.length ≤ 65535) (hl : TksOk l) : lenN (numsP at_ kind raw l last) ≤ (700 + 4 * l.length + raw.length) * 32 :=
  Nat.le_trans (lenN_le (B := 32) fun x hx => ((nums_ok last hk hr hrl hl) x hx).1) (Nat.mul_le_mul_right _ (numsP_length at_ kind raw l last))
end Go.Proofs.Ytahboomghjdjhaa
