/-
  Plain: reading with others behind; with enough bits; what a code's bits are read as.
-/
import Derived.Test.YtahboomghjdjhaaG11
import Derived.Test.YtahboomghjdjhaaG14
namespace Go.Proofs.Ytahboomghjdjhaa

/-! ### Others behind -/
theorem bit_app (b m : List Nat) (a : Nat) (h : a < 8 * b.length) : bitOf (b ++ m) a = bitOf b a := by
  unfold bitOf
  rw [nth_append_left b m (a / 8) (by omega)]
theorem rd_app (l b m : List Nat) : ∀ k n v a, (rdT l b k n v a).2.2 ≠ 10 → rdT l (b ++ m) k n v a = rdT l b k n v a
  | 0, _, _, _, _ => rfl
  | k + 1, n, v, a, h => by
    cases hh : hitF l n v with
    | some i => rw [rd_hit hh, rd_hit hh]
    | none =>
      cases hm : moreN l n v l.length with
      | false => rw [rd_code hh hm, rd_code hh hm]
      | true =>
        by_cases ha : a < 8 * b.length
        · rw [rd_go hh hm ha] at h ⊢
          rw [rd_go hh hm (by rw [List.length_append]; omega), bit_app b m a ha]
          exact rd_app l b m k _ _ _ h
        · rw [rd_end hh hm (by omega)] at h; exact absurd rfl h
theorem rd_err (l b : List Nat) : ∀ k n v a, (rdT l b k n v a).2.2 = 0 ∨ (rdT l b k n v a).2.2 = 10 ∨ (rdT l b k n v a).2.2 = 50
  | 0, _, _, _ => by simp [rdT]
  | k + 1, n, v, a => by
    cases hh : hitF l n v with
    | some i => rw [rd_hit hh]; simp
    | none =>
      cases hm : moreN l n v l.length with
      | false => rw [rd_code hh hm]; simp
      | true =>
        by_cases ha : a < 8 * b.length
        · rw [rd_go hh hm ha]; exact rd_err l b k _ _ _
        · rw [rd_end hh hm (by omega)]; simp
theorem nx_app (f : Nat → Int) (xs : List Int) (b m : List Nat) (a : Int) :
    ((nxT f xs b a).2.2 ≠ 10 → nxT f xs (b ++ m) a = nxT f xs b a) ∧ ((nxT f xs b a).2.2 = 10 → (nxT f xs (b ++ m) a).2.2 = 0 ∨ (nxT f xs (b ++ m) a).2.2 = 10 ∨ (nxT f xs (b ++ m) a).2.2 = 50) := by
  cases hr : chkT f xs with
  | none => rw [nx_none hr, nx_none hr]; simp
  | some l =>
    by_cases ha : a < 0
    · rw [nx_neg hr ha, nx_neg hr ha]; simp
    · rw [nx_some hr (by omega), nx_some hr (by omega)]
      exact ⟨rd_app l b m 16 0 0 _, fun _ => rd_err l _ 16 0 0 _⟩

/-! ### Enough bits -/
theorem used_cons (x : Nat) (l : List Nat) : used (x :: l) = (if x = 0 then 0 else 1) + used l := by
  unfold used
  rw [List.filter_cons]
  by_cases h : x = 0
  · subst h; simp
  · rw [if_neg h, if_pos (by simp; omega), List.length_cons]; omega
theorem used_tot (l : List Nat) (h15 : ∀ x ∈ l, x ≤ 15) : ∀ j, j ≤ l.length → totP l j 16 = used (l.take j)
  | 0, _ => by
    have : ∀ n, totP l 0 n = 0 := by
      intro n
      induction n with
      | zero => rfl
      | succ n ih => rw [totP, ih]; simp [rowP]
    rw [this]; simp [used]
  | j + 1, h => by
    rw [totP_succ, used_tot l h15 j (by omega), take_snoc l j (by omega), used_append, used_cons]
    have := nth_le_t h15 j
    by_cases h0 : nth l j = 0
    · rw [if_neg (by omega), if_pos h0]; simp [used]
    · rw [if_pos ⟨h0, by omega⟩, if_neg h0]; simp [used]
theorem all_used {l : List Nat} (h15 : ∀ x ∈ l, x ≤ 15) : (allP l 16).length = used l := by
  rw [allP_length, used_tot l h15 l.length (Nat.le_refl _), List.take_length]

theorem rd_full {l b : List Nat} (hc : canE l 15 = 0) (hk : kraft l = 32768) : ∀ (j m v a : Nat), m + j = 15 → frF (cnt l) m + cnt l m ≤ v → v < 2 ^ m → (m ≠ 0 ∨ v = 0) → a + j ≤ 8 * b.length →
    ∃ i n, rdT l b (j + 1) m v a = (i, n, 0) ∧ a < n ∧ n ≤ a + j ∧ i < l.length ∧ (i : Int) ∈ symS (allP l 16) := by
  have h15 := can15 hc
  intro j
  induction j with
  | zero =>
    intro m v a hm hv hlt _ _
    exfalso
    obtain rfl : m = 15 := by omega
    have e1 : pw 15 = 1 := rfl
    have e2 := fr_at (cnt l) (cnt_0 l) 15 (Nat.le_refl _)
    have e3 : atF (cnt l) 16 = atF (cnt l) 15 + cnt l 15 * pw 15 := rfl
    rw [kraft_at l h15] at hk
    rw [e1] at e2 e3
    have e4 : (2 : Nat) ^ 15 = 32768 := rfl
    omega
  | succ j ih =>
    intro m v a hm hv hlt h0 ha
    have hnh := no_hit (l := l) hv
    have hmore : moreN l m v l.length = true := by
      rw [more_is hc (by omega) hv hlt h0]
      intro e
      rw [all_len] at e
      have key : ∀ q, m + 1 ≤ q → q ≤ 16 → plF (cnt l) q ≤ plF (cnt l) (m + 1) → atF (cnt l) q = atF (cnt l) (m + 1) := by
        intro q h1 h2 h3
        induction h1 with
        | refl => rfl
        | @step q h1 ih =>
          have h1' : m + 1 ≤ q := h1
          have e1 : plF (cnt l) q.succ = plF (cnt l) q + cnt l q := rfl
          have e2 := plF_mono (cnt l) h1'
          have e3 : cnt l q = 0 := by omega
          have e4 : atF (cnt l) q.succ = atF (cnt l) q + cnt l q * pw q := rfl
          rw [e4, e3, ih (by omega) (by omega)]; omega
      have h4 := key 16 (by omega) (Nat.le_refl _) (by omega)
      rw [← kraft_at l h15, hk] at h4
      have e5 : atF (cnt l) (m + 1) = (frF (cnt l) m + cnt l m) * pw m := by
        show atF (cnt l) m + cnt l m * pw m = _
        rw [Nat.add_mul, fr_at (cnt l) (cnt_0 l) m (by omega)]
      have e6 := Nat.mul_le_mul_right (pw m) hv
      have e7 := pw_split (n := m) (by omega)
      have e8 := Nat.mul_lt_mul_of_pos_right hlt (pw_pos m)
      omega
    rw [rd_go hnh hmore (by omega)]
    have hbit := bitOf_lt b a
    have hfn := fr_next (l := l) (x := bitOf b a) hv
    by_cases hh : 2 * v + bitOf b a - frF (cnt l) (m + 1) < cnt l (m + 1)
    · obtain ⟨i, hi, g1, g2, g3⟩ := is_hit (l := l) (n := m + 1) (v := 2 * v + bitOf b a) (by omega) (by omega) hfn (by omega)
      refine ⟨i, a + 1, rd_hit g1, by omega, by omega, hi, ?_⟩
      rw [← g2]
      unfold nthI
      rw [List.getElem?_eq_getElem (by rw [symS_length]; exact g3)]
      exact List.getElem_mem _
    · obtain ⟨i, n, g1, g2, g3, g4⟩ := ih (m + 1) (2 * v + bitOf b a) (a + 1) (by omega) (by omega) (by rw [Nat.pow_succ]; omega) (.inl (by omega)) (by omega)
      exact ⟨i, n, g1, by omega, by omega, g4⟩
theorem nx_full {f : Nat → Int} {xs : List Int} {b : List Nat} {a : Nat} (hok : chkE f xs = 0) (h2 : 2 ≤ xs.length) (ha : a + 15 ≤ 8 * b.length) : ∃ i n : Nat, nxT f xs b (a : Int) = (i, n, 0) ∧ a < n ∧ n ≤ a + 15 ∧ (i : Int) ∈ xs := by
  cases hr : chkT f xs with
  | none => rw [chkE_none hr] at hok; cases hok
  | some l =>
    obtain ⟨hc, hf, hx⟩ := chk_some hr
    have h15 := can15 hc
    have hk : kraft l = 32768 := by
      obtain ⟨c1, c2, c3, c4, c5, c6⟩ := canE_ok hc
      have hu := all_used h15
      rw [hx, symS_length] at h2
      rcases c6 with c6 | c6 | ⟨c6, c7⟩
      · exact c6
      · omega
      · omega
    obtain ⟨i, n, g1, g2, g3, g4, g5⟩ := rd_full (b := b) hc hk 15 0 0 a rfl (by rw [cnt_0]; exact Nat.le_refl _) (by decide) (.inr rfl) ha
    refine ⟨i, n, ?_, g2, g3, by rw [hx]; exact g5⟩
    rw [nx_some hr (by omega), Int.toNat_natCast]
    exact g1

/-! ### A code's own bits -/
theorem rd_back {l b : List Nat} (hc : canE l 15 = 0) {s P : Nat} (hs : s < l.length) (h0 : nth l s ≠ 0) (hb : P + nth l s ≤ 8 * b.length)
    (hbits : ∀ j, j < nth l s → bitOf b (P + j) = (codeAt l s).1 / 2 ^ (nth l s - 1 - j) % 2) :
    ∀ (j k : Nat), k + j = nth l s → rdT l b (16 - k) k ((codeAt l s).1 / 2 ^ j) (P + k) = (s, P + nth l s, 0) := by
  have h15 := can15 hc
  have hn := nth_le_t h15 s
  have hno : ∀ (k i : Nat), i < l.length → i ≠ s → k ≤ nth l s → hitB l k ((codeAt l s).1 / 2 ^ (nth l s - k)) i = false := by
    intro k i hi his hk
    unfold hitB
    refine decide_eq_false fun ⟨e1, e2, e3⟩ => ?_
    have := apart h15 hi hs his
    unfold begB at this
    rw [decide_eq_false_iff_not, code_two, code_two] at this
    exact this ⟨by omega, by omega, by rw [e1]; exact e2.symm⟩
  intro j
  induction j with
  | zero =>
    intro k hk
    obtain rfl : k = nth l s := by omega
    rw [Nat.pow_zero, Nat.div_one, show 16 - nth l s = (15 - nth l s) + 1 by omega]
    refine rd_hit (hitF_some hs ?_ ?_)
    · unfold hitB; exact decide_eq_true ⟨rfl, rfl, by omega⟩
    · intro i hi
      have := hno (nth l s) i (by omega) (by omega) (Nat.le_refl _)
      rwa [Nat.sub_self, Nat.pow_zero, Nat.div_one] at this
  | succ j ih =>
    intro k hk
    have hh : hitF l k ((codeAt l s).1 / 2 ^ (j + 1)) = none := by
      refine hitF_none fun i hi => ?_
      by_cases his : i = s
      · subst his
        exact decide_eq_false fun ⟨e1, e2, e3⟩ => by omega
      · have := hno k i hi his (by omega)
        rwa [show nth l s - k = j + 1 by omega] at this
    have hm : moreN l k ((codeAt l s).1 / 2 ^ (j + 1)) l.length = true := by
      rw [moreN_iff]
      refine ⟨s, hs, decide_eq_true ⟨by omega, ?_⟩⟩
      rw [show nth l s - k = j + 1 by omega]
    rw [show 16 - k = (16 - (k + 1)) + 1 by omega, rd_go hh hm (by omega), hbits k (by omega), show nth l s - 1 - k = j by omega]
    have e : 2 * ((codeAt l s).1 / 2 ^ (j + 1)) + (codeAt l s).1 / 2 ^ j % 2 = (codeAt l s).1 / 2 ^ j := by
      rw [Nat.pow_succ, ← Nat.div_div_eq_div_mul]
      omega
    rw [e, show P + k + 1 = P + (k + 1) by omega]
    exact ih (k + 1) (by omega)
end Go.Proofs.Ytahboomghjdjhaa
