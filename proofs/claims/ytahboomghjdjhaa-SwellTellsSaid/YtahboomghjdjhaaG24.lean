/-
  Plain: the lengths of symbols, by their items. No program in sight.
-/
import Derived.Test.YtahboomghjdjhaaG03
import Derived.Test.YtahboomghjdjhaaG04
import Derived.Test.YtahboomghjdjhaaG23
namespace Go.Proofs.Ytahboomghjdjhaa

theorem sum_single (c i : Nat) : ∀ N, sumN (fun j => if i = j then c else 0) N = if i < N then c else 0
  | 0 => rfl
  | N + 1 => by
    rw [sumN, sum_single c i N]
    by_cases e : i = N
    · subst e; rw [if_neg (by omega), if_pos rfl, if_pos (by omega)]; omega
    · rw [if_neg e]
      by_cases h : i < N
      · rw [if_pos h, if_pos (by omega)]; omega
      · rw [if_neg h, if_neg (by omega)]
section
variable {it : Nat → Nat} {n N : Nat} (inj : ∀ j k, j < n → k < n → it j = it k → j = k) (rng : ∀ k, k < n → it k < N)
include inj in
theorem sum_hit (b : Nat → Nat) {k : Nat} (hk : k < n) : sumN (fun j => if it j = it k then b j else 0) n = b k := by
  have : sumN (fun j => if it j = it k then b j else 0) n = sumN (fun j => if k = j then b k else 0) n := by
    refine sumN_congr fun j hj => ?_
    by_cases e : it j = it k
    · have := inj j k hj hk e; subst this; rw [if_pos rfl, if_pos rfl]
    · rw [if_neg e, if_neg (fun e' => e (by rw [e']))]
  rw [this, sum_single, if_pos hk]
theorem sum_miss (b : Nat → Nat) {i : Nat} (h : ∀ k, k < n → it k ≠ i) : sumN (fun j => if it j = i then b j else 0) n = 0 := by
  rw [sumN_congr (h := fun _ => 0) (fun j hj => if_neg (h j hj)), sumN_zero]
include inj rng in
/-- A sum over symbols is one over items, where what is no item counts nothing. -/
theorem reindex (g : Nat → Nat) (h0 : ∀ i, i < N → (∀ k, k < n → it k ≠ i) → g i = 0) : sumN g N = sumN (fun k => g (it k)) n := by
  have e1 : sumN g N = sumN (fun i => sumN (fun k => if it k = i then g (it k) else 0) n) N := by
    refine sumN_congr fun i hi => ?_
    by_cases h : ∃ k, k < n ∧ it k = i
    · obtain ⟨k, hk, rfl⟩ := h
      exact (sum_hit inj (fun j => g (it j)) hk).symm
    · have h' : ∀ k, k < n → it k ≠ i := fun k hk e => h ⟨k, hk, e⟩
      rw [sum_miss (fun j => g (it j)) h', h0 i hi h']
  rw [e1, sumN_swap]
  refine sumN_congr fun k hk => ?_
  rw [sum_single, if_pos (rng k hk)]
end
theorem map_range_kraft (g : Nat → Nat) (N : Nat) : kraft ((List.range N).map g) = sumN (fun i => if g i = 0 then 0 else pw (g i)) N := by
  induction N with
  | zero => rfl
  | succ N ih => rw [List.range_succ, List.map_append, List.map_cons, List.map_nil, kraft_snoc, ih, sumN]
theorem map_range_used (g : Nat → Nat) (N : Nat) : used ((List.range N).map g) = sumN (fun i => if g i = 0 then 0 else 1) N := by
  induction N with
  | zero => rfl
  | succ N ih => rw [List.range_succ, List.map_append, List.map_cons, List.map_nil, used_snoc, ih, sumN]

/-! ### Items of frequencies -/
/-- The symbols above 0, by frequency, then by number. -/
structure Items (fr ys : List Int) : Prop where
  asc : Asc (fun x => nthI fr x.toNat) ys
  mem : ∀ i : Nat, i < fr.length → (0 < nthI fr i ↔ (i : Int) ∈ ys)
  rng : ∀ y ∈ ys, 0 ≤ y ∧ y < fr.length ∧ 0 < nthI fr y.toNat
theorem Asc.nodup {f : Int → Int} {ys : List Int} (h : Asc f ys) {j k : Nat} (hj : j < ys.length) (hk : k < ys.length) (e : nthI ys j = nthI ys k) : j = k := by
  have h' := List.pairwise_iff_getElem.1 h
  rw [nthI_el hj, nthI_el hk] at e
  rcases Nat.lt_trichotomy j k with h1 | h1 | h1
  · have := h' j k hj hk h1; rw [e] at this; exact absurd this LX.irr
  · exact h1
  · have := h' k j hk hj h1; rw [e] at this; exact absurd this LX.irr
theorem Asc.ext {f : Int → Int} : ∀ {ys zs : List Int}, Asc f ys → Asc f zs → (∀ x, x ∈ ys ↔ x ∈ zs) → ys = zs
  | [], [], _, _, _ => rfl
  | [], z :: zs, _, _, h => by have := (h z).2 List.mem_cons_self; simp at this
  | y :: ys, [], _, _, h => by have := (h y).1 List.mem_cons_self; simp at this
  | y :: ys, z :: zs, h1, h2, h => by
    have a1 := List.pairwise_cons.1 h1
    have a2 := List.pairwise_cons.1 h2
    have e : y = z := by
      have m1 := (h y).1 List.mem_cons_self
      have m2 := (h z).2 List.mem_cons_self
      rw [List.mem_cons] at m1 m2
      rcases m1 with m1 | m1
      · exact m1
      · rcases m2 with m2 | m2
        · exact m2.symm
        · exact absurd ((a1.1 z m2).trans (a2.1 y m1)) LX.irr
    subst e
    rw [Asc.ext a1.2 a2.2 fun x => ?_]
    constructor
    · intro hx
      have := (h x).1 (List.mem_cons_of_mem _ hx)
      rw [List.mem_cons] at this
      rcases this with rfl | this
      · exact absurd (a1.1 x hx) LX.irr
      · exact this
    · intro hx
      have := (h x).2 (List.mem_cons_of_mem _ hx)
      rw [List.mem_cons] at this
      rcases this with rfl | this
      · exact absurd (a2.1 x hx) LX.irr
      · exact this
theorem Items.uniq {fr ys zs : List Int} (h : Items fr ys) (k : Items fr zs) : ys = zs := by
  refine Asc.ext h.asc k.asc fun x => ?_
  constructor
  · intro hx
    obtain ⟨r1, r2, r3⟩ := h.rng x hx
    have := (k.mem x.toNat (by omega)).1 r3
    rwa [Int.toNat_of_nonneg r1] at this
  · intro hx
    obtain ⟨r1, r2, r3⟩ := k.rng x hx
    have := (h.mem x.toNat (by omega)).1 r3
    rwa [Int.toNat_of_nonneg r1] at this
def itF (ys : List Int) (k : Nat) : Nat := (nthI ys k).toNat
def wtF (fr ys : List Int) (k : Nat) : Nat := (nthI fr (itF ys k)).toNat
/-- An item's length: of L bits at most. -/
def blF (fr ys : List Int) (L k : Nat) : Nat := if ys.length = 1 then 1 else lenT (wtF fr ys) ys.length (L - 1) (2 * ys.length - 2) k
def outF (fr ys : List Int) (L i : Nat) : Nat := sumN (fun k => if itF ys k = i then blF fr ys L k else 0) ys.length
/-- The lengths of all symbols. -/
def outL (fr ys : List Int) (L : Nat) : List Nat := (List.range fr.length).map (outF fr ys L)

section
variable {fr ys : List Int} {L : Nat} (h : Items fr ys)
include h in
theorem it_inj : ∀ j k, j < ys.length → k < ys.length → itF ys j = itF ys k → j = k := by
  intro j k hj hk e
  have r1 := (h.rng (nthI ys j) (by rw [nthI_el hj]; exact List.getElem_mem hj)).1
  have r2 := (h.rng (nthI ys k) (by rw [nthI_el hk]; exact List.getElem_mem hk)).1
  unfold itF at e
  exact h.asc.nodup hj hk (by omega)
include h in
theorem it_rng : ∀ k, k < ys.length → itF ys k < fr.length ∧ 0 < nthI fr (itF ys k) := by
  intro k hk
  have r := h.rng (nthI ys k) (by rw [nthI_el hk]; exact List.getElem_mem hk)
  unfold itF
  exact ⟨by omega, r.2.2⟩
include h in
theorem wt_rises : ∀ i j, i ≤ j → j < ys.length → wtF fr ys i ≤ wtF fr ys j := by
  intro i j hij hj
  rcases Nat.lt_or_ge i j with e | e
  · have := List.pairwise_iff_getElem.1 h.asc i j (by omega) hj e
    rw [← nthI_el (by omega), ← nthI_el hj] at this
    unfold wtF itF
    unfold LX at this
    dsimp only at this
    omega
  · obtain rfl : i = j := by omega
    exact Nat.le_refl _
include h in
theorem wt_above : ∀ i, i < ys.length → 0 < wtF fr ys i := by
  intro i hi
  have := (it_rng h i hi).2
  unfold wtF; omega
include h in
theorem out_at {k : Nat} (hk : k < ys.length) : outF fr ys L (itF ys k) = blF fr ys L k := sum_hit (it_inj h) _ hk
include h in
theorem out_zero {i : Nat} (_ : i < fr.length) (h0 : nthI fr i ≤ 0) : outF fr ys L i = 0 := by
  refine sum_miss _ fun k hk e => ?_
  have := (it_rng h k hk).2
  rw [e] at this; omega
include h in
theorem item_of {i : Nat} (hi : i < fr.length) (h0 : 0 < nthI fr i) : ∃ k, k < ys.length ∧ itF ys k = i := by
  obtain ⟨k, hk, e⟩ := List.getElem_of_mem ((h.mem i hi).1 h0)
  exact ⟨k, hk, by unfold itF; rw [nthI_el hk, e]; rfl⟩
variable (hL : 1 ≤ L) (hn : ys.length ≤ 2 ^ L)
include h hL hn in
theorem bl_in {k : Nat} (hk : k < ys.length) : 1 ≤ blF fr ys L k ∧ blF fr ys L k ≤ L := by
  unfold blF
  by_cases e : ys.length = 1
  · rw [if_pos e]; omega
  · rw [if_neg e]
    have h1 := len_pos (wt_rises h) (wt_above h) (L - 1) k (by omega) (by rw [show L - 1 + 1 = L by omega]; exact hn) hk
    have h2 := len_le (f := wtF fr ys) (n := ys.length) (L - 1) (2 * ys.length - 2) k
    omega
include h hL hn in
theorem out_le (i : Nat) (hi : i < fr.length) : outF fr ys L i ≤ L := by
  by_cases h0 : 0 < nthI fr i
  · obtain ⟨k, hk, rfl⟩ := item_of h hi h0
    rw [out_at h hk]; exact (bl_in h hL hn hk).2
  · rw [out_zero h hi (by omega)]; omega
theorem outL_length : (outL fr ys L).length = fr.length := by simp [outL]
theorem outL_nth (i : Nat) (hi : i < fr.length) : nth (outL fr ys L) i = outF fr ys L i := by simp [outL, nth, hi]
include h hL hn in
theorem out_pos {i : Nat} (hi : i < fr.length) : (outF fr ys L i = 0 ↔ nthI fr i ≤ 0) := by
  constructor
  · intro e
    rcases Int.lt_or_le 0 (nthI fr i) with h0 | h0
    · obtain ⟨k, hk, rfl⟩ := item_of h hi h0
      rw [out_at h hk] at e
      have := (bl_in h hL hn hk).1; omega
    · exact h0
  · exact out_zero h hi
include h in
theorem out_sum (G : Nat → Nat → Nat) (hG : ∀ i, G i 0 = 0) : sumN (fun i => G i (outF fr ys L i)) fr.length = sumN (fun k => G (itF ys k) (blF fr ys L k)) ys.length := by
  rw [reindex (it_inj h) (fun k hk => (it_rng h k hk).1) (fun i => G i (outF fr ys L i)) (fun i hi hno => by
    have : outF fr ys L i = 0 := sum_miss _ hno
    simp only [this, hG])]
  exact sumN_congr fun k hk => by rw [out_at h hk]
include h hL hn in
/-- They are whole. -/
theorem out_kraft (hL15 : L ≤ 15) : kraft (outL fr ys L) = if ys.length = 0 then 0 else if ys.length = 1 then 16384 else 32768 := by
  unfold outL
  rw [map_range_kraft, out_sum h (fun _ x => if x = 0 then 0 else pw x) (fun _ => rfl)]
  have e : sumN (fun k => if blF fr ys L k = 0 then 0 else pw (blF fr ys L k)) ys.length = sumN (fun k => pw (blF fr ys L k)) ys.length :=
    sumN_congr fun k hk => by rw [if_neg (by have := (bl_in h hL hn hk).1; omega)]
  rw [e]
  by_cases h0 : ys.length = 0
  · rw [if_pos h0, h0]; rfl
  · rw [if_neg h0]
    by_cases h1 : ys.length = 1
    · rw [if_pos h1]
      have : ∀ k, blF fr ys L k = 1 := fun k => by unfold blF; rw [if_pos h1]
      rw [h1]
      simp only [sumN, this]; rfl
    · rw [if_neg h1]
      have hk := len_kraft (wt_rises h) (wt_above h) (L - 1) (by omega) (by rw [show L - 1 + 1 = L by omega]; exact hn)
      have e2 : sumN (fun k => pw (blF fr ys L k)) ys.length = sumN (fun k => 2 ^ (L - 1 + 1 - lenT (wtF fr ys) ys.length (L - 1) (2 * ys.length - 2) k) * 2 ^ (15 - L)) ys.length := by
        refine sumN_congr fun k hk => ?_
        have hb : blF fr ys L k = lenT (wtF fr ys) ys.length (L - 1) (2 * ys.length - 2) k := by unfold blF; rw [if_neg h1]
        have := (bl_in h hL hn hk).2
        rw [hb] at this ⊢
        unfold pw
        rw [← Nat.pow_add]
        congr 1; omega
      rw [e2, sumN_mul, hk, ← Nat.pow_add, show L - 1 + 1 + (15 - L) = 15 by omega]
include h hL hn in
theorem out_used : used (outL fr ys L) = ys.length := by
  unfold outL
  rw [map_range_used, out_sum h (fun _ x => if x = 0 then 0 else 1) (fun _ => rfl), sumN_congr (h := fun _ => 1) (fun k hk => by rw [if_neg (by have := (bl_in h hL hn hk).1; omega)]), sumN_const]; omega
include h hL hn in
/-- They may be. -/
theorem out_can (hL15 : L ≤ 15) (h320 : fr.length ≤ 320) : canE (outL fr ys L) L = 0 := by
  have hk := out_kraft h hL hn hL15
  have hu := out_used h hL hn
  unfold canE
  rw [if_neg (by omega), outL_length, if_neg (by omega), if_pos]
  · rw [hk, hu]
    by_cases h0 : ys.length = 0
    · rw [if_pos h0, if_neg (by omega), if_pos (by omega)]
    · rw [if_neg h0]
      by_cases h1 : ys.length = 1
      · rw [if_pos h1, if_neg (by omega), if_pos (by omega)]
      · rw [if_neg h1, if_neg (by omega), if_pos (by omega)]
  · rw [List.all_eq_true]
    intro x hx
    obtain ⟨i, hi, rfl⟩ := List.mem_map.1 hx
    have := out_le h hL hn i (List.mem_range.1 hi)
    exact decide_eq_true (by omega)
include h hL hn in
/-- No others cost less. -/
theorem out_least (hL15 : L ≤ 15) (o : List Nat) (ho : ∀ i, i < fr.length → nth o i ≤ L ∧ (0 < nthI fr i → nth o i ≠ 0)) (hk : sumN (fun i => if nth o i = 0 then 0 else pw (nth o i)) fr.length ≤ 32768) :
    sumN (fun i => (nthI fr i).toNat * outF fr ys L i) fr.length ≤ sumN (fun i => (nthI fr i).toNat * nth o i) fr.length := by
  rw [out_sum h (fun i x => (nthI fr i).toNat * x) (fun i => Nat.mul_zero _)]
  rw [reindex (it_inj h) (fun k hk => (it_rng h k hk).1) (fun i => (nthI fr i).toNat * nth o i) (fun i hi hno => by
    have : ¬ 0 < nthI fr i := fun h0 => by
      obtain ⟨k, hk, e⟩ := item_of h hi h0
      exact hno k hk e
    rw [show (nthI fr i).toNat = 0 by omega, Nat.zero_mul])]
  by_cases h0 : ys.length = 0
  · rw [h0]; exact Nat.le_refl _
  by_cases h1 : ys.length = 1
  · refine sumN_le fun k hk' => ?_
    have : blF fr ys L k = 1 := by unfold blF; rw [if_pos h1]
    rw [this]
    have r := it_rng h k hk'
    have := (ho (itF ys k) r.1).2 r.2
    exact Nat.mul_le_mul_left _ (by omega)
  · have e1 : sumN (fun k => (nthI fr (itF ys k)).toNat * blF fr ys L k) ys.length = sumN (fun k => lenT (wtF fr ys) ys.length (L - 1) (2 * ys.length - 2) k * wtF fr ys k) ys.length :=
      sumN_congr fun k _ => by unfold blF; rw [if_neg h1, Nat.mul_comm]; rfl
    have e2 : sumN (fun k => (nthI fr (itF ys k)).toNat * nth o (itF ys k)) ys.length = sumN (fun k => nth o (itF ys k) * wtF fr ys k) ys.length :=
      sumN_congr fun k _ => by rw [Nat.mul_comm]; rfl
    rw [e1, e2]
    refine len_least (wt_rises h) (L - 1) (fun k => nth o (itF ys k)) (by omega) (by rw [show L - 1 + 1 = L by omega]; exact hn) (fun k hk' => by have := (ho (itF ys k) (it_rng h k hk').1).1; omega) ?_
    have hle : sumN (fun k => pw (nth o (itF ys k))) ys.length ≤ 32768 := by
      refine Nat.le_trans ?_ hk
      have := reindex (it_inj h) (fun k hk => (it_rng h k hk).1) (fun i => if 0 < nthI fr i then (if nth o i = 0 then 0 else pw (nth o i)) else 0) (fun i hi hno => by
        have : ¬ 0 < nthI fr i := fun h0 => by
          obtain ⟨k, hk, e⟩ := item_of h hi h0
          exact hno k hk e
        exact if_neg this)
      have e3 : sumN (fun k => pw (nth o (itF ys k))) ys.length = sumN (fun k => if 0 < nthI fr (itF ys k) then (if nth o (itF ys k) = 0 then 0 else pw (nth o (itF ys k))) else 0) ys.length :=
        sumN_congr fun k hk' => by
          have r := it_rng h k hk'
          rw [if_pos r.2, if_neg ((ho (itF ys k) r.1).2 r.2)]
      rw [e3, ← this]
      exact sumN_le fun i _ => by split <;> omega
    have e4 : sumN (fun k => pw (nth o (itF ys k))) ys.length = sumN (fun k => 2 ^ (L - 1 + 1 - nth o (itF ys k))) ys.length * 2 ^ (15 - L) := by
      rw [← sumN_mul]
      refine sumN_congr fun k hk' => ?_
      have := (ho (itF ys k) (it_rng h k hk').1).1
      unfold pw
      rw [← Nat.pow_add]
      congr 1; omega
    rw [e4] at hle
    have e5 : (32768 : Nat) = 2 ^ (L - 1 + 1) * 2 ^ (15 - L) := by
      rw [← Nat.pow_add, show L - 1 + 1 + (15 - L) = 15 by omega]
    rw [e5] at hle
    exact Nat.le_of_mul_le_mul_right hle (Nat.two_pow_pos _)
end

/-! ### All frequencies times a number -/
theorem wt_scale (c : Nat) (f : Nat → Nat) : ∀ x, wtT (fun k => c * f k) x = c * wtT f x
  | .leaf _ => rfl
  | .node a b => by rw [wtT, wtT, wt_scale c f a, wt_scale c f b, Nat.mul_add]
theorem le_scale {c : Nat} (hc : 0 < c) (f : Nat → Nat) : leT (fun k => c * f k) = leT f := by
  funext a b
  unfold leT
  rw [wt_scale, wt_scale, Bool.eq_iff_iff, decide_eq_true_iff, decide_eq_true_iff]
  exact ⟨fun h => Nat.le_of_mul_le_mul_left h hc, fun h => Nat.mul_le_mul_left c h⟩
theorem row_scale {c : Nat} (hc : 0 < c) (f : Nat → Nat) (n : Nat) : ∀ t, rowTr (fun k => c * f k) n t = rowTr f n t
  | 0 => rfl
  | t + 1 => by rw [rowTr, rowTr, le_scale hc, row_scale hc f n t]
theorem sel_scale {c : Nat} (hc : 0 < c) (f : Nat → Nat) (n : Nat) : ∀ t m, selT (fun k => c * f k) n t m = selT f n t m
  | 0, m => by simp only [selT, prT, row_scale hc]
  | t + 1, m => by
    have e : prT (fun k => c * f k) n (t + 1) m = prT f n (t + 1) m := by simp only [prT, row_scale hc]
    rw [selT, selT, e, sel_scale hc f n t]
theorem out_scale {c : Nat} (hc : 0 < c) {fr gr ys : List Int} (h : ∀ i, (nthI gr i).toNat = c * (nthI fr i).toNat) (hlen : gr.length = fr.length) (L : Nat) : outL gr ys L = outL fr ys L := by
  have e : wtF gr ys = fun k => c * wtF fr ys k := by funext k; exact h _
  unfold outL
  rw [hlen]
  congr 1
  funext i
  unfold outF
  congr 1
  funext k
  unfold blF lenT
  rw [e, sel_scale hc]
theorem Items.scale {c : Int} (hc : 0 < c) {fr gr ys : List Int} (h : ∀ i, nthI gr i = c * nthI fr i) (hlen : gr.length = fr.length) (hi : Items fr ys) : Items gr ys := by
  have pos : ∀ i, 0 < nthI gr i ↔ 0 < nthI fr i := fun i => by
    rw [h]
    refine ⟨fun h0 => ?_, fun h0 => Int.mul_pos hc h0⟩
    rcases Int.lt_or_le 0 (nthI fr i) with h1 | h1
    · exact h1
    · have := Int.mul_nonpos_of_nonneg_of_nonpos (Int.le_of_lt hc) h1
      omega
  refine ⟨hi.asc.imp ?_, fun i hl => by rw [pos]; exact hi.mem i (by omega), fun y hy => ?_⟩
  · intro a b hab
    unfold LX at hab ⊢
    dsimp only at hab ⊢
    rw [h, h]
    rcases hab with hab | hab
    · exact .inl (Int.mul_lt_mul_of_pos_left hab hc)
    · exact .inr ⟨by rw [hab.1], hab.2⟩
  · obtain ⟨r1, r2, r3⟩ := hi.rng y hy
    exact ⟨r1, by omega, by rw [pos]; exact r3⟩
end Go.Proofs.Ytahboomghjdjhaa

/-
  Plain: items put in order one by one; items collected, then put in order. No program in sight.
-/
namespace Go.Proofs.Ytahboomghjdjhaa

/-- The items among the first i symbols, in order. -/
structure ItemsN (fr : List Int) (i : Nat) (out : List Int) : Prop where
  asc : Asc (fun x => nthI fr x.toNat) out
  mem : ∀ j : Nat, j < i → j < fr.length → (0 < nthI fr j ↔ (j : Int) ∈ out)
  rng : ∀ y ∈ out, 0 ≤ y ∧ y < i ∧ y < fr.length ∧ 0 < nthI fr y.toNat
theorem ItemsN.zero (fr : List Int) : ItemsN fr 0 [] := ⟨List.Pairwise.nil, fun j h => by omega, fun y h => by simp at h⟩
theorem ItemsN.full {fr out : List Int} (h : ItemsN fr fr.length out) : Items fr out :=
  ⟨h.asc, fun i hi => h.mem i hi hi, fun y hy => by obtain ⟨a, b, c, d⟩ := h.rng y hy; exact ⟨a, c, d⟩⟩
theorem ItemsN.skip {fr out : List Int} {i : Nat} (h : ItemsN fr i out) (h0 : ¬ 0 < nthI fr i) : ItemsN fr (i + 1) out :=
  ⟨h.asc, fun j hj hl => by
    by_cases e : j = i
    · subst e
      refine ⟨fun h1 => absurd h1 h0, fun h1 => ?_⟩
      have := (h.rng _ h1).2.1; omega
    · exact h.mem j (by omega) hl, fun y hy => by obtain ⟨a, b, c, d⟩ := h.rng y hy; exact ⟨a, by omega, c, d⟩⟩
theorem ItemsN.put {fr out : List Int} {i at_ : Nat} (h : ItemsN fr i out) (hi : i < fr.length) (h0 : 0 < nthI fr i) (ha : at_ ≤ out.length)
    (hlo : 0 < at_ → nthI fr (nthI out (at_ - 1)).toNat ≤ nthI fr i) (hup : ∀ t, at_ ≤ t → t < out.length → nthI fr i < nthI fr (nthI out t).toNat) : ItemsN fr (i + 1) (out.take at_ ++ (i : Int) :: out.drop at_) := by
  have hmem : ∀ x, x ∈ out.take at_ ++ (i : Int) :: out.drop at_ ↔ x = i ∨ x ∈ out := by
    intro x
    have e : x ∈ out ↔ x ∈ out.take at_ ∨ x ∈ out.drop at_ := by rw [← List.mem_append, List.take_append_drop]
    rw [List.mem_append, List.mem_cons, e]
    constructor
    · rintro (h | h | h) <;> simp [h]
    · rintro (h | h | h) <;> simp [h]
  have hout := List.pairwise_iff_getElem.1 h.asc
  refine ⟨?_, fun j hj hl => ?_, fun y hy => ?_⟩
  · unfold Asc
    rw [List.pairwise_append]
    refine ⟨h.asc.sublist (List.take_sublist _ _), List.pairwise_cons.2 ⟨fun y hy => ?_, h.asc.sublist (List.drop_sublist _ _)⟩, fun x hx y hy => ?_⟩
    · obtain ⟨t, ht, e⟩ := List.getElem_of_mem hy
      rw [List.getElem_drop] at e
      rw [List.length_drop] at ht
      have := hup (at_ + t) (by omega) (by omega)
      rw [nthI_el (ys := out) (i := at_ + t) (by omega), e] at this
      exact .inl (by simpa using this)
    · obtain ⟨t, ht, e⟩ := List.getElem_of_mem hx
      rw [List.getElem_take] at e
      rw [List.length_take] at ht
      rw [List.mem_cons] at hy
      rcases hy with rfl | hy
      · have h1 := hlo (by omega)
        have h2 : nthI fr x.toNat ≤ nthI fr (nthI out (at_ - 1)).toNat := by
          by_cases e2 : t = at_ - 1
          · subst e2; rw [nthI_el (ys := out) (i := at_ - 1) (by omega), e]; exact Int.le_refl _
          · have := hout t (at_ - 1) (by omega) (by omega) (by omega)
            rw [e] at this
            rw [nthI_el (ys := out) (i := at_ - 1) (by omega)]
            unfold LX at this
            dsimp only at this
            omega
        have h3 := (h.rng x (List.mem_of_mem_take hx)).2.1
        unfold LX
        dsimp only
        rw [Int.toNat_natCast]
        omega
      · obtain ⟨u, hu, e2⟩ := List.getElem_of_mem hy
        rw [List.getElem_drop] at e2
        rw [List.length_drop] at hu
        have := hout t (at_ + u) (by omega) (by omega) (by omega)
        rwa [e, e2] at this
  · rw [hmem]
    by_cases e : j = i
    · subst e; exact ⟨fun _ => .inl rfl, fun _ => h0⟩
    · rw [h.mem j (by omega) hl]
      exact ⟨fun h1 => .inr h1, fun h1 => h1.resolve_left (by omega)⟩
  · rw [hmem] at hy
    rcases hy with rfl | hy
    · exact ⟨by omega, by omega, by omega, by rw [Int.toNat_natCast]; exact h0⟩
    · obtain ⟨a, b, c, d⟩ := h.rng y hy; exact ⟨a, by omega, c, d⟩
/-- The items among the first i symbols, by number. -/
structure PosN (fr : List Int) (i : Nat) (out : List Int) : Prop where
  up : out.Pairwise (· < ·)
  mem : ∀ j : Nat, j < i → j < fr.length → (0 < nthI fr j ↔ (j : Int) ∈ out)
  rng : ∀ y ∈ out, 0 ≤ y ∧ y < i ∧ y < fr.length ∧ 0 < nthI fr y.toNat
theorem PosN.zero (fr : List Int) : PosN fr 0 [] := ⟨List.Pairwise.nil, fun j h => by omega, fun y h => by simp at h⟩
theorem PosN.skip {fr out : List Int} {i : Nat} (h : PosN fr i out) (h0 : ¬ 0 < nthI fr i) : PosN fr (i + 1) out :=
  ⟨h.up, fun j hj hl => by
    by_cases e : j = i
    · subst e
      refine ⟨fun h1 => absurd h1 h0, fun h1 => ?_⟩
      have := (h.rng _ h1).2.1; omega
    · exact h.mem j (by omega) hl, fun y hy => by obtain ⟨a, b, c, d⟩ := h.rng y hy; exact ⟨a, by omega, c, d⟩⟩
theorem PosN.put {fr out : List Int} {i : Nat} (h : PosN fr i out) (hi : i < fr.length) (h0 : 0 < nthI fr i) : PosN fr (i + 1) (out ++ [(i : Int)]) := by
  refine ⟨List.pairwise_append.2 ⟨h.up, by simp, fun x hx y hy => ?_⟩, fun j hj hl => ?_, fun y hy => ?_⟩
  · simp only [List.mem_cons, List.not_mem_nil, or_false] at hy
    subst hy; exact (h.rng x hx).2.1
  · rw [List.mem_append, List.mem_singleton]
    by_cases e : j = i
    · subst e; exact ⟨fun _ => .inr rfl, fun _ => h0⟩
    · rw [h.mem j (by omega) hl]
      exact ⟨fun h1 => .inl h1, fun h1 => h1.resolve_right (by omega)⟩
  · rw [List.mem_append, List.mem_singleton] at hy
    rcases hy with hy | rfl
    · obtain ⟨a, b, c, d⟩ := h.rng y hy; exact ⟨a, by omega, c, d⟩
    · exact ⟨by omega, by omega, by omega, by rw [Int.toNat_natCast]; exact h0⟩
theorem PosN.len {fr out : List Int} {i : Nat} (h : PosN fr i out) : out.length ≤ i := by
  -- each stands above as many as are ahead of it
  have key : ∀ t, (ht : t < out.length) → (t : Int) ≤ out[t] := by
    intro t
    induction t with
    | zero => intro ht; exact (h.rng _ (List.getElem_mem ht)).1
    | succ t ih =>
      intro ht
      have := List.pairwise_iff_getElem.1 h.up t (t + 1) (by omega) ht (by omega)
      have := ih (by omega)
      omega
  rcases Nat.eq_zero_or_pos out.length with h0 | h0
  · omega
  · have h1 := key (out.length - 1) (by omega)
    have h2 := (h.rng _ (List.getElem_mem (show out.length - 1 < out.length by omega))).2.1
    omega
theorem PosN.sorted {fr out ys : List Int} (h : PosN fr fr.length out) (hp : List.Perm ys out) (ha : Asc (fun x => nthI fr x.toNat) ys) : Items fr ys :=
  ⟨ha, fun i hi => by rw [hp.mem_iff]; exact h.mem i hi hi, fun y hy => by obtain ⟨a, b, c, d⟩ := h.rng y (hp.subset hy); exact ⟨a, c, d⟩⟩
theorem PosN.rises {fr out : List Int} {i : Nat} (h : PosN fr i out) : ∀ p q, p < q → q < out.length → nthI out p < nthI out q := fun p q h1 h2 => by
  have := List.pairwise_iff_getElem.1 h.up p q (by omega) h2 h1
  rwa [nthI_el (by omega), nthI_el h2]
end Go.Proofs.Ytahboomghjdjhaa
