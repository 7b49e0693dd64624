/-
  Plain: blocks in order, twice as long each time; a list in order is known by what it holds. No program in sight.
-/
import Derived.Test.YtolcekbldpdmpaaSortN
namespace Go.Proofs.Ytolcekbldpdmpaa

/-- Blocks of B ahead of a, blocks of b behind it: each in order, and of earlier ones the numbers less. -/
structure MX (f : Int → Int) (ys : List Int) (n a B b : Nat) : Prop where
  o1 : ∀ i j, i < j → j < a → j < n → i / B = j / B → LX f (nthI ys i) (nthI ys j)
  s1 : ∀ i j, i < j → j < a → j < n → i / B < j / B → nthI ys i < nthI ys j
  x : ∀ i j, i < a → a ≤ j → j < n → nthI ys i < nthI ys j
  o2 : ∀ i j, a ≤ i → i < j → j < n → i / b = j / b → LX f (nthI ys i) (nthI ys j)
  s2 : ∀ i j, a ≤ i → i < j → j < n → i / b < j / b → nthI ys i < nthI ys j
structure BL (f : Int → Int) (ys : List Int) (n b : Nat) : Prop where
  o : ∀ i j, i < j → j < n → i / b = j / b → LX f (nthI ys i) (nthI ys j)
  s : ∀ i j, i < j → j < n → i / b < j / b → nthI ys i < nthI ys j
theorem div_in {q B i : Nat} (h1 : B * q ≤ i) (h2 : i < B * q + B) : i / B = q := by
  have hB : 0 < B := by omega
  rw [Nat.div_eq_iff hB]
  constructor
  · rw [Nat.mul_comm]; exact h1
  · rw [Nat.mul_comm q B]; omega
theorem div_less {q B i : Nat} (h : i < B * q) : i / B < q := by
  have hB : 0 < B := by
    rcases Nat.eq_zero_or_pos B with h0 | h0
    · subst h0; simp at h
    · exact h0
  rw [Nat.div_lt_iff_lt_mul hB, Nat.mul_comm]; exact h
theorem div_more {q B i : Nat} (hB : 0 < B) (h : B * q ≤ i) : q ≤ i / B := by
  rw [Nat.le_div_iff_mul_le hB, Nat.mul_comm]; exact h

section
variable {f : Int → Int} {ys zs : List Int} {n a B b q c : Nat}
theorem MX.first (h : ∀ i j, i < j → j < n → nthI ys i < nthI ys j) : MX f ys n 0 B 1 :=
  ⟨fun i j _ h2 => by omega, fun i j _ h2 => by omega, fun i j h1 => by omega, fun i j _ h2 _ h4 => by rw [Nat.div_one, Nat.div_one] at h4; omega, fun i j _ h2 h3 _ => h i j h2 h3⟩
theorem MX.of (h : BL f ys n b) : MX f ys n 0 B b :=
  ⟨fun i j _ h2 => by omega, fun i j _ h2 => by omega, fun i j h1 => by omega, fun i j _ => h.o i j, fun i j _ => h.s i j⟩
theorem MX.step (h : MX f ys n a B b) (hB : 0 < B) (hb : 0 < b) (ha : a = B * q) (hc : B = b * c) (hn : a + B ≤ n) (hr : RA ys zs a (a + B)) (hs : SG f zs a (a + B)) : MX f zs n (a + B) B b := by
  have hb' : a + B = b * (c * q + c) := by rw [ha, hc, Nat.mul_add, Nat.mul_assoc]
  refine ⟨fun i j h1 h2 h3 h4 => ?_, fun i j h1 h2 h3 h4 => ?_, fun i j h1 h2 h3 => ?_, fun i j h1 h2 h3 h4 => ?_, fun i j h1 h2 h3 h4 => ?_⟩
  · by_cases e : j < a
    · rw [hr.out i (by omega), hr.out j (by omega)]; exact h.o1 i j h1 e h3 h4
    · have hj : j / B = q := div_in (by omega) (by omega)
      by_cases e2 : i < a
      · have := div_less (q := q) (B := B) (i := i) (by omega); omega
      · exact hs i j (by omega) h1 h2
  · by_cases e : j < a
    · rw [hr.out i (by omega), hr.out j (by omega)]; exact h.s1 i j h1 e h3 h4
    · have hj : j / B = q := div_in (by omega) (by omega)
      by_cases e2 : i < a
      · obtain ⟨j', j1, j2, ej⟩ := hr.mem j (by omega) h2
        rw [hr.out i (by omega), ej]; exact h.x i j' e2 j1 (by omega)
      · have hi : i / B = q := div_in (by omega) (by omega)
        omega
  · by_cases e : i < a
    · rw [hr.out i (by omega), hr.out j (by omega)]; exact h.x i j e (by omega) h3
    · obtain ⟨i', j1, j2, ei⟩ := hr.mem i (by omega) h1
      rw [ei, hr.out j (by omega)]
      have d1 := div_less (q := c * q + c) (B := b) (i := i') (by omega)
      have d2 := div_more (q := c * q + c) (B := b) (i := j) hb (by omega)
      exact h.s2 i' j j1 (by omega) h3 (by omega)
  · rw [hr.out i (by omega), hr.out j (by omega)]; exact h.o2 i j (by omega) h2 h3 h4
  · rw [hr.out i (by omega), hr.out j (by omega)]; exact h.s2 i j (by omega) h2 h3 h4
theorem MX.last (h : MX f ys n a B b) (ha : a = B * q) (hn : n ≤ a + B) (hr : RA ys zs a n) (hs : SG f zs a n) : BL f zs n B := by
  refine ⟨fun i j h1 h2 h4 => ?_, fun i j h1 h2 h4 => ?_⟩
  · by_cases e : j < a
    · rw [hr.out i (by omega), hr.out j (by omega)]; exact h.o1 i j h1 e h2 h4
    · have hj : j / B = q := div_in (by omega) (by omega)
      by_cases e2 : i < a
      · have := div_less (q := q) (B := B) (i := i) (by omega); omega
      · exact hs i j (by omega) h1 h2
  · by_cases e : j < a
    · rw [hr.out i (by omega), hr.out j (by omega)]; exact h.s1 i j h1 e h2 h4
    · have hj : j / B = q := div_in (by omega) (by omega)
      by_cases e2 : i < a
      · obtain ⟨j', j1, j2, ej⟩ := hr.mem j (by omega) h2
        rw [hr.out i (by omega), ej]; exact h.x i j' e2 j1 (by omega)
      · have hi : i / B = q := div_in (by omega) (by omega)
        omega
/-- A block of b stands in order; two of them, the numbers of the first less. -/
theorem MX.block (h : MX f ys n a B b) (hb : b * c = a) (hn : a + b ≤ n) : SG f ys a (a + b) := fun i j h1 h2 h3 => by
  have e1 : i / b = c := div_in (by omega) (by omega)
  have e2 : j / b = c := div_in (by omega) (by omega)
  exact h.o2 i j h1 h2 (by omega) (by omega)
theorem MX.second (h : MX f ys n a B b) (hb : b * c = a) {e : Nat} (hn : e ≤ n) (he : e ≤ a + b + b) : SG f ys (a + b) e := fun i j h1 h2 h3 => by
  have e0 : b * (c + 1) = a + b := by rw [Nat.mul_add, hb, Nat.mul_one]
  have e1 : i / b = c + 1 := div_in (by omega) (by omega)
  have e2 : j / b = c + 1 := div_in (by omega) (by omega)
  exact h.o2 i j (by omega) h2 (by omega) (by omega)
theorem MX.apart (h : MX f ys n a B b) (hb0 : 0 < b) (hb : b * c = a) {e : Nat} (hn : e ≤ n) : SP ys a (a + b) e := fun i j h1 h2 h3 h4 => by
  have e0 : b * (c + 1) = a + b := by rw [Nat.mul_add, hb, Nat.mul_one]
  have e1 : i / b = c := div_in (by omega) (by omega)
  have e2 := div_more (q := c + 1) (B := b) (i := j) hb0 (by omega)
  exact h.s2 i j h1 (by omega) (by omega) (by omega)
/-- What is left is one block: it is in order. -/
theorem MX.rest (h : MX f ys n a B b) (hb : b * c = a) (hn : n ≤ a + b) : SG f ys a n := fun i j h1 h2 h3 => by
  have e1 : i / b = c := div_in (by omega) (by omega)
  have e2 : j / b = c := div_in (by omega) (by omega)
  exact h.o2 i j h1 h2 h3 (by omega)
theorem BL.all (h : BL f ys n b) (hn : n ≤ b) : SG f ys 0 n := fun i j _ h2 h3 => h.o i j h2 h3 (by rw [Nat.div_eq_of_lt (by omega), Nat.div_eq_of_lt (by omega)])
end

/-! ### Lists in order -/
def Asc (f : Int → Int) (ys : List Int) : Prop := ys.Pairwise (LX f)
theorem Asc.of_SG {f : Int → Int} {ys : List Int} (h : SG f ys 0 ys.length) : Asc f ys := by
  unfold Asc
  rw [List.pairwise_iff_getElem]
  intro i j hi hj hij
  have := h i j (by omega) hij hj
  rwa [nthI_el hi, nthI_el hj] at this
/-- In order, and the same ones: the same list. -/
theorem Asc.same {f : Int → Int} : ∀ {ys zs : List Int}, Asc f ys → Asc f zs → List.Perm ys zs → ys = zs
  | [], zs, _, _, h => (h.nil_eq)
  | y :: ys, [], _, _, h => by have := h.length_eq; simp at this
  | y :: ys, z :: zs, h1, h2, h => by
    have a1 := List.pairwise_cons.1 h1
    have a2 := List.pairwise_cons.1 h2
    have e : y = z := by
      have m1 : y ∈ z :: zs := h.subset (List.mem_cons_self)
      have m2 : z ∈ y :: ys := h.symm.subset (List.mem_cons_self)
      rw [List.mem_cons] at m1 m2
      rcases m1 with m1 | m1
      · exact m1
      · rcases m2 with m2 | m2
        · exact m2.symm
        · exact absurd ((a1.1 z m2).trans (a2.1 y m1)) LX.irr
    subst e
    rw [Asc.same (f := f) a1.2 a2.2 ((List.perm_cons y).1 h)]
end Go.Proofs.Ytolcekbldpdmpaa
