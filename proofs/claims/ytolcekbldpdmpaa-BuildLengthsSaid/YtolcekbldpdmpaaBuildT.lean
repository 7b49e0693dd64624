/-
  Plain: items put in order one by one; items collected, then put in order. No program in sight.
-/
import Derived.Test.YtolcekbldpdmpaaBuildR
namespace Go.Proofs.Ytolcekbldpdmpaa

/-- The items among the first i symbols, in order. -/
structure ItemsN (fr : List Int) (i : Nat) (out : List Int) : Prop where
  asc : Asc (fun x => nthI fr x.toNat) out
  mem : ∀ j : Nat, j < i → j < fr.length → (0 < nthI fr j ↔ (j : Int) ∈ out)
  rng : ∀ y ∈ out, 0 ≤ y ∧ y < i ∧ y < fr.length ∧ 0 < nthI fr y.toNat
theorem ItemsN.zero (fr : List Int) : ItemsN fr 0 [] := ⟨List.Pairwise.nil, fun j h => by omega, fun y h => by simp at h⟩
theorem ItemsN.full {fr out : List Int} (h : ItemsN fr fr.length out) : Items fr out :=
  ⟨h.asc, fun i hi => h.mem i hi hi, fun y hy => by obtain ⟨a, b, c, d⟩ := h.rng y hy; exact ⟨a, c, d⟩⟩
theorem ItemsN.skip {fr out : List Int} {i : Nat} (h : ItemsN fr i out) (h0 : ¬ 0 < nthI fr i) : ItemsN fr (i + 1) out :=
  ⟨h.asc, fun j hj hl => by
    by_cases e : j = i
    · subst e
      refine ⟨fun h1 => absurd h1 h0, fun h1 => ?_⟩
      have := (h.rng _ h1).2.1; omega
    · exact h.mem j (by omega) hl, fun y hy => by obtain ⟨a, b, c, d⟩ := h.rng y hy; exact ⟨a, by omega, c, d⟩⟩
theorem ItemsN.put {fr out : List Int} {i at_ : Nat} (h : ItemsN fr i out) (hi : i < fr.length) (h0 : 0 < nthI fr i) (ha : at_ ≤ out.length)
    (hlo : 0 < at_ → nthI fr (nthI out (at_ - 1)).toNat ≤ nthI fr i) (hup : ∀ t, at_ ≤ t → t < out.length → nthI fr i < nthI fr (nthI out t).toNat) : ItemsN fr (i + 1) (out.take at_ ++ (i : Int) :: out.drop at_) := by
  have hmem : ∀ x, x ∈ out.take at_ ++ (i : Int) :: out.drop at_ ↔ x = i ∨ x ∈ out := by
    intro x
    have e : x ∈ out ↔ x ∈ out.take at_ ∨ x ∈ out.drop at_ := by rw [← List.mem_append, List.take_append_drop]
    rw [List.mem_append, List.mem_cons, e]
    constructor
    · rintro (h | h | h) <;> simp [h]
    · rintro (h | h | h) <;> simp [h]
  have hout := List.pairwise_iff_getElem.1 h.asc
  refine ⟨?_, fun j hj hl => ?_, fun y hy => ?_⟩
  · unfold Asc
    rw [List.pairwise_append]
    refine ⟨h.asc.sublist (List.take_sublist _ _), List.pairwise_cons.2 ⟨fun y hy => ?_, h.asc.sublist (List.drop_sublist _ _)⟩, fun x hx y hy => ?_⟩
    · obtain ⟨t, ht, e⟩ := List.getElem_of_mem hy
      rw [List.getElem_drop] at e
      rw [List.length_drop] at ht
      have := hup (at_ + t) (by omega) (by omega)
      rw [nthI_el (ys := out) (i := at_ + t) (by omega), e] at this
      exact .inl (by simpa using this)
    · obtain ⟨t, ht, e⟩ := List.getElem_of_mem hx
      rw [List.getElem_take] at e
      rw [List.length_take] at ht
      rw [List.mem_cons] at hy
      rcases hy with rfl | hy
      · have h1 := hlo (by omega)
        have h2 : nthI fr x.toNat ≤ nthI fr (nthI out (at_ - 1)).toNat := by
          by_cases e2 : t = at_ - 1
          · subst e2; rw [nthI_el (ys := out) (i := at_ - 1) (by omega), e]; exact Int.le_refl _
          · have := hout t (at_ - 1) (by omega) (by omega) (by omega)
            rw [e] at this
            rw [nthI_el (ys := out) (i := at_ - 1) (by omega)]
            unfold LX at this
            dsimp only at this
            omega
        have h3 := (h.rng x (List.mem_of_mem_take hx)).2.1
        unfold LX
        dsimp only
        rw [Int.toNat_natCast]
        omega
      · obtain ⟨u, hu, e2⟩ := List.getElem_of_mem hy
        rw [List.getElem_drop] at e2
        rw [List.length_drop] at hu
        have := hout t (at_ + u) (by omega) (by omega) (by omega)
        rwa [e, e2] at this
  · rw [hmem]
    by_cases e : j = i
    · subst e; exact ⟨fun _ => .inl rfl, fun _ => h0⟩
    · rw [h.mem j (by omega) hl]
      exact ⟨fun h1 => .inr h1, fun h1 => h1.resolve_left (by omega)⟩
  · rw [hmem] at hy
    rcases hy with rfl | hy
    · exact ⟨by omega, by omega, by omega, by rw [Int.toNat_natCast]; exact h0⟩
    · obtain ⟨a, b, c, d⟩ := h.rng y hy; exact ⟨a, by omega, c, d⟩
/-- The items among the first i symbols, by number. -/
structure PosN (fr : List Int) (i : Nat) (out : List Int) : Prop where
  up : out.Pairwise (· < ·)
  mem : ∀ j : Nat, j < i → j < fr.length → (0 < nthI fr j ↔ (j : Int) ∈ out)
  rng : ∀ y ∈ out, 0 ≤ y ∧ y < i ∧ y < fr.length ∧ 0 < nthI fr y.toNat
theorem PosN.zero (fr : List Int) : PosN fr 0 [] := ⟨List.Pairwise.nil, fun j h => by omega, fun y h => by simp at h⟩
theorem PosN.skip {fr out : List Int} {i : Nat} (h : PosN fr i out) (h0 : ¬ 0 < nthI fr i) : PosN fr (i + 1) out :=
  ⟨h.up, fun j hj hl => by
    by_cases e : j = i
    · subst e
      refine ⟨fun h1 => absurd h1 h0, fun h1 => ?_⟩
      have := (h.rng _ h1).2.1; omega
    · exact h.mem j (by omega) hl, fun y hy => by obtain ⟨a, b, c, d⟩ := h.rng y hy; exact ⟨a, by omega, c, d⟩⟩
theorem PosN.put {fr out : List Int} {i : Nat} (h : PosN fr i out) (hi : i < fr.length) (h0 : 0 < nthI fr i) : PosN fr (i + 1) (out ++ [(i : Int)]) := by
  refine ⟨List.pairwise_append.2 ⟨h.up, by simp, fun x hx y hy => ?_⟩, fun j hj hl => ?_, fun y hy => ?_⟩
  · simp only [List.mem_cons, List.not_mem_nil, or_false] at hy
    subst hy; exact (h.rng x hx).2.1
  · rw [List.mem_append, List.mem_singleton]
    by_cases e : j = i
    · subst e; exact ⟨fun _ => .inr rfl, fun _ => h0⟩
    · rw [h.mem j (by omega) hl]
      exact ⟨fun h1 => .inl h1, fun h1 => h1.resolve_right (by omega)⟩
  · rw [List.mem_append, List.mem_singleton] at hy
    rcases hy with hy | rfl
    · obtain ⟨a, b, c, d⟩ := h.rng y hy; exact ⟨a, by omega, c, d⟩
    · exact ⟨by omega, by omega, by omega, by rw [Int.toNat_natCast]; exact h0⟩
theorem PosN.len {fr out : List Int} {i : Nat} (h : PosN fr i out) : out.length ≤ i := by
  -- each stands above as many as are ahead of it
  have key : ∀ t, (ht : t < out.length) → (t : Int) ≤ out[t] := by
    intro t
    induction t with
    | zero => intro ht; exact (h.rng _ (List.getElem_mem ht)).1
    | succ t ih =>
      intro ht
      have := List.pairwise_iff_getElem.1 h.up t (t + 1) (by omega) ht (by omega)
      have := ih (by omega)
      omega
  rcases Nat.eq_zero_or_pos out.length with h0 | h0
  · omega
  · have h1 := key (out.length - 1) (by omega)
    have h2 := (h.rng _ (List.getElem_mem (show out.length - 1 < out.length by omega))).2.1
    omega
theorem PosN.sorted {fr out ys : List Int} (h : PosN fr fr.length out) (hp : List.Perm ys out) (ha : Asc (fun x => nthI fr x.toNat) ys) : Items fr ys :=
  ⟨ha, fun i hi => by rw [hp.mem_iff]; exact h.mem i hi hi, fun y hy => by obtain ⟨a, b, c, d⟩ := h.rng y (hp.subset hy); exact ⟨a, c, d⟩⟩
theorem PosN.rises {fr out : List Int} {i : Nat} (h : PosN fr i out) : ∀ p q, p < q → q < out.length → nthI out p < nthI out q := fun p q h1 h2 => by
  have := List.pairwise_iff_getElem.1 h.up p q (by omega) h2 h1
  rwa [nthI_el (by omega), nthI_el h2]
end Go.Proofs.Ytolcekbldpdmpaa
