/-
  Plain: a stable order: places, exchanges, insertion, merging in place. No program in sight.
-/
import Derived.Test.YtolcekbldpdmpaaFrame
namespace Go.Proofs.Ytolcekbldpdmpaa

/-- By a key, then by number. -/
def LX (f : Int → Int) (x y : Int) : Prop := f x < f y ∨ f x = f y ∧ x < y
theorem LX.trans {f : Int → Int} {x y z : Int} (h : LX f x y) (k : LX f y z) : LX f x z := by unfold LX at *; omega
theorem LX.irr {f : Int → Int} {x : Int} : ¬ LX f x x := by unfold LX; omega
theorem LX.tot {f : Int → Int} {x y : Int} (h : x ≠ y) : LX f x y ∨ LX f y x := by unfold LX; omega
/-- A stretch in order; two stretches, of one the numbers less. -/
def SG (f : Int → Int) (ys : List Int) (lo hi : Nat) : Prop := ∀ i j, lo ≤ i → i < j → j < hi → LX f (nthI ys i) (nthI ys j)
def SP (ys : List Int) (lo m hi : Nat) : Prop := ∀ i j, lo ≤ i → i < m → m ≤ j → j < hi → nthI ys i < nthI ys j
/-- A stretch rearranged. -/
structure RA (xs ys : List Int) (lo hi : Nat) : Prop where
  perm : List.Perm ys xs
  out : ∀ i, i < lo ∨ hi ≤ i → nthI ys i = nthI xs i
  mem : ∀ i, lo ≤ i → i < hi → ∃ j, lo ≤ j ∧ j < hi ∧ nthI ys i = nthI xs j
theorem RA.refl (xs : List Int) (lo hi : Nat) : RA xs xs lo hi := ⟨List.Perm.refl _, fun _ _ => rfl, fun i h1 h2 => ⟨i, h1, h2, rfl⟩⟩
theorem RA.trans {xs ys zs : List Int} {lo hi : Nat} (h : RA xs ys lo hi) (k : RA ys zs lo hi) : RA xs zs lo hi :=
  ⟨k.perm.trans h.perm, fun i hi => (k.out i hi).trans (h.out i hi), fun i h1 h2 => by
    obtain ⟨j, j1, j2, e⟩ := k.mem i h1 h2
    obtain ⟨q, q1, q2, e2⟩ := h.mem j j1 j2
    exact ⟨q, q1, q2, e.trans e2⟩⟩
theorem RA.wide {xs ys : List Int} {lo hi lo' hi' : Nat} (h : RA xs ys lo hi) (h1 : lo' ≤ lo) (h2 : hi ≤ hi') : RA xs ys lo' hi' :=
  ⟨h.perm, fun i hi => h.out i (by omega), fun i i1 i2 => by
    by_cases e : i < lo ∨ hi ≤ i
    · exact ⟨i, i1, i2, h.out i e⟩
    · obtain ⟨j, j1, j2, e2⟩ := h.mem i (by omega) (by omega)
      exact ⟨j, by omega, by omega, e2⟩⟩
theorem RA.len {xs ys : List Int} {lo hi : Nat} (h : RA xs ys lo hi) : ys.length = xs.length := h.perm.length_eq
/-- Two exchanged. -/
def swapI (ys : List Int) (i j : Nat) : List Int := (ys.set i (nthI ys j)).set j (nthI ys i)
theorem nthI_set (ys : List Int) (i k : Nat) (v : Int) (h : i < ys.length) : nthI (ys.set i v) k = if k = i then v else nthI ys k := by
  unfold nthI
  rw [List.getElem?_set]
  by_cases e : i = k
  · subst e; simp [h]
  · rw [if_neg e, if_neg (fun e' => e e'.symm)]
theorem swapI_get (ys : List Int) (i j k : Nat) (hi : i < ys.length) (hj : j < ys.length) : nthI (swapI ys i j) k = if k = j then nthI ys i else if k = i then nthI ys j else nthI ys k := by
  unfold swapI
  rw [nthI_set _ _ _ _ (by rw [List.length_set]; exact hj), nthI_set _ _ _ _ hi]
theorem swapI_length (ys : List Int) (i j : Nat) : (swapI ys i j).length = ys.length := by simp [swapI]
theorem nthI_el {ys : List Int} {i : Nat} (h : i < ys.length) : nthI ys i = ys[i] := by simp [nthI, List.getElem?_eq_getElem h]
theorem swapI_perm (ys : List Int) (i j : Nat) (hi : i < ys.length) (hj : j < ys.length) : List.Perm (swapI ys i j) ys := by
  unfold swapI
  rw [nthI_el hi, nthI_el hj]
  exact List.set_set_perm hi hj
theorem RA.swap {ys : List Int} {lo hi i j : Nat} (h1 : lo ≤ i) (h2 : i < hi) (h3 : lo ≤ j) (h4 : j < hi) (h5 : hi ≤ ys.length) : RA ys (swapI ys i j) lo hi :=
  ⟨swapI_perm ys i j (by omega) (by omega), fun k hk => by rw [swapI_get _ _ _ _ (by omega) (by omega), if_neg (by omega), if_neg (by omega)], fun k k1 k2 => by
    rw [swapI_get _ _ _ _ (by omega) (by omega)]
    by_cases e : k = j
    · rw [if_pos e]; exact ⟨i, h1, h2, rfl⟩
    · rw [if_neg e]
      by_cases e2 : k = i
      · rw [if_pos e2]; exact ⟨j, h3, h4, rfl⟩
      · rw [if_neg e2]; exact ⟨k, k1, k2, rfl⟩⟩

/-! ### Insertion: e, from place i, has come to place j -/
structure InsAt (f : Int → Int) (zs : List Int) (a j i : Nat) (e : Int) : Prop where
  at_ : nthI zs j = e
  ord : ∀ p q, a ≤ p → p < q → q ≤ i → p ≠ j → q ≠ j → LX f (nthI zs p) (nthI zs q)
  up : ∀ q, j < q → q ≤ i → LX f e (nthI zs q)
theorem InsAt.start {f : Int → Int} {zs : List Int} {a i : Nat} (h : SG f zs a i) : InsAt f zs a i i (nthI zs i) :=
  ⟨rfl, fun p q h1 h2 h3 h4 h5 => h p q h1 h2 (by omega), fun q h1 h2 => by omega⟩
theorem InsAt.step {f : Int → Int} {zs : List Int} {a j i : Nat} {e : Int} (h : InsAt f zs a (j + 1) i e) (ha : a ≤ j) (hji : j + 1 ≤ i) (hl : i < zs.length) (hlt : LX f e (nthI zs j)) : InsAt f (swapI zs (j + 1) j) a j i e := by
  have g : ∀ k, nthI (swapI zs (j + 1) j) k = if k = j then nthI zs (j + 1) else if k = j + 1 then nthI zs j else nthI zs k := fun k => swapI_get zs (j + 1) j k (by omega) (by omega)
  refine ⟨by rw [g, if_pos rfl]; exact h.at_, fun p q h1 h2 h3 h4 h5 => ?_, fun q h1 h2 => ?_⟩
  · rw [g, g, if_neg h4, if_neg h5]
    by_cases e1 : p = j + 1
    · rw [if_pos e1, if_neg (by omega)]
      exact h.ord j q ha (by omega) h3 (by omega) (by omega)
    · rw [if_neg e1]
      by_cases e2 : q = j + 1
      · rw [if_pos e2]
        exact h.ord p j h1 (by omega) (by omega) (by omega) (by omega)
      · rw [if_neg e2]
        exact h.ord p q h1 h2 h3 e1 e2
  · rw [g, if_neg (by omega)]
    by_cases e1 : q = j + 1
    · rw [if_pos e1]; exact hlt
    · rw [if_neg e1]; exact h.up q (by omega) h2
theorem InsAt.done {f : Int → Int} {zs : List Int} {a j i : Nat} {e : Int} (h : InsAt f zs a j i e) (hlo : a < j → LX f (nthI zs (j - 1)) e) : SG f zs a (i + 1) := by
  intro p q h1 h2 h3
  by_cases e1 : p = j
  · subst e1; rw [h.at_]; exact h.up q h2 (by omega)
  · by_cases e2 : q = j
    · subst e2
      rw [h.at_]
      by_cases e3 : p = q - 1
      · subst e3; exact hlo (by omega)
      · exact (h.ord p (q - 1) h1 (by omega) (by omega) e1 (by omega)).trans (hlo (by omega))
    · exact h.ord p q h1 h2 (by omega) e1 e2
end Go.Proofs.Ytolcekbldpdmpaa
