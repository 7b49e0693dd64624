/-
  Plain: the runs of lengths, and the lengths of runs. No program in sight.
-/
import Derived.Test.YtcifmbcchgdplaaFrame
namespace Go.Proofs.Ytcifmbcchgdplaa

/-- How many stand from a place on that are as it. -/
def sameN (l : List Nat) (a : Nat) : Nat := ((l.drop a).takeWhile (fun x => x == nth l a)).length

theorem tw_in {p : Nat → Bool} : ∀ (m : List Nat) (k : Nat), k < (m.takeWhile p).length → ∃ x, m[k]? = some x ∧ p x = true
  | [], k, h => by simp at h
  | a :: m, k, h => by
    by_cases hp : p a = true
    · rw [List.takeWhile_cons_of_pos hp] at h
      cases k with
      | zero => exact ⟨a, rfl, hp⟩
      | succ k =>
        obtain ⟨x, hx, hx2⟩ := tw_in m k (by simpa using h)
        exact ⟨x, by simpa using hx, hx2⟩
    · rw [List.takeWhile_cons_of_neg hp] at h; simp at h
theorem tw_out {p : Nat → Bool} : ∀ (m : List Nat) (x : Nat), m[(m.takeWhile p).length]? = some x → p x = false
  | [], x, h => by simp at h
  | a :: m, x, h => by
    by_cases hp : p a = true
    · rw [List.takeWhile_cons_of_pos hp] at h
      exact tw_out m x (by simpa using h)
    · rw [List.takeWhile_cons_of_neg hp] at h
      simp only [List.length_nil, List.getElem?_cons_zero, Option.some.injEq] at h
      subst h; simpa using hp

theorem sameN_in {l : List Nat} {a n : Nat} (h : n < sameN l a) : a + n < l.length ∧ nth l (a + n) = nth l a := by
  obtain ⟨x, hx, hp⟩ := tw_in _ n h
  rw [List.getElem?_drop] at hx
  have hlt : a + n < l.length := by
    rcases Nat.lt_or_ge (a + n) l.length with h | h
    · exact h
    · rw [List.getElem?_eq_none h] at hx; cases hx
  refine ⟨hlt, ?_⟩
  have : nth l (a + n) = x := by unfold nth; rw [hx]; rfl
  rw [this]; exact beq_iff_eq.1 hp
theorem sameN_out (l : List Nat) (a : Nat) (h : a + sameN l a < l.length) : nth l (a + sameN l a) ≠ nth l a := by
  have := tw_out (p := fun x => x == nth l a) (l.drop a) (l[a + sameN l a]) (by
    rw [List.getElem?_drop]
    exact List.getElem?_eq_getElem h)
  have e : nth l (a + sameN l a) = l[a + sameN l a] := by unfold nth; rw [List.getElem?_eq_getElem h]; rfl
  rw [e]
  exact fun he => by rw [he] at this; simp at this
theorem sameN_le (l : List Nat) (a : Nat) (h : a ≤ l.length) : a + sameN l a ≤ l.length := by
  rcases Nat.lt_or_ge l.length (a + sameN l a) with h1 | h1
  · obtain ⟨h2, _⟩ := sameN_in (l := l) (a := a) (n := l.length - a) (by omega)
    omega
  · exact h1
theorem sameN_pos {l : List Nat} {a : Nat} (h : a < l.length) : 1 ≤ sameN l a := by
  rcases Nat.eq_zero_or_pos (sameN l a) with h0 | h0
  · have := sameN_out l a (by omega)
    rw [h0] at this
    exact absurd rfl this
  · exact h0

/-- The run at a place: its symbol, its extra, how many lengths it is. -/
def stepOf (l : List Nat) (a : Nat) : (Int × Int) × Nat :=
  if nth l a = 0 ∧ 11 ≤ sameN l a then ((18, ((min (sameN l a) 138 - 11 : Nat) : Int)), min (sameN l a) 138)
  else if nth l a = 0 ∧ 3 ≤ sameN l a then ((17, ((sameN l a - 3 : Nat) : Int)), sameN l a)
  else if nth l a ≠ 0 ∧ 0 < a ∧ nth l (a - 1) = nth l a ∧ 3 ≤ sameN l a then ((16, ((min (sameN l a) 6 - 3 : Nat) : Int)), min (sameN l a) 6)
  else (((nth l a : Nat), 0), 1)

theorem stepOf_pos (l : List Nat) (a : Nat) : 1 ≤ (stepOf l a).2 := by
  unfold stepOf
  split
  · show 1 ≤ min _ _; omega
  · split
    · show 1 ≤ sameN _ _; omega
    · split
      · show 1 ≤ min _ _; omega
      · exact Nat.le_refl _
theorem stepOf_le (l : List Nat) (a : Nat) (h : a < l.length) : a + (stepOf l a).2 ≤ l.length := by
  have := sameN_le l a (by omega)
  unfold stepOf
  split
  · show a + min _ _ ≤ _; omega
  · split
    · exact this
    · split
      · show a + min _ _ ≤ _; omega
      · show a + 1 ≤ _; omega

/-- The runs from a place on. -/
def runsF : Nat → List Nat → Nat → List (Int × Int)
  | 0, _, _ => []
  | k + 1, l, a => if a < l.length then (stepOf l a).1 :: runsF k l (a + (stepOf l a).2) else []
theorem runsF_ge : ∀ (k k' : Nat) (l : List Nat) (a : Nat), l.length - a ≤ k → l.length - a ≤ k' → runsF k l a = runsF k' l a
  | 0, 0, _, _, _, _ => rfl
  | 0, k' + 1, l, a, h, _ => by unfold runsF; rw [if_neg (by omega)]
  | k + 1, 0, l, a, _, h => by unfold runsF; rw [if_neg (by omega)]
  | k + 1, k' + 1, l, a, h, h' => by
    unfold runsF
    by_cases hlt : a < l.length
    · rw [if_pos hlt, if_pos hlt]
      have := stepOf_pos l a
      rw [runsF_ge k k' l _ (by omega) (by omega)]
    · rw [if_neg hlt, if_neg hlt]
def runsFrom (l : List Nat) (a : Nat) : List (Int × Int) := runsF (l.length - a) l a
theorem runsFrom_step {l : List Nat} {a : Nat} (h : a < l.length) : runsFrom l a = (stepOf l a).1 :: runsFrom l (a + (stepOf l a).2) := by
  unfold runsFrom
  obtain ⟨k, hk⟩ : ∃ k, l.length - a = k + 1 := ⟨l.length - a - 1, by omega⟩
  rw [hk, runsF, if_pos h]
  have := stepOf_pos l a
  rw [runsF_ge k (l.length - (a + (stepOf l a).2)) l _ (by omega) (Nat.le_refl _)]
theorem runsFrom_end {l : List Nat} {a : Nat} (h : l.length ≤ a) : runsFrom l a = [] := by
  unfold runsFrom
  rw [show l.length - a = 0 by omega]; rfl
theorem runsFrom_len (l : List Nat) : ∀ (k a : Nat), l.length - a ≤ k → (runsFrom l a).length ≤ l.length - a
  | 0, a, h => by rw [runsFrom_end (by omega)]; simp
  | k + 1, a, h => by
    rcases Nat.lt_or_ge a l.length with hlt | hge
    · have := stepOf_pos l a
      have ih := runsFrom_len l k (a + (stepOf l a).2) (by omega)
      rw [runsFrom_step hlt, List.length_cons]; omega
    · rw [runsFrom_end hge]; simp

/-- What is wrong with lengths. -/
def sqE (l : List Nat) : Nat := if 320 < l.length then 4 else if l.all (fun x => decide (x ≤ 15)) then 0 else 2
/-- The runs of lengths. -/
def sq (l : List Nat) : List (Int × Int) := if sqE l = 0 then runsFrom l 0 else []

/-- A symbol's extra bits; the error. -/
def symBits (s : Int) : Nat := if s = 16 then 2 else if s = 17 then 3 else if s = 18 then 7 else 0
def symE (s : Int) : Nat := if s < 0 ∨ 18 < s then 2 else 0
/-- May a run be? -/
def runOk (r : Int × Int) : Bool := decide (0 ≤ r.1 ∧ r.1 ≤ 18 ∧ 0 ≤ r.2 ∧ r.2 < 2 ^ symBits r.1)
/-- How often a run is a length. -/
def timesOf (r : Int × Int) : Nat := if r.1 = 16 ∨ r.1 = 17 then r.2.toNat + 3 else if r.1 = 18 then r.2.toNat + 11 else 1
/-- Which length a run is, behind some. -/
def whatOf (r : Int × Int) (out : List Nat) : Nat := if r.1 = 16 then nth out (out.length - 1) else if r.1 = 17 ∨ r.1 = 18 then 0 else r.1.toNat
/-- One run's lengths put behind others: none, if that may not be; the error then. -/
def putE (n : Nat) (r : Int × Int) (out : List Nat) : Nat := if runOk r = true then if r.1 = 16 ∧ out = [] ∨ n < out.length + timesOf r then 100 else 0 else 8
def putR (r : Int × Int) (out : List Nat) : List Nat := out ++ List.replicate (timesOf r) (whatOf r out)
/-- Lengths of runs, behind some: the lengths and the error. -/
def strF (n : Nat) : List (Int × Int) → List Nat → List Nat × Nat
  | [], out => if out.length = n then (out, 0) else ([], 100)
  | r :: l, out => if putE n r out = 0 then strF n l (putR r out) else ([], putE n r out)
/-- Lengths of runs: any number. -/
def strL (l : List (Int × Int)) (n : Int) : List Nat × Nat := if n < 0 ∨ 320 < n then ([], 2) else strF n.toNat l []

theorem runOk_bounds {r : Int × Int} (h : runOk r = true) : 0 ≤ r.1 ∧ r.1 ≤ 18 ∧ 0 ≤ r.2 ∧ r.2 < 128 := by
  have h' := of_decide_eq_true h
  refine ⟨h'.1, h'.2.1, h'.2.2.1, ?_⟩
  have : symBits r.1 ≤ 7 := by unfold symBits; split <;> (try split) <;> (try split) <;> omega
  have h2 : (2 : Int) ^ symBits r.1 ≤ 2 ^ 7 := by
    have := Nat.pow_le_pow_right (n := 2) (by omega) this
    exact_mod_cast this
  have := h'.2.2.2
  omega
theorem timesOf_le {r : Int × Int} (h : runOk r = true) : 1 ≤ timesOf r ∧ timesOf r ≤ 138 := by
  have := runOk_bounds h
  unfold timesOf
  split
  · omega
  · split <;> omega
theorem whatOf_lt {r : Int × Int} {out : List Nat} (h : runOk r = true) (hb : ∀ x ∈ out, x < 256) : whatOf r out < 256 := by
  have := runOk_bounds h
  unfold whatOf
  split
  · exact nth_lt hb (by omega) _
  · split <;> omega
theorem putR_lt {r : Int × Int} {out : List Nat} (h : runOk r = true) (hb : ∀ x ∈ out, x < 256) : ∀ x ∈ putR r out, x < 256 := by
  intro x hx
  rcases List.mem_append.1 hx with hx | hx
  · exact hb x hx
  · rw [List.eq_of_mem_replicate hx]; exact whatOf_lt h hb
theorem putE_zero {n : Nat} {r : Int × Int} {out : List Nat} (h : putE n r out = 0) : runOk r = true ∧ ¬ (r.1 = 16 ∧ out = []) ∧ out.length + timesOf r ≤ n := by
  unfold putE at h
  by_cases h1 : runOk r = true
  · rw [if_pos h1] at h
    by_cases h2 : r.1 = 16 ∧ out = [] ∨ n < out.length + timesOf r
    · rw [if_pos h2] at h; omega
    · exact ⟨h1, fun h3 => h2 (.inl h3), by rcases Nat.lt_or_ge n (out.length + timesOf r) with h4 | h4; exact absurd (.inr h4) h2; exact h4⟩
  · rw [if_neg h1] at h; omega
theorem putR_length (r : Int × Int) (out : List Nat) : (putR r out).length = out.length + timesOf r := by simp [putR]

/-- The runs as they lie in memory. -/
def runV (l : List (Int × Int)) : List Value := prs (fun r => .int .i64 r.1) (fun r => .int .i64 r.2) l
theorem runV_one (l : List (Int × Int)) : ∀ u ∈ runV l, u.oneCell' = true := prs_one (fun _ => rfl) (fun _ => rfl) l
theorem runV_length (l : List (Int × Int)) : (runV l).length = l.length * 2 := prs_length l
theorem runV_append (l m : List (Int × Int)) : runV (l ++ m) = runV l ++ runV m := prs_append l m
end Go.Proofs.Ytcifmbcchgdplaa
