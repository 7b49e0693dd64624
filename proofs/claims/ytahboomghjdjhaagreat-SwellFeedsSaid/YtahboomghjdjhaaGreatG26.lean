/-
  Plain: readings of bits, and what is so of all of them: bytes behind count for nothing, whole bytes ahead too, and how many bits they take.
-/
import Derived.Test.YtahboomghjdjhaaGreatG03
import Derived.Test.YtahboomghjdjhaaGreatG09
import Derived.Test.YtahboomghjdjhaaGreatG11
import Derived.Test.YtahboomghjdjhaaGreatG16
import Derived.Test.YtahboomghjdjhaaGreatG18
import Derived.Test.YtahboomghjdjhaaGreatG22
import Derived.Test.YtahboomghjdjhaaGreatG25
import Derived.Test.YtahboomghjdjhaaGreatGTreeW
namespace Go.Proofs.YtahboomghjdjhaaGreat

/-- A reading: of bytes and a place, an error or what is told and the place behind it. -/
abbrev Pa (α : Type) := List Nat → Nat → Except Nat (α × Nat)
def paOk {α : Type} (x : α) : Pa α := fun _ a => .ok (x, a)
def paNo {α : Type} (e : Nat) : Pa α := fun _ _ => .error e
def paBind {α β : Type} (p : Pa α) (f : α → Pa β) : Pa β := fun b a => match p b a with
  | .error e => .error e
  | .ok (x, n) => f x b n
/-- A number's bits. -/
def tkP (n : Nat) : Pa Nat := fun b a => if 8 * b.length < a + n then .error 10 else .ok (numOf b a n, a + n)
/-- A symbol, by lengths. -/
def syP (l : List Nat) : Pa Nat := fun b a => if (rdT (padL l) b 16 0 0 a).2.2 = 0 then .ok ((rdT (padL l) b 16 0 0 a).1, (rdT (padL l) b 16 0 0 a).2.1) else .error (rdT (padL l) b 16 0 0 a).2.2
/-- On to a whole byte. -/
def alP : Pa Unit := fun _ a => .ok ((), (a + 7) / 8 * 8)

theorem paBind_no {α β : Type} {p : Pa α} {f : α → Pa β} {b : List Nat} {a e : Nat} (h : p b a = .error e) : paBind p f b a = .error e := by unfold paBind; rw [h]
theorem paBind_ok {α β : Type} {p : Pa α} {f : α → Pa β} {b : List Nat} {a n : Nat} {x : α} (h : p b a = .ok (x, n)) : paBind p f b a = f x b n := by unfold paBind; rw [h]
theorem paBind_inv {α β : Type} {p : Pa α} {f : α → Pa β} {b : List Nat} {a n : Nat} {y : β} (h : paBind p f b a = .ok (y, n)) : ∃ x m, p b a = .ok (x, m) ∧ f x b m = .ok (y, n) := by
  unfold paBind at h
  cases hp : p b a with
  | error e => rw [hp] at h; cases h
  | ok r => obtain ⟨x, m⟩ := r; rw [hp] at h; exact ⟨x, m, rfl, h⟩
theorem tkP_no {n : Nat} {b : List Nat} {a : Nat} (h : 8 * b.length < a + n) : tkP n b a = .error 10 := by unfold tkP; rw [if_pos h]
theorem tkP_ok {n : Nat} {b : List Nat} {a : Nat} (h : a + n ≤ 8 * b.length) : tkP n b a = .ok (numOf b a n, a + n) := by unfold tkP; rw [if_neg (by omega)]
theorem syP_ok {l b : List Nat} {a s n : Nat} (h : rdT (padL l) b 16 0 0 a = (s, n, 0)) : syP l b a = .ok (s, n) := by unfold syP; rw [h]; rfl
theorem syP_no {l b : List Nat} {a s n e : Nat} (h : rdT (padL l) b 16 0 0 a = (s, n, e)) (he : e ≠ 0) : syP l b a = .error e := by unfold syP; rw [h]; exact if_neg he
theorem syP_inv {l b : List Nat} {a s n : Nat} (h : syP l b a = .ok (s, n)) : rdT (padL l) b 16 0 0 a = (s, n, 0) := by
  obtain ⟨x, y, z⟩ : ∃ r, rdT (padL l) b 16 0 0 a = r := ⟨_, rfl⟩
  rcases hr : rdT (padL l) b 16 0 0 a with ⟨x, y, z⟩
  unfold syP at h
  rw [hr] at h
  by_cases hz : z = 0
  · subst hz; simp at h; obtain ⟨rfl, rfl⟩ := h; rfl
  · simp [hz] at h
theorem syP_err {l b : List Nat} {a e : Nat} (h : syP l b a = .error e) : (rdT (padL l) b 16 0 0 a).2.2 = e ∧ e ≠ 0 := by
  unfold syP at h
  split at h
  · cases h
  · rename_i hz
    injection h with h
    exact ⟨h, h ▸ hz⟩

/-- A place moved on by whole bytes. -/
def upP {α : Type} (k : Nat) : Except Nat (α × Nat) → Except Nat (α × Nat)
  | .error e => .error e
  | .ok (x, n) => .ok (x, n + 8 * k)

/-- A reading that takes at least L bits and at most B. -/
structure Gd {α : Type} (p : Pa α) (L B : Nat) : Prop where
  app : ∀ b m a, p b a ≠ .error 10 → p (b ++ m) a = p b a
  shift : ∀ b k a, k ≤ b.length → p b (a + 8 * k) = upP k (p (b.drop k) a)
  bound : ∀ b a, p b a = .error 10 → 8 * b.length < a + B
  ok : ∀ b a x n, p b a = .ok (x, n) → a + L ≤ n ∧ n ≤ a + B ∧ (a ≤ 8 * b.length → n ≤ 8 * b.length)
  tight : ∀ b m a x n, p b a = .error 10 → p (b ++ m) a = .ok (x, n) → 8 * b.length < n

theorem Gd.mono {α : Type} {p : Pa α} {L B L' B' : Nat} (h : Gd p L B) (h1 : L' ≤ L) (h2 : B ≤ B') : Gd p L' B' :=
  ⟨h.app, h.shift, fun b a e => by have := h.bound b a e; omega, fun b a x n e => by have := h.ok b a x n e; omega, h.tight⟩
theorem Gd.one {α : Type} (x : α) : Gd (paOk x) 0 0 :=
  ⟨fun _ _ _ _ => rfl, fun _ _ _ _ => rfl, fun _ _ e => (by cases e), fun b a y n e => (by cases e; omega), fun _ _ _ _ _ e => (by cases e)⟩
theorem Gd.no {α : Type} {e : Nat} (he : e ≠ 10) (L B : Nat) : Gd (paNo (α := α) e) L B :=
  ⟨fun _ _ _ _ => rfl, fun _ _ _ _ => rfl, fun _ _ h => by unfold paNo at h; injection h with h; exact absurd h he, fun b a y n h => (by cases h), fun _ _ _ _ _ _ h => (by cases h)⟩
theorem Gd.bind {α β : Type} {p : Pa α} {f : α → Pa β} {L B L' B' : Nat} (h : Gd p L B) (hf : ∀ b a x n, p b a = .ok (x, n) → Gd (f x) L' B') : Gd (paBind p f) (L + L') (B + B') := by
  refine ⟨fun b m a hne => ?_, fun b k a hk => ?_, fun b a e => ?_, fun b a y n e => ?_, fun b m a y n e hok => ?_⟩
  · cases hp : p b a with
    | error e =>
      have e10 : e ≠ 10 := fun he => hne (by rw [paBind_no hp, he])
      rw [paBind_no hp, paBind_no ((h.app b m a (by rw [hp]; intro hh; injection hh with hh; exact e10 hh)).trans hp)]
    | ok r =>
      obtain ⟨x, n⟩ := r
      rw [paBind_ok hp] at hne ⊢
      rw [paBind_ok ((h.app b m a (by rw [hp]; intro hh; cases hh)).trans hp)]
      exact (hf b a x n hp).app b m n hne
  · have hs := h.shift b k a hk
    cases hp : p (b.drop k) a with
    | error e => rw [hp] at hs; rw [paBind_no hp, paBind_no hs]; rfl
    | ok r =>
      obtain ⟨x, n⟩ := r
      rw [hp] at hs
      rw [paBind_ok hp, paBind_ok hs]
      exact (hf _ _ x n hp).shift b k n hk
  · cases hp : p b a with
    | error e' =>
      rw [paBind_no hp] at e
      injection e with e
      subst e
      have := h.bound b a hp
      omega
    | ok r =>
      obtain ⟨x, n⟩ := r
      rw [paBind_ok hp] at e
      have h1 := (hf b a x n hp).bound b n e
      have h2 := h.ok b a x n hp
      omega
  · obtain ⟨x, m, hp, he⟩ := paBind_inv e
    have h1 := h.ok b a x m hp
    have h2 := (hf b a x m hp).ok b m y n he
    omega
  · obtain ⟨x, n1, hp', hf'⟩ := paBind_inv hok
    cases hp : p b a with
    | error e' =>
      rw [paBind_no hp] at e
      injection e with e
      subst e
      have h1 := h.tight b m a x n1 hp hp'
      have h2 := (hf _ _ x n1 hp').ok _ n1 y n hf'
      omega
    | ok r =>
      obtain ⟨x', n'⟩ := r
      have h1 := (h.app b m a (by rw [hp]; intro hh; cases hh)).trans hp
      rw [hp'] at h1
      injection h1 with h1
      injection h1 with h1 h2
      subst h1 h2
      rw [paBind_ok hp] at e
      exact (hf b a x n1 hp).tight b m n1 y n e hf'
theorem Gd.ite {α : Type} {c : Prop} [Decidable c] {p q : Pa α} {L B : Nat} (hp : c → Gd p L B) (hq : ¬ c → Gd q L B) : Gd (if c then p else q) L B := by
  by_cases hc : c
  · rw [if_pos hc]; exact hp hc
  · rw [if_neg hc]; exact hq hc

theorem nth_dropS (b : List Nat) (k i : Nat) : nth (b.drop k) i = nth b (k + i) := by unfold nth; rw [List.getElem?_drop]
theorem bit_drop (b : List Nat) (k a : Nat) : bitOf (b.drop k) a = bitOf b (a + 8 * k) := by
  unfold bitOf
  rw [nth_dropS, show (a + 8 * k) / 8 = k + a / 8 by omega, show (a + 8 * k) % 8 = a % 8 by omega]
theorem num_drop (b : List Nat) (k a n : Nat) : numOf (b.drop k) a n = numOf b (a + 8 * k) n := by
  induction n with
  | zero => rfl
  | succ n ih => rw [numOf, numOf, ih, bit_drop, show a + n + 8 * k = a + 8 * k + n by omega]
theorem num_app (b m : List Nat) (a n : Nat) (h : a + n ≤ 8 * b.length) : numOf (b ++ m) a n = numOf b a n := by
  induction n with
  | zero => rfl
  | succ n ih => rw [numOf, numOf, ih (by omega), bit_app b m _ (by omega)]

theorem Gd.take (n : Nat) : Gd (tkP n) n n := by
  refine ⟨fun b m a h => ?_, fun b k a hk => ?_, fun b a h => ?_, fun b a x m h => ?_, fun b m a x k h h' => ?_⟩
  · by_cases hl : 8 * b.length < a + n
    · exact absurd (tkP_no hl) h
    · rw [tkP_ok (b := b) (by omega), tkP_ok (b := b ++ m) (by rw [List.length_append]; omega), num_app b m a n (by omega)]
  · by_cases hl : 8 * b.length < a + 8 * k + n
    · rw [tkP_no hl, tkP_no (b := b.drop k) (by rw [List.length_drop]; omega)]; rfl
    · rw [tkP_ok (b := b) (by omega), tkP_ok (b := b.drop k) (by rw [List.length_drop]; omega), num_drop]
      simp only [upP]
      rw [show a + 8 * k + n = a + n + 8 * k by omega]
  · by_cases hl : 8 * b.length < a + n
    · exact hl
    · rw [tkP_ok (by omega)] at h; cases h
  · by_cases hl : 8 * b.length < a + n
    · rw [tkP_no hl] at h; cases h
    · rw [tkP_ok (by omega)] at h; cases h; omega
  · by_cases hl : 8 * b.length < a + n
    · by_cases hl' : 8 * (b ++ m).length < a + n
      · rw [tkP_no hl'] at h'; cases h'
      · rw [tkP_ok (by omega)] at h'; cases h'; exact hl
    · rw [tkP_ok (by omega)] at h; cases h
theorem Gd.align : Gd alP 0 7 := by
  refine ⟨fun _ _ _ _ => rfl, fun b k a hk => ?_, fun b a h => (by cases h), fun b a x m h => (by cases h; omega), fun _ _ _ _ _ h => (by cases h)⟩
  unfold alP
  simp only [upP]
  rw [show (a + 8 * k + 7) / 8 * 8 = (a + 7) / 8 * 8 + 8 * k by omega]

/-! ### A symbol -/
def upT (k : Nat) (r : Nat × Nat × Nat) : Nat × Nat × Nat := if r.2.2 = 0 then (r.1, r.2.1 + 8 * k, 0) else r
theorem rd_drop (l b : List Nat) (k : Nat) (hk : k ≤ b.length) : ∀ j n v a, rdT l b j n v (a + 8 * k) = upT k (rdT l (b.drop k) j n v a)
  | 0, _, _, _ => rfl
  | j + 1, n, v, a => by
    cases hh : hitF l n v with
    | some i => rw [rd_hit hh, rd_hit hh]; rfl
    | none =>
      cases hm : moreN l n v l.length with
      | false => rw [rd_code hh hm, rd_code hh hm]; rfl
      | true =>
        by_cases ha : a + 8 * k < 8 * b.length
        · rw [rd_go hh hm ha, rd_go hh hm (by rw [List.length_drop]; omega), bit_drop, show a + 8 * k + 1 = a + 1 + 8 * k by omega]
          exact rd_drop l b k hk j _ _ _
        · rw [rd_end hh hm (by omega), rd_end hh hm (by rw [List.length_drop]; omega)]; rfl
/-- The bits that a symbol takes. -/
theorem rd_span (l b : List Nat) (m : Nat) (hl : ∀ x ∈ l, x ≤ m) : ∀ j n v a, (n ≤ m ∨ n = 0) → ((rdT l b j n v a).2.2 = 0 → a ≤ (rdT l b j n v a).2.1 ∧ (rdT l b j n v a).2.1 ≤ a + (m - n) ∧ (a ≤ 8 * b.length → (rdT l b j n v a).2.1 ≤ 8 * b.length) ∧ (n = 0 → a + 1 ≤ (rdT l b j n v a).2.1) ∧ (rdT l b j n v a).1 < l.length) ∧ ((rdT l b j n v a).2.2 = 10 → 8 * b.length < a + (m - n))
  | 0, n, _, a, _ => by simp [rdT]
  | j + 1, n, v, a, hn => by
    cases hh : hitF l n v with
    | some i =>
      rw [rd_hit hh]
      have h2 := List.find?_some hh
      have h3 := List.mem_range.1 (List.mem_of_find?_eq_some hh)
      unfold hitB at h2
      have h4 := (of_decide_eq_true h2).2.2
      exact ⟨fun _ => ⟨Nat.le_refl _, Nat.le_add_right _ _, fun h => h, fun h => absurd h (by omega), h3⟩, fun h => (by cases h)⟩
    | none =>
      cases hm : moreN l n v l.length with
      | false => rw [rd_code hh hm]; simp
      | true =>
        have hnm : n < m := by
          unfold moreN at hm
          rw [List.any_eq_true] at hm
          obtain ⟨i, hi, hb⟩ := hm
          unfold moreB at hb
          have h1 := (of_decide_eq_true hb).1
          have h2 := List.mem_range.1 hi
          have h3 := hl _ (List.getElem_mem h2)
          unfold nth at h1
          rw [List.getElem?_eq_getElem h2] at h1
          simp only [Option.getD_some] at h1
          omega
        by_cases ha : a < 8 * b.length
        · rw [rd_go hh hm ha]
          obtain ⟨h1, h2⟩ := rd_span l b m hl j (n + 1) (2 * v + bitOf b a) (a + 1) (by omega)
          refine ⟨fun h => ?_, fun h => ?_⟩
          · obtain ⟨q1, q2, q3, q4, q5⟩ := h1 h
            exact ⟨by omega, by omega, fun _ => q3 (by omega), fun _ => by omega, q5⟩
          · have := h2 h; omega
        · rw [rd_end hh hm (by omega)]
          refine ⟨fun h => (by cases h), fun _ => by omega⟩
/-- A symbol's bits end behind where they began. -/
theorem rd_ge (l b : List Nat) : ∀ j n v a, (rdT l b j n v a).2.2 = 0 → a ≤ (rdT l b j n v a).2.1
  | 0, _, _, _ => fun h => by simp [rdT] at h
  | j + 1, n, v, a => by
    cases hh : hitF l n v with
    | some i => rw [rd_hit hh]; exact fun _ => Nat.le_refl _
    | none =>
      cases hm : moreN l n v l.length with
      | false => rw [rd_code hh hm]; intro h; cases h
      | true =>
        by_cases ha : a < 8 * b.length
        · rw [rd_go hh hm ha]
          intro h
          have := rd_ge l b j _ _ _ h
          omega
        · rw [rd_end hh hm (by omega)]; intro h; cases h
theorem rd_tight (l b m : List Nat) : ∀ j n v a, (rdT l b j n v a).2.2 = 10 → (rdT l (b ++ m) j n v a).2.2 = 0 → 8 * b.length < (rdT l (b ++ m) j n v a).2.1
  | 0, _, _, _ => fun h => by simp [rdT] at h
  | j + 1, n, v, a => by
    cases hh : hitF l n v with
    | some i => rw [rd_hit hh]; intro h; cases h
    | none =>
      cases hm : moreN l n v l.length with
      | false => rw [rd_code hh hm]; intro h; cases h
      | true =>
        by_cases ha : a < 8 * b.length
        · rw [rd_go hh hm ha, rd_go hh hm (b := b ++ m) (by rw [List.length_append]; omega), bit_app b m a (by omega)]
          exact rd_tight l b m j _ _ _
        · intro _
          by_cases ha' : a < 8 * (b ++ m).length
          · rw [rd_go hh hm ha']
            intro h
            have := rd_ge l (b ++ m) j _ _ _ h
            omega
          · rw [rd_end hh hm (by omega)]; intro h; cases h
theorem Gd.sym {l : List Nat} {m : Nat} (hl : ∀ x ∈ l, x ≤ m) : Gd (syP l) 1 m := by
  have hp := padL_mem hl
  refine ⟨fun b c a h => ?_, fun b k a hk => ?_, fun b a h => ?_, fun b a x n h => ?_, fun b c a x n h h' => ?_⟩
  · have : (rdT (padL l) b 16 0 0 a).2.2 ≠ 10 := fun e => h (by unfold syP; rw [e]; rfl)
    unfold syP
    rw [rd_app _ _ c _ _ _ _ this]
  · have := rd_drop (padL l) b k hk 16 0 0 a
    unfold syP
    rw [this]
    unfold upT
    by_cases h0 : (rdT (padL l) (b.drop k) 16 0 0 a).2.2 = 0
    · rw [if_pos h0, if_pos h0]; rfl
    · rw [if_neg h0, if_neg h0]; rfl
  · have h1 := syP_err h
    have := (rd_span (padL l) b m hp 16 0 0 a (by omega)).2 h1.1
    omega
  · have h1 := syP_inv h
    have := (rd_span (padL l) b m hp 16 0 0 a (by omega)).1
    rw [h1] at this
    obtain ⟨q1, q2, q3, q4, q5⟩ := this rfl
    exact ⟨q4 rfl, by simpa using q2, q3⟩
  · have h1 := syP_err h
    have h2 := syP_inv h'
    have := rd_tight (padL l) b c 16 0 0 a h1.1 (by rw [h2])
    rw [h2] at this
    exact this
theorem le_fold : ∀ (l : List Nat) (x : Nat), x ∈ l → x ≤ l.foldr max 0
  | [], _, h => by cases h
  | y :: t, x, h => by
    rw [List.foldr_cons]
    rcases List.mem_cons.1 h with rfl | h
    · exact Nat.le_max_left _ _
    · exact Nat.le_trans (le_fold t x h) (Nat.le_max_right _ _)
theorem syP_lt {l b : List Nat} {a s n : Nat} (hl : l.length ≤ 320) (h : syP l b a = .ok (s, n)) : s < 320 := by
  have h1 := syP_inv h
  have := (rd_span (padL l) b ((padL l).foldr max 0) (le_fold _) 16 0 0 a (by omega)).1
  rw [h1] at this
  have := (this rfl).2.2.2.2
  rwa [padL_length hl] at this
theorem syP_e {l b : List Nat} {a e : Nat} (h : syP l b a = .error e) : e = 10 ∨ e = 50 := by
  have h1 := syP_err h
  have := rd_err (padL l) b 16 0 0 a
  omega
end Go.Proofs.YtahboomghjdjhaaGreat

/-
  Plain: a block's head and its steps, as readings.
-/
namespace Go.Proofs.YtahboomghjdjhaaGreat

/-- A block: its kind, whether it is the last one, the bytes left, its lengths. -/
structure Bk where
  kind : Nat
  last : Bool
  left : Nat
  lo : List Nat
  fa : List Nat

/-- The lengths of the code for lengths: k more, from the i-th on. -/
def shP : Nat → Nat → List Nat → Pa (List Nat)
  | 0, _, row => paOk row
  | k + 1, i, row => paBind (tkP 3) fun v => shP k (i + 1) (row.set (nth orderL i) v)
/-- Lengths by the code for lengths: N in all. -/
def lgP (N : Nat) (row : List Nat) : Nat → List Nat → Pa (List Nat)
  | 0, out => paOk out
  | f + 1, out => if N ≤ out.length then paOk out else
    paBind (syP row) fun s => paBind (tkP (symBits s)) fun x =>
      if s = 16 ∧ out = [] ∨ N < out.length + timesOf ((s : Int), (x : Int)) then paNo 132 else lgP N row f (putR ((s : Int), (x : Int)) out)
/-- What is behind a dynamic block's lengths. -/
def dzP (last : Bool) (longs : Nat) (all : List Nat) : Pa Bk :=
  if nth all 256 = 0 ∨ canE (all.take longs) 15 ≠ 0 ∨ canE (all.drop longs) 15 ≠ 0 then paNo 132 else paOk ⟨2, last, 0, padL (all.take longs), padL (all.drop longs)⟩
def dxP (last : Bool) (longs fars : Nat) (row : List Nat) : Pa Bk :=
  if canE row 7 ≠ 0 ∨ kraft row ≠ 32768 then paNo 132 else paBind (lgP (longs + fars) row (longs + fars) []) (dzP last longs)
def dvP (last : Bool) (v : Nat) : Pa Bk :=
  if 286 < v % 32 + 257 ∨ 30 < v / 32 % 32 + 1 then paNo 132 else paBind (shP (v / 1024 + 4) 0 (List.replicate 19 0)) (dxP last (v % 32 + 257) (v / 32 % 32 + 1))
def dyP (last : Bool) : Pa Bk := paBind (tkP 14) (dvP last)
def szP (last : Bool) (x : Nat) : Pa Bk := if x % 65536 + x / 65536 = 65535 then paOk ⟨0, last, x % 65536, [], []⟩ else paNo 131
def suP (last : Bool) : Pa Bk := paBind alP fun _ => paBind (tkP 32) (szP last)
def hvP (v : Nat) : Pa Bk :=
  if v / 2 = 3 then paNo 130 else if v / 2 = 2 then dyP (v % 2 == 1) else if v / 2 = 1 then paOk ⟨1, v % 2 == 1, 0, padL longsF, padL farsF⟩ else suP (v % 2 == 1)
/-- A block's head. -/
def hdP : Pa Bk := paBind (tkP 3) hvP

/-- A step: a token (its distance, length, byte), or the block's end. -/
structure St where
  dist : Nat
  long : Nat
  lit : Nat
  fin : Bool
/-- A number behind its symbol. -/
def exP (f : Nat) (t : List (Nat × Nat × Nat)) (s : Nat) : Pa Nat :=
  if bitE f t s ≠ 0 then paNo (bitE f t s) else paBind (tkP (bitN f t s)) fun x => if numE f t s x ≠ 0 then paNo (numE f t s x) else paOk (numV f t s x).toNat
def scP (fa : List Nat) (n : Nat) : Pa St := paBind (syP fa) fun s => paBind (exP 0 farT s) fun d => paOk ⟨d, n, 0, false⟩
def swP (fa : List Nat) (s : Nat) : Pa St := if s < 256 then paOk ⟨0, 0, s, false⟩ else if s = 256 then paOk ⟨0, 0, 0, true⟩ else paBind (exP 257 longT s) (scP fa)
/-- A block's step. -/
def stP (k : Bk) : Pa St :=
  if k.kind = 0 then if k.left = 0 then paOk ⟨0, 0, 0, true⟩ else paBind (tkP 8) fun v => paOk ⟨0, 0, v, false⟩
  else paBind (syP k.lo) (swP k.fa)

/-- May a block be? -/
structure BkOk (k : Bk) : Prop where
  kind : k.kind ≤ 2
  zero : k.kind = 0 → k.left ≤ 65535 ∧ k.lo = [] ∧ k.fa = []
  code : k.kind ≠ 0 → k.left = 0 ∧ canE k.lo 15 = 0 ∧ canE k.fa 15 = 0
  len : k.kind ≠ 0 → k.lo.length = 320 ∧ k.fa.length = 320

theorem can_le {l : List Nat} {m : Int} (h : canE l m = 0) : ∀ x ∈ l, x ≤ m.toNat := by
  obtain ⟨h1, h2, h3, h4, h5, h6⟩ := canE_ok h
  intro x hx
  have := h4 x hx
  omega

/-! ### The lengths' lengths -/
theorem shP_gd : ∀ k i row, Gd (shP k i row) (3 * k) (3 * k)
  | 0, _, row => (Gd.one row).mono (by omega) (by omega)
  | k + 1, i, row => ((Gd.take 3).bind (L' := 3 * k) (B' := 3 * k) fun _ _ v _ _ => shP_gd k (i + 1) _).mono (by omega) (by omega)
theorem symBits_le (s : Int) : symBits s ≤ 7 := by unfold symBits; split <;> (try split) <;> (try split) <;> omega
theorem timesOf_pos (r : Int × Int) : 1 ≤ timesOf r := by unfold timesOf; split <;> (try split) <;> omega
theorem lgP_gd {row : List Nat} {m : Nat} (hr : ∀ x ∈ row, x ≤ m) (N : Nat) : ∀ f out, N ≤ out.length + f → Gd (lgP N row f out) 0 ((N - out.length) * (m + 7))
  | 0, out, h => (Gd.one out).mono (by omega) (by omega)
  | f + 1, out, h => by
    rw [lgP]
    refine Gd.ite (fun _ => (Gd.one out).mono (by omega) (by omega)) fun hlt => ?_
    obtain ⟨d, hd⟩ : ∃ d, N - out.length = d + 1 := ⟨N - out.length - 1, by omega⟩
    rw [hd]
    have hB : (d + 1) * (m + 7) = m + (7 + d * (m + 7)) := by rw [Nat.add_mul]; omega
    rw [hB]
    refine ((Gd.sym hr).bind (L' := 0) (B' := 7 + d * (m + 7)) fun b a s n _ => ?_).mono (by omega) (by omega)
    refine (((Gd.take (symBits s)).mono (L' := 0) (B' := 7) (by omega) (symBits_le _)).bind (L' := 0) (B' := d * (m + 7)) fun b a x n _ => ?_).mono (by omega) (by omega)
    refine Gd.ite (fun _ => Gd.no (by omega) _ _) fun hno => ?_
    have hp := putR_length ((s : Int), (x : Int)) out
    have h1 := timesOf_pos ((s : Int), (x : Int))
    refine (lgP_gd hr N f _ (by omega)).mono (by omega) ?_
    refine Nat.mul_le_mul_right _ ?_
    omega

theorem dzP_gd (last : Bool) (longs : Nat) (all : List Nat) : Gd (dzP last longs all) 0 0 := Gd.ite (fun _ => Gd.no (by omega) _ _) fun _ => Gd.one _
theorem dxP_gd (last : Bool) (longs fars : Nat) (row : List Nat) (h : longs + fars ≤ 316) : Gd (dxP last longs fars row) 0 4424 := by
  refine Gd.ite (fun _ => Gd.no (by omega) _ _) fun hno => ?_
  have hc : canE row 7 = 0 := Classical.not_not.1 fun e => hno (.inl e)
  refine ((lgP_gd (can_le hc) (longs + fars) (longs + fars) [] (by omega)).bind (L' := 0) (B' := 0) fun b a x n _ => dzP_gd last longs x).mono (by omega) ?_
  have h7 : (7 : Int).toNat = 7 := rfl
  rw [h7, List.length_nil]
  omega
theorem dvP_gd (last : Bool) (v : Nat) (hv : v < 16384) : Gd (dvP last v) 0 4481 := by
  refine Gd.ite (fun _ => Gd.no (by omega) _ _) fun hno => ?_
  exact ((shP_gd (v / 1024 + 4) 0 _).bind (L' := 0) (B' := 4424) fun b a x n _ => dxP_gd last _ _ _ (by omega)).mono (by omega) (by omega)
theorem dyP_gd (last : Bool) : Gd (dyP last) 0 4495 := ((Gd.take 14).bind (L' := 0) (B' := 4481) fun b a v n h => dvP_gd last v (by
  unfold tkP at h
  split at h
  · cases h
  · injection h with h; simp only [Prod.mk.injEq] at h; rw [← h.1]; exact numOf_lt b a 14)).mono (by omega) (by omega)
theorem suP_gd (last : Bool) : Gd (suP last) 0 39 := (Gd.align.bind (L' := 0) (B' := 32) fun _ _ _ _ _ => ((Gd.take 32).bind (L' := 0) (B' := 0) fun _ _ x _ _ => Gd.ite (fun _ => Gd.one _) fun _ => Gd.no (by omega) _ _).mono (by omega) (by omega)).mono (by omega) (by omega)
theorem hvP_gd (v : Nat) : Gd (hvP v) 0 4495 :=
  Gd.ite (fun _ => Gd.no (by omega) _ _) fun _ => Gd.ite (fun _ => dyP_gd _) fun _ => Gd.ite (fun _ => (Gd.one _).mono (by omega) (by omega)) fun _ => (suP_gd _).mono (by omega) (by omega)
/-- A head takes at least 3 bits and at most 4498. -/
theorem hdP_gd : Gd hdP 3 4498 := ((Gd.take 3).bind (L' := 0) (B' := 4495) fun _ _ v _ _ => hvP_gd v).mono (by omega) (by omega)

/-! ### Which errors there are -/
/-- A reading's errors. -/
def ErrIn {α : Type} (p : Pa α) (s : List Nat) : Prop := ∀ b a e, p b a = .error e → e ∈ s
theorem ErrIn.one {α : Type} (x : α) (s : List Nat) : ErrIn (paOk x) s := fun b a e h => by cases h
theorem ErrIn.no {α : Type} {e : Nat} {s : List Nat} (h : e ∈ s) : ErrIn (paNo (α := α) e) s := fun b a e' h' => by cases h'; exact h
theorem ErrIn.bind {α β : Type} {p : Pa α} {f : α → Pa β} {s : List Nat} (h : ErrIn p s) (hf : ∀ b a x n, p b a = .ok (x, n) → ErrIn (f x) s) : ErrIn (paBind p f) s := fun b a e he => by
  cases hp : p b a with
  | error e' => rw [paBind_no hp] at he; injection he with he; subst he; exact h b a _ hp
  | ok r => obtain ⟨x, n⟩ := r; rw [paBind_ok hp] at he; exact hf b a x n hp b n e he
theorem ErrIn.ite {α : Type} {c : Prop} [Decidable c] {p q : Pa α} {s : List Nat} (hp : c → ErrIn p s) (hq : ¬ c → ErrIn q s) : ErrIn (if c then p else q) s := by
  by_cases hc : c
  · rw [if_pos hc]; exact hp hc
  · rw [if_neg hc]; exact hq hc
theorem ErrIn.take (n : Nat) {s : List Nat} (h : 10 ∈ s) : ErrIn (tkP n) s := fun b a e he => by
  unfold tkP at he
  split at he
  · injection he with he; subst he; exact h
  · cases he
theorem ErrIn.sym (l : List Nat) {s : List Nat} (h : 10 ∈ s) (h' : 50 ∈ s) : ErrIn (syP l) s := fun b a e he => by rcases syP_e he with rfl | rfl <;> assumption

/-! ### Steps -/
theorem bitE_zero {f : Nat} {t : List (Nat × Nat × Nat)} {s : Int} (h : bitE f t s = 0) : (f : Int) ≤ s ∧ s < f + t.length ∧ bitN f t s = (rowT t (s - f).toNat).1 := by
  unfold bitE at h
  split at h
  · omega
  · rename_i hn
    refine ⟨by omega, by omega, ?_⟩
    unfold bitN; rw [if_neg hn]
theorem rowT_long (i : Nat) : (rowT longT i).1 ≤ 5 ∧ (rowT longT i).2.1 ≤ 258 := by
  rcases Nat.lt_or_ge i 29 with h | h
  · have : ∀ i : Fin 29, (rowT longT i).1 ≤ 5 ∧ (rowT longT i).2.1 ≤ 258 := by decide
    exact this ⟨i, h⟩
  · unfold rowT; rw [List.getElem?_eq_none (by simpa [longT] using h)]; simp
theorem rowT_far (i : Nat) : (rowT farT i).1 ≤ 13 := by
  rcases Nat.lt_or_ge i 30 with h | h
  · have : ∀ i : Fin 30, (rowT farT i).1 ≤ 13 := by decide
    exact this ⟨i, h⟩
  · unfold rowT; rw [List.getElem?_eq_none (by simpa [farT] using h)]; simp
theorem exP_gd {f : Nat} {t : List (Nat × Nat × Nat)} {B : Nat} (hB : ∀ i, (rowT t i).1 ≤ B) (s : Nat) : Gd (exP f t s) 0 B := by
  refine Gd.ite (fun _ => Gd.no (by unfold bitE; split <;> omega) _ _) fun h => ?_
  have h0 : bitE f t s = 0 := Classical.not_not.1 h
  have hb : bitN f t s ≤ B := by rw [(bitE_zero h0).2.2]; exact hB _
  refine (((Gd.take (bitN f t s)).mono (L' := 0) (B' := B) (by omega) hb).bind (L' := 0) (B' := 0) fun b a x n _ => ?_).mono (by omega) (by omega)
  refine Gd.ite (fun _ => Gd.no ?_ _ _) fun _ => Gd.one _
  unfold numE
  split
  · omega
  · split
    · omega
    · split <;> omega
theorem scP_gd {fa : List Nat} (h : ∀ x ∈ fa, x ≤ 15) (n : Nat) : Gd (scP fa n) 0 28 :=
  ((Gd.sym h).bind (L' := 0) (B' := 13) fun _ _ s _ _ => ((exP_gd rowT_far s).bind (L' := 0) (B' := 0) fun _ _ d _ _ => Gd.one _).mono (by omega) (by omega)).mono (by omega) (by omega)
theorem swP_gd {fa : List Nat} (h : ∀ x ∈ fa, x ≤ 15) (s : Nat) : Gd (swP fa s) 0 33 :=
  Gd.ite (fun _ => (Gd.one _).mono (by omega) (by omega)) fun _ => Gd.ite (fun _ => (Gd.one _).mono (by omega) (by omega)) fun _ =>
    ((exP_gd (fun i => (rowT_long i).1) s).bind (L' := 0) (B' := 28) fun _ _ n _ _ => scP_gd h n).mono (by omega) (by omega)
theorem stP_gd {k : Bk} (h : BkOk k) : Gd (stP k) 0 48 := by
  refine Gd.ite (fun _ => Gd.ite (fun _ => (Gd.one _).mono (by omega) (by omega)) fun _ => ((Gd.take 8).bind (L' := 0) (B' := 0) fun _ _ _ _ _ => Gd.one _).mono (by omega) (by omega)) fun h0 => ?_
  obtain ⟨_, h1, h2⟩ := h.code h0
  exact ((Gd.sym (can_le h1)).bind (L' := 0) (B' := 33) fun _ _ s _ _ => swP_gd (can_le h2) s).mono (by omega) (by omega)
/-- A step goes on, but for a stored block's end. -/
theorem stP_on {k : Bk} (h : BkOk k) {b : List Nat} {a n : Nat} {t : St} (hs : stP k b a = .ok (t, n)) : t.fin = false → a + 1 ≤ n := by
  intro hf
  unfold stP at hs
  split at hs
  · split at hs
    · unfold paOk at hs; injection hs with hs; simp only [Prod.mk.injEq] at hs; rw [← hs.1] at hf; cases hf
    · exact (((Gd.take 8).bind (L' := 0) (B' := 0) fun _ _ _ _ _ => Gd.one _).ok _ _ _ _ hs).1 |> fun h => by omega
  · rename_i h0
    obtain ⟨_, h1, h2⟩ := h.code h0
    exact (((Gd.sym (can_le h1)).bind (L' := 0) (B' := 33) fun _ _ s _ _ => swP_gd (can_le h2) s).ok _ _ _ _ hs).1

theorem rowT_base {i : Nat} (h : i < 29) : 3 ≤ (rowT longT i).2.1 := by
  have : ∀ i : Fin 29, 3 ≤ (rowT longT i).2.1 := by decide
  exact this ⟨i, h⟩
theorem rowT_fbase {i : Nat} (h : i < 30) : 1 ≤ (rowT farT i).2.1 := by
  have : ∀ i : Fin 30, 1 ≤ (rowT farT i).2.1 := by decide
  exact this ⟨i, h⟩
theorem rowT_top {i : Nat} (h : i < 29) : (rowT longT i).2.1 + (rowT longT i).2.2 ≤ 259 := by
  have : ∀ i : Fin 29, (rowT longT i).2.1 + (rowT longT i).2.2 ≤ 259 := by decide
  exact this ⟨i, h⟩
theorem rowT_ftop {i : Nat} (h : i < 30) : (rowT farT i).2.1 + (rowT farT i).2.2 ≤ 32769 := by
  have : ∀ i : Fin 30, (rowT farT i).2.1 + (rowT farT i).2.2 ≤ 32769 := by decide
  exact this ⟨i, h⟩
theorem num_zero {f : Nat} {t : List (Nat × Nat × Nat)} {s x : Int} (h : numE f t s x = 0) : (f : Int) ≤ s ∧ s < f + t.length ∧ 0 ≤ x ∧ x < (rowT t (s - f).toNat).2.2 ∧ numV f t s x = (rowT t (s - f).toNat).2.1 + x := by
  have hv : numV f t s x = (rowT t (s - f).toNat).2.1 + x := by unfold numV; rw [if_pos h]
  unfold numE at h
  split at h
  · omega
  · split at h
    · omega
    · split at h
      · omega
      · exact ⟨by omega, by omega, by omega, by omega, hv⟩
theorem exP_inv {f : Nat} {t : List (Nat × Nat × Nat)} {s : Nat} {b : List Nat} {a n v : Nat} (h : exP f t s b a = .ok (v, n)) :
    ∃ x, bitE f t s = 0 ∧ tkP (bitN f t s) b a = .ok (x, n) ∧ numE f t s x = 0 ∧ (v : Int) = numV f t s x := by
  unfold exP at h
  split at h
  · cases h
  · rename_i h0
    obtain ⟨x, m, h1, h2⟩ := paBind_inv h
    split at h2
    · cases h2
    · rename_i h3
      unfold paOk at h2
      injection h2 with h2
      simp only [Prod.mk.injEq] at h2
      obtain ⟨rfl, rfl⟩ := h2
      have h3 := Classical.not_not.1 h3
      refine ⟨x, Classical.not_not.1 h0, h1, h3, ?_⟩
      have := num_zero h3
      omega
/-- A step's token. -/
structure StOk (t : St) : Prop where
  lit : t.lit < 256
  dist : t.dist ≤ 32768
  long : t.long ≤ 258
  both : t.long ≠ 0 → 3 ≤ t.long ∧ 1 ≤ t.dist
  none_ : t.long = 0 → t.dist = 0
theorem stP_ok {k : Bk} {b : List Nat} {a n : Nat} {t : St} (hs : stP k b a = .ok (t, n)) : StOk t := by
  unfold stP at hs
  split at hs
  · split at hs
    · cases hs; exact ⟨by simp, by simp, by simp, by simp, by simp⟩
    · obtain ⟨v, m, h1, h2⟩ := paBind_inv hs
      cases h2
      have : v < 256 := by
        unfold tkP at h1
        split at h1
        · cases h1
        · cases h1; exact numOf_lt b a 8
      exact ⟨this, by simp, by simp, by simp, by simp⟩
  · obtain ⟨s, m, h1, h2⟩ := paBind_inv hs
    unfold swP at h2
    split at h2
    · rename_i hlt
      cases h2; exact ⟨hlt, by simp, by simp, by simp, by simp⟩
    · split at h2
      · cases h2; exact ⟨by simp, by simp, by simp, by simp, by simp⟩
      · obtain ⟨v, m2, h3, h4⟩ := paBind_inv h2
        obtain ⟨s2, m3, h5, h6⟩ := paBind_inv h4
        obtain ⟨d, m4, h7, h8⟩ := paBind_inv h6
        cases h8
        obtain ⟨x, e1, e2, e3, e4⟩ := exP_inv h3
        obtain ⟨y, g1, g2, g3, g4⟩ := exP_inv h7
        obtain ⟨q1, q2, q3, q4, q5⟩ := num_zero e3
        obtain ⟨r1, r2, r3, r4, r5⟩ := num_zero g3
        have l1 : longT.length = 29 := rfl
        have l2 : farT.length = 30 := rfl
        have i1 : ((s : Int) - (257 : Nat)).toNat < 29 := by omega
        have i2 : ((s2 : Int) - (0 : Nat)).toNat < 30 := by omega
        have a1 := rowT_base i1
        have a2 := rowT_top i1
        have a3 := rowT_fbase i2
        have a4 := rowT_ftop i2
        exact ⟨by simp, by simp only; omega, by simp only; omega, fun _ => by simp only; omega, fun h => by simp only at h; omega⟩

/-! ### Heads -/
theorem hdP_ok {b : List Nat} {a n : Nat} {k : Bk} (h : hdP b a = .ok (k, n)) : BkOk k := by
  obtain ⟨v, m, h1, h2⟩ := paBind_inv h
  unfold hvP at h2
  split at h2
  · cases h2
  · split at h2
    · obtain ⟨u, m2, h3, h4⟩ := paBind_inv h2
      unfold dvP at h4
      split at h4
      · cases h4
      · obtain ⟨row, m3, h5, h6⟩ := paBind_inv h4
        unfold dxP at h6
        split at h6
        · cases h6
        · obtain ⟨all, m4, h7, h8⟩ := paBind_inv h6
          unfold dzP at h8
          split at h8
          · cases h8
          · rename_i hno
            cases h8
            have g1 : canE (all.take (u % 32 + 257)) 15 = 0 := Classical.not_not.1 fun e => hno (.inr (.inl e))
            have g2 : canE (all.drop (u % 32 + 257)) 15 = 0 := Classical.not_not.1 fun e => hno (.inr (.inr e))
            exact ⟨by simp, fun h => (by cases h), fun _ => ⟨rfl, canE_15 g1, canE_15 g2⟩, fun _ => ⟨padL_length (canE_ok g1).2.2.1, padL_length (canE_ok g2).2.2.1⟩⟩
    · split at h2
      · cases h2; exact ⟨by simp, fun h => (by cases h), fun _ => ⟨rfl, canE_15 can_longsF, canE_15 can_farsF⟩, fun _ => ⟨padL_length (canE_ok can_longsF).2.2.1, padL_length (canE_ok can_farsF).2.2.1⟩⟩
      · obtain ⟨u, m2, h3, h4⟩ := paBind_inv h2
        obtain ⟨x, m3, h5, h6⟩ := paBind_inv h4
        unfold szP at h6
        split at h6
        · cases h6; exact ⟨by simp, fun _ => ⟨by simp only; omega, rfl, rfl⟩, fun h => absurd rfl h, fun h => absurd rfl h⟩
        · cases h6
theorem hdP_err : ErrIn hdP [10, 50, 130, 131, 132] := by
  have h10 : (10 : Nat) ∈ [10, 50, 130, 131, 132] := by simp
  refine (ErrIn.take 3 h10).bind fun _ _ v _ _ => ?_
  refine ErrIn.ite (fun _ => ErrIn.no (by simp)) fun _ => ErrIn.ite (fun _ => ?_) fun _ => ErrIn.ite (fun _ => ErrIn.one _ _) fun _ => ?_
  · refine (ErrIn.take 14 h10).bind fun _ _ u _ _ => ?_
    refine ErrIn.ite (fun _ => ErrIn.no (by simp)) fun _ => ?_
    have hs : ∀ k i row, ErrIn (shP k i row) [10, 50, 130, 131, 132] := by
      intro k
      induction k with
      | zero => exact fun _ row => ErrIn.one _ _
      | succ k ih => exact fun i row => (ErrIn.take 3 h10).bind fun _ _ v _ _ => ih _ _
    have hl : ∀ (N : Nat) (row : List Nat) (f : Nat) (out : List Nat), ErrIn (lgP N row f out) [10, 50, 130, 131, 132] := by
      intro N row f
      induction f with
      | zero => exact fun out => ErrIn.one _ _
      | succ f ih =>
        intro out
        rw [lgP]
        exact ErrIn.ite (fun _ => ErrIn.one _ _) fun _ => (ErrIn.sym row h10 (by simp)).bind fun _ _ s _ _ => (ErrIn.take _ h10).bind fun _ _ x _ _ => ErrIn.ite (fun _ => ErrIn.no (by simp)) fun _ => ih _
    refine (hs _ _ _).bind fun _ _ row _ _ => ?_
    refine ErrIn.ite (fun _ => ErrIn.no (by simp)) fun _ => (hl _ _ _ _).bind fun _ _ all _ _ => ErrIn.ite (fun _ => ErrIn.no (by simp)) fun _ => ErrIn.one _ _
  · exact ErrIn.bind (fun b a e h => by cases h) fun _ _ _ _ _ => (ErrIn.take 32 h10).bind fun _ _ x _ _ => ErrIn.ite (fun _ => ErrIn.one _ _) fun _ => ErrIn.no (by simp)
theorem bitE_or (f : Nat) (t : List (Nat × Nat × Nat)) (s : Int) : bitE f t s = 0 ∨ bitE f t s = 90 := by unfold bitE; split <;> simp
theorem exP_err (f : Nat) (t : List (Nat × Nat × Nat)) (s : Nat) : ErrIn (exP f t s) [10, 50, 2, 90] := by
  refine ErrIn.ite (fun h => ErrIn.no (by rcases bitE_or f t s with e | e; exact absurd e h; rw [e]; simp)) fun _ => (ErrIn.take _ (by simp)).bind fun _ _ x _ _ => ErrIn.ite (fun h => ErrIn.no ?_) fun _ => ErrIn.one _ _
  unfold numE at h ⊢
  split
  · simp
  · split
    · simp
    · split
      · simp
      · rename_i h1 h2 h3; rw [if_neg h1, if_neg h2, if_neg h3] at h; exact absurd rfl h
theorem stP_err (k : Bk) : ErrIn (stP k) [10, 50, 2, 90] := by
  refine ErrIn.ite (fun _ => ErrIn.ite (fun _ => ErrIn.one _ _) fun _ => (ErrIn.take 8 (by simp)).bind fun _ _ _ _ _ => ErrIn.one _ _) fun _ => (ErrIn.sym _ (by simp) (by simp)).bind fun _ _ s _ _ => ?_
  refine ErrIn.ite (fun _ => ErrIn.one _ _) fun _ => ErrIn.ite (fun _ => ErrIn.one _ _) fun _ => (exP_err _ _ _).bind fun _ _ n _ _ => (ErrIn.sym _ (by simp) (by simp)).bind fun _ _ s _ _ => (exP_err _ _ _).bind fun _ _ d _ _ => ErrIn.one _ _
end Go.Proofs.YtahboomghjdjhaaGreat

/-
  Walks: a reader's fail, take, symbol.
-/
namespace Go.Proofs.YtahboomghjdjhaaGreat
open Go.RowKit

/-- A reader's state: its place, or its error; and what becomes of it. -/
abbrev Rs := Except Nat Nat
def rsE : Rs → Nat
  | .ok _ => 0
  | .error e => e
def rsGo {α : Type} (s : Rs) (p : Pa α) (b : List Nat) : Rs := match s with
  | .error e => .error e
  | .ok a => match p b a with
    | .error e => .error e
    | .ok (_, n) => .ok n
def rsV (s : Rs) (p : Pa Nat) (b : List Nat) : Nat := match s with
  | .error _ => 0
  | .ok a => match p b a with
    | .error _ => 0
    | .ok (x, _) => x
def rsFail (s : Rs) (u : Bool) (e : Nat) : Rs := match s with
  | .error e' => .error e'
  | .ok a => if u = true then .ok a else .error e
theorem rsGo_ok {α : Type} {a n : Nat} {x : α} {p : Pa α} {b : List Nat} (h : p b a = .ok (x, n)) : rsGo (.ok a) p b = .ok n := by unfold rsGo; simp only [h]
theorem rsGo_err {α : Type} {a e : Nat} {p : Pa α} {b : List Nat} (h : p b a = .error e) : rsGo (.ok a) p b = .error e := by unfold rsGo; simp only [h]
theorem rsV_ok {a n x : Nat} {p : Pa Nat} {b : List Nat} (h : p b a = .ok (x, n)) : rsV (.ok a) p b = x := by unfold rsV; simp only [h]
theorem rsV_err {a e : Nat} {p : Pa Nat} {b : List Nat} (h : p b a = .error e) : rsV (.ok a) p b = 0 := by unfold rsV; simp only [h]

/-- A reader in block g: of bytes as they stood at W; nothing that stood at W has turned. -/
structure RdrAt (W w : World) (g : Nat) (B : Option Addr) (n c : Nat) (b : List Nat) (s : Rs) : Prop where
  bel : Below W.heap.size W w
  ge : W.heap.size ≤ g
  blk : ∃ a : Int, Blk w g 110 #[.slice B n c, .int .i64 a, .int .i64 (rsE s : Int)] ∧ ∀ m : Nat, s = .ok m → a = (m : Int)
  rd : Rd W B (u8s b)
  byte : ∀ x ∈ b, x < 256
  len : n = b.length
  max : n ≤ 100000
  ne : ∀ e, s = .error e → e ≠ 0
  in_ : ∀ m, s = .ok m → m ≤ 8 * n

section
variable {W w w' : World} {g : Nat} {B : Option Addr} {n c : Nat} {b : List Nat} {s : Rs}
theorem RdrAt.bs (h : RdrAt W w g B n c b s) : Bs w B b := rd_u8 (h.rd.below h.bel) h.byte
theorem RdrAt.lt (h : RdrAt W w g B n c b s) : g < w.heap.size := by obtain ⟨a, hb, _⟩ := h.blk; exact hb.lt
theorem RdrAt.below (h : RdrAt W w g B n c b s) (hb : Below w.heap.size w w') : RdrAt W w' g B n c b s :=
  ⟨h.bel.trans (hb.mono h.bel.size), h.ge, by obtain ⟨a, hk, h2⟩ := h.blk; exact ⟨a, hk.below hb hk.lt, h2⟩, h.rd, h.byte, h.len, h.max, h.ne, h.in_⟩
theorem RdrAt.alloc (h : RdrAt W w g B n c b s) (o : Obj) : RdrAt W (w.alloc o) g B n c b s := h.below ((Below.refl _ _).alloc (Nat.le_refl _) o)
theorem RdrAt.drew (h : RdrAt W w g B n c b s) : RdrAt W w.drew g B n c b s := h.below (Below.refl _ _).drew
theorem RdrAt.drewN (h : RdrAt W w g B n c b s) (k : Nat) : RdrAt W (w.drewN k) g B n c b s := h.below (below_drewN' (Below.refl _ _) k)
/-- .. where another block than the reader's turns. -/
theorem RdrAt.other (h : RdrAt W w g B n c b s) {g' : Nat} (hg : w.grownBy w' (some g')) (hne : g ≠ g') (hge : W.heap.size ≤ g') : RdrAt W w' g B n c b s :=
  ⟨h.bel.trans (only_below hg h.bel.size hge), h.ge, by obtain ⟨a, hk, h2⟩ := h.blk; exact ⟨a, hk.grown hg (by intro e; injection e with e; exact hne e), h2⟩, h.rd, h.byte, h.len, h.max, h.ne, h.in_⟩
theorem only_refl'' (w : World) (g : Nat) : w.grownBy w (some g) := ⟨rfl, rfl, rfl, Nat.le_refl _, fun _ _ _ => rfl⟩
theorem only_of_below {row : Option Nat} (h : Below w.heap.size w w') : w.grownBy w' row := ⟨h.os, h.tape, h.output, h.size, fun k hk _ => h.block k hk⟩
theorem only_trans {a b c : World} {row : Option Nat} (h : a.grownBy b row) (k : b.grownBy c row) : a.grownBy c row :=
  ⟨k.os.trans h.os, k.tape.trans h.tape, k.output.trans h.output, Nat.le_trans h.size k.size, fun i hi hne => (k.block i (Nat.lt_of_lt_of_le hi h.size) hne).trans (h.block i hi hne)⟩
/-- Nothing below a bound has turned, where what turned lies above. -/
theorem Below.then_only {a w w' : World} {B g : Nat} (h : Below B a w) (k : w.grownBy w' (some g)) (hB : B ≤ w.heap.size) (hg : B ≤ g) : Below B a w' := h.trans (only_below k hB hg)
end

set_option maxRecDepth 100000 in
set_option maxHeartbeats 1000000 in
theorem rfail_any (W w : World) (g : Nat) (B : Option Addr) (n c : Nat) (b : List Nat) (s : Rs) (u : Bool) (e : Nat) (he : u = false → e ≠ 0) (h : RdrAt W w g B n c b s) :
    Calls Tryz.prog 75 #[.pointer (some ⟨g, 0, none⟩), .bool u, .int .i64 (e : Int)] w fun r w' => r = .returned (.tuple #[]) ∧ RdrAt W w' g B n c b (rsFail s u e) ∧ w.grownBy w' (some g) := by
  obtain ⟨a, hk, ha⟩ := h.blk
  have c2 : w.cell? ⟨g, 2, none⟩ = some (.int .i64 (rsE s : Int)) := hk.cell 2
  have f2 := hk.frozen 2
  cases s with
  | error e' =>
    have he' := h.ne e' rfl
    have ht : (((rsE (.error e' : Rs) : Nat) : Int) == 0) = false := by rw [beq_eq_false_iff_ne]; simp only [rsE]; omega
    go_enter Tryz.func75, Tryz.ntmps75
    go_wp2_with fail
    go_end0
    exact ⟨rfl, h, only_refl'' _ _⟩
  | ok m =>
    have c2 : w.cell? ⟨g, 2, none⟩ = some (.int .i64 0) := c2
    cases u with
    | true =>
      go_enter Tryz.func75, Tryz.ntmps75
      go_wp2_with fail
      go_end0
      exact ⟨rfl, h, only_refl'' _ _⟩
    | false =>
      have HE := Lib.hid (he rfl)
      clear he
      go_enter Tryz.func75, Tryz.ntmps75
      go_wp2_with fail
      go_end0
      refine ⟨rfl, ⟨h.bel.setCell h.ge _, h.ge, ⟨a, hk.set_ 2 _, fun m h => (by cases h)⟩, h.rd, h.byte, h.len, h.max, fun e' h' => (by cases h'; exact HE.out), fun m h => (by cases h)⟩, only_set (only_refl'' _ _) 2 _⟩

/-- What a number's reading leaves behind. -/
def RdRes (W w w' : World) (g : Nat) (B : Option Addr) (n c : Nat) (b : List Nat) (r : Ending) (v : Nat) (s : Rs) : Prop :=
  r = .returned (.int .i64 (v : Int)) ∧ RdrAt W w' g B n c b s ∧ w.grownBy w' (some g)
set_option maxRecDepth 100000 in
set_option maxHeartbeats 2000000 in
theorem rtakeN_any (W w : World) (g : Nat) (B : Option Addr) (n c : Nat) (b : List Nat) (s : Rs) (k : Nat) (hk : k ≤ 32) (h : RdrAt W w g B n c b s) :
    Calls Tryz.prog 74 #[.pointer (some ⟨g, 0, none⟩), .int .i64 (k : Int)] w fun r w' => RdRes W w w' g B n c b r (rsV s (tkP k) b) (rsGo s (tkP k) b) := by
  obtain ⟨a, hb, ha⟩ := h.blk
  have c0 : w.cell? ⟨g, 0, none⟩ = some (.slice B n c) := hb.cell 0
  have c1 : w.cell? ⟨g, 1, none⟩ = some (.int .i64 a) := hb.cell 1
  have c2 : w.cell? ⟨g, 2, none⟩ = some (.int .i64 (rsE s : Int)) := hb.cell 2
  cases s with
  | error e' =>
    have he' := h.ne e' rfl
    have ht : ¬ (((rsE (.error e' : Rs) : Nat) : Int) = 0) := by simp only [rsE]; omega
    go_enter Tryz.func74, Tryz.ntmps74
    go_wp2_with fail
    go_ret
    exact ⟨rfl, h, only_refl'' _ _⟩
  | ok m =>
    obtain rfl := ha m rfl
    have c2 : w.cell? ⟨g, 2, none⟩ = some (.int .i64 0) := c2
    have hm := h.in_ m rfl
    have hn := h.max
    have hlen := h.len
    by_cases hfit : m + k ≤ 8 * b.length
    · have HT := Lib.hid fun q => show Calls Tryz.prog 98 #[.slice B n c, .int .i64 (m : Int), .int .i64 (k : Int)] (w.drewN q) (fun e w' => e = .returned (.tuple #[.int .u32 ((numOf b m k : Nat) : Int), .int .i64 0]) ∧ w.drewN q = w') from by
        have := take_ok B c b m k (w.drewN q) (h.drewN q).bs (by omega) hk hfit
        rw [← hlen] at this
        exact this
      have hv := numOf_lt32 b m k hk
      have hgo : rsGo (.ok m) (tkP k) b = .ok (m + k) := rsGo_ok (tkP_ok hfit)
      have hva : rsV (.ok m) (tkP k) b = numOf b m k := rsV_ok (tkP_ok hfit)
      rw [hgo, hva]
      generalize numOf b m k = v at *
      have HF := Lib.hid fun q => rfail_any W (w.drewN q) g B n c b (.ok m) true 0 (fun h => by cases h) (h.drewN q)
      have HL := Lib.hid (And.intro hlen (And.intro hfit ha))
      clear hlen hfit ha hgo hva
      go_enter Tryz.func74, Tryz.ntmps74
      go_wp2_with fail
      go_quiet ((go_at_call 98; refine Calls.quiet_of_same ((HT.out _).mono fun _ _ ⟨h1, h2⟩ => ⟨h1, h2.symm⟩)))
      go_wp2_with fail
      refine (HF.out _).mono ?_
      rintro e w2 ⟨rfl, hr2, hg2⟩
      obtain ⟨a2, hb2, ha2⟩ := hr2.blk
      obtain rfl := ha2 m rfl
      have d1 : w2.cell? ⟨g, 1, none⟩ = some (.int .i64 (m : Int)) := hb2.cell 1
      have f2 := hb2.frozen 1
      clear c0 c1 c2
      go_wp2_with fail
      go_ret
      refine ⟨by simp, ⟨hr2.bel.setCell hr2.ge _, hr2.ge, ⟨_, hb2.set_ 1 _, fun m' h' => (by cases h'; simp)⟩, hr2.rd, hr2.byte, hr2.len, hr2.max, fun e h => (by cases h), fun m' h' => (by cases h'; have := HL.out.2.1; have := HL.out.1; omega)⟩, ?_⟩
      exact only_set (only_trans (only_drewN (only_refl'' _ _) _) hg2) 1 _
    · have HT := Lib.hid fun q => show Calls Tryz.prog 98 #[.slice B n c, .int .i64 (m : Int), .int .i64 (k : Int)] (w.drewN q) (fun e w' => e = .returned (.tuple #[.int .u32 ((0 : Nat) : Int), .int .i64 ((10 : Nat) : Int)]) ∧ w.drewN q = w') from by
        have := take_end B c b m k (w.drewN q) (by omega) (by omega) (by omega) (by omega) (by omega)
        rw [← hlen] at this
        exact this
      have hgo : rsGo (.ok m) (tkP k) b = .error 10 := rsGo_err (tkP_no (by omega))
      have hva : rsV (.ok m) (tkP k) b = 0 := rsV_err (tkP_no (by omega))
      rw [hgo, hva]
      have HF := Lib.hid fun q => show Calls Tryz.prog 75 #[.pointer (some ⟨g, 0, none⟩), .bool false, .int .i64 10] (w.drewN q) _ from rfail_any W (w.drewN q) g B n c b (.ok m) false 10 (fun _ => by omega) (h.drewN q)
      clear hlen hfit ha hgo hva
      go_enter Tryz.func74, Tryz.ntmps74
      go_wp2_with fail
      go_quiet ((go_at_call 98; refine Calls.quiet_of_same ((HT.out _).mono fun _ _ ⟨h1, h2⟩ => ⟨h1, h2.symm⟩)))
      go_wp2_with fail
      refine (HF.out _).mono ?_
      rintro e w2 ⟨rfl, hr2, hg2⟩
      obtain ⟨a2, hb2, _⟩ := hr2.blk
      have d1 : w2.cell? ⟨g, 1, none⟩ = some (.int .i64 a2) := hb2.cell 1
      have f2 := hb2.frozen 1
      clear c0 c1 c2
      go_wp2_with fail
      go_ret
      refine ⟨by simp, ⟨hr2.bel.setCell hr2.ge _, hr2.ge, ⟨_, hb2.set_ 1 _, fun m' h' => (by cases h')⟩, hr2.rd, hr2.byte, hr2.len, hr2.max, fun e h => (by cases h; omega), fun m' h' => (by cases h')⟩, ?_⟩
      exact only_set (only_trans (only_drewN (only_refl'' _ _) _) hg2) 1 _

theorem putS_len (n : Nat) : ∀ (r : List Int) (o o' : List Nat), putS n r o = some o' → o'.length = o.length
  | [], o, o', h => by unfold putS at h; injection h with h; rw [h]
  | s :: r, o, o', h => by
    rw [putS] at h
    split at h
    · cases h
    · have := putS_len n r _ _ h
      rw [this, List.length_set]
theorem rowsT_len (f : Nat → Int) : ∀ (k n : Nat) (xs : List Int) (o o' : List Nat) (r : List Int), rowsT f k n xs o = some (o', r) → o'.length = o.length
  | 0, n, xs, o, o', r, h => by unfold rowsT at h; injection h with h; injection h with h; rw [h]
  | k + 1, n, xs, o, o', r, h => by
    rw [rowsT] at h
    split at h
    · cases h
    · split at h
      · cases h
      · rename_i o2 h2
        rw [rowsT_len f k _ _ _ _ _ h, putS_len _ _ _ _ h2]
theorem chk_320 {f : Nat → Int} {xs : List Int} {l : List Nat} (h : chkT f xs = some l) : l.length = 320 := by
  unfold chkT at h
  split at h
  · cases h
  · split at h
    · cases h
    · rename_i o r hr
      unfold endT at h
      split at h
      · injection h with h
        subst h
        rw [rowsT_len f _ _ _ _ _ _ hr, List.length_replicate]
      · cases h
theorem padL_full {l : List Nat} (h : l.length = 320) : padL l = l := by unfold padL; rw [h]; simp

theorem rd_zero (l b : List Nat) : ∀ j n v a, (rdT l b j n v a).2.2 ≠ 0 → (rdT l b j n v a).1 = 0 ∧ (rdT l b j n v a).2.1 = 0
  | 0, _, _, _ => fun _ => ⟨rfl, rfl⟩
  | j + 1, n, v, a => by
    cases hh : hitF l n v with
    | some i => rw [rd_hit hh]; intro h; exact absurd rfl h
    | none =>
      cases hm : moreN l n v l.length with
      | false => rw [rd_code hh hm]; exact fun _ => ⟨rfl, rfl⟩
      | true =>
        by_cases ha : a < 8 * b.length
        · rw [rd_go hh hm ha]; exact rd_zero l b j _ _ _
        · rw [rd_end hh hm (by omega)]; exact fun _ => ⟨rfl, rfl⟩

set_option maxRecDepth 100000 in
set_option maxHeartbeats 2000000 in
theorem rsymbol_any (W w : World) (g : Nat) (B : Option Addr) (n c : Nat) (b : List Nat) (s : Rs) (f : Nat → Int) (A : Option Addr) (m d : Nat) (xs : List Int) (l : List Nat) (hx : Rd w A (ints xs)) (hm : m = xs.length) (hd : m ≤ d) (hm1 : m ≤ 1001) (hl : chkT f xs = some l) (h : RdrAt W w g B n c b s) :
    Calls Tryz.prog 79 #[.pointer (some ⟨g, 0, none⟩), .agg (cellsOf 17 (treeH f (.slice A m d)))] w fun r w' => RdRes W w w' g B n c b r (rsV s (syP l) b) (rsGo s (syP l) b) := by
  obtain ⟨a, hb, ha⟩ := h.blk
  have hbw : Below w.heap.size w (w.alloc (.cells (cellsOf 17 (treeH f (.slice A m d))) 26)) := (Below.refl _ _).alloc (Nat.le_refl _) _
  have ka : Arr (w.alloc (.cells (cellsOf 17 (treeH f (.slice A m d))) 26)) w.heap.size 26 17 (treeH f (.slice A m d)) := Blk.new _ _ _
  have hb := hb.alloc (.cells (cellsOf 17 (treeH f (.slice A m d))) 26)
  have h0 := h.alloc (.cells (cellsOf 17 (treeH f (.slice A m d))) 26)
  have HM := Lib.hid hm
  clear hm
  cases s with
  | error e' =>
    have he' := h.ne e' rfl
    have ht : ¬ (((rsE (.error e' : Rs) : Nat) : Int) = 0) := by simp only [rsE]; omega
    go_enter Tryz.func79, Tryz.ntmps79
    go_upto_region 1 with (fail)
    change Code.wp _ _ _ _ (w.alloc (.cells (cellsOf 17 (treeH f (.slice A m d))) 26))
    generalize w.alloc (.cells (cellsOf 17 (treeH f (.slice A m d))) 26) = W1 at *
    have c2 : W1.cell? ⟨g, 2, none⟩ = some (.int .i64 (rsE (.error e' : Rs) : Int)) := hb.cell 2
    go_wp2_with fail
    go_ret
    exact ⟨rfl, h0, only_of_below hbw⟩
  | ok p =>
    obtain rfl := ha p rfl
    have hp := h.in_ p rfl
    have hn := h.max
    have hlen := h.len
    have HT := Lib.hid fun wx (hxx : Rd wx A (ints xs)) (hbs : Bs wx B b) => show Calls Tryz.prog 102 #[.agg (cellsOf 17 (treeH f (.slice A m d))), .slice B n c, .int .i64 (p : Int)] wx (fun e w' => ReadRes wx w' e (rdT (padL l) b 16 0 0 p)) from by
      have := tnext_any f A B m d n c xs b p wx hxx HM.out hd hm1 hbs hlen hn (by omega) (by omega)
      rw [nx_some hl (by omega), Int.toNat_natCast] at this
      rw [padL_full (chk_320 hl)]
      exact this
    obtain ⟨x, y, z, hr⟩ : ∃ x y z, rdT (padL l) b 16 0 0 p = (x, y, z) := ⟨_, _, _, rfl⟩
    have hz : z = 0 ∨ z = 10 ∨ z = 50 := by have := rd_err (padL l) b 16 0 0 p; rw [hr] at this; exact this
    have hle15 : z = 0 → y ≤ 8 * n := fun e => by
      have := (rd_span (padL l) b ((padL l).foldr max 0) (le_fold _) 16 0 0 p (by omega)).1
      rw [hr] at this
      exact hlen ▸ (this e).2.2.1 (by omega)
    unfold ReadRes at HT
    rw [hr] at HT
    dsimp only at HT
    by_cases hz0 : z = 0
    · subst hz0
      have hgo : rsGo (.ok p) (syP l) b = .ok y := rsGo_ok (syP_ok hr)
      have hva : rsV (.ok p) (syP l) b = x := rsV_ok (syP_ok hr)
      have hy := hle15 rfl
      rw [hgo, hva]
      clear hgo hva hle15 hz hr ha hl hlen HM hd hm1
      go_enter Tryz.func79, Tryz.ntmps79
      go_upto_region 1 with (fail)
      change Code.wp _ _ _ _ (w.alloc (.cells (cellsOf 17 (treeH f (.slice A m d))) 26))
      have hxx := hx.below hbw
      have HW := Lib.hid (only_of_below (row := some g) hbw)
      generalize w.alloc (.cells (cellsOf 17 (treeH f (.slice A m d))) 26) = W1 at *
      have hlt := hb.lt
      have c2 : W1.cell? ⟨g, 2, none⟩ = some (.int .i64 0) := hb.cell 2
      go_wp2_with fail
      have cc : ∀ q : Wx W1, q.w.cell? ⟨g, 0, none⟩ = some (.slice B n c) ∧ q.w.cell? ⟨g, 1, none⟩ = some (.int .i64 (p : Int)) := fun q => ⟨(hb.below q.b hlt).cell 0, (hb.below q.b hlt).cell 1⟩
      have c0 : ∀ q : Wx W1, q.w.cell? ⟨g, 0, none⟩ = some (.slice B n c) := fun q => (cc q).1
      have c1 : ∀ q : Wx W1, q.w.cell? ⟨g, 1, none⟩ = some (.int .i64 (p : Int)) := fun q => (cc q).2
      have K3 : ∀ w', (∃ q : Wx W1, w' = q.w) → Arr w' w.heap.size 26 17 (treeH f (.slice A m d)) := by rintro _ ⟨q, rfl⟩; exact Arr.below ka q.b (Blk.lt ka)
      have HT2 := Lib.hid fun q : Wx W1 => HT.out q.w (hxx.below q.b) (h0.bs.below q.b)
      clear c2 cc
      refine wp_region_ext (by kernel_rfl) (by kernel_rfl) ?_
      repeat (first
        | (go_big_quiet_want; refine quiet_row 26 (.tmp 3) rfl rfl K3 tree_under rfl tree_size ?_; go_big_quiet_on; simp only [Act.put, List.setIfInBounds_toArray, List.set_cons_zero, List.set_cons_succ])
        | (go_big_quiet_step (first | (go_at_call 102; with_reducible exact Calls.ext _ (HT2.out _)))))
      refine wpQuiet_nil ?_
      rintro w2 ⟨q2, hq2⟩
      have hb2 : Below W1.heap.size W1 w2 := hq2 ▸ q2.b
      clear hq2 q2 c0 c1 K3 HT2 HT
      have h2 := h0.below hb2
      have HF := Lib.hid (rfail_any W w2 g B n c b (.ok p) true 0 (fun h => by cases h) h2)
      go_wp2_with fail
      refine (HF.out).mono ?_
      rintro e w3 ⟨rfl, hr3, hg3⟩
      obtain ⟨a3, hb3, _⟩ := hr3.blk
      have f3 := hb3.frozen 1
      have d1 : w3.cell? ⟨g, 1, none⟩ = some (.int .i64 a3) := hb3.cell 1
      go_wp2_with fail
      go_ret
      refine ⟨rfl, ⟨hr3.bel.setCell hr3.ge _, hr3.ge, ⟨_, hb3.set_ 1 _, fun m' h' => (by cases h'; rfl)⟩, hr3.rd, hr3.byte, hr3.len, hr3.max, fun e h => (by cases h), fun m' h' => (by cases h'; exact hy)⟩, ?_⟩
      exact only_set (only_trans HW.out (only_trans (only_of_below hb2) hg3)) 1 _
    · have hgo : rsGo (.ok p) (syP l) b = .error z := rsGo_err (syP_no hr hz0)
      have hva : rsV (.ok p) (syP l) b = 0 := rsV_err (syP_no hr hz0)
      have hx0 : x = 0 ∧ y = 0 := by have := rd_zero (padL l) b 16 0 0 p; rw [hr] at this; exact this hz0
      obtain ⟨rfl, rfl⟩ := hx0
      have hze : ((z : Int) == 0) = false := by rw [beq_eq_false_iff_ne]; omega
      rw [hgo, hva]
      clear hgo hva hle15 hz hr ha hl hlen HM hd hm1
      go_enter Tryz.func79, Tryz.ntmps79
      go_upto_region 1 with (fail)
      change Code.wp _ _ _ _ (w.alloc (.cells (cellsOf 17 (treeH f (.slice A m d))) 26))
      have hxx := hx.below hbw
      have HW := Lib.hid (only_of_below (row := some g) hbw)
      generalize w.alloc (.cells (cellsOf 17 (treeH f (.slice A m d))) 26) = W1 at *
      have hlt := hb.lt
      have c2 : W1.cell? ⟨g, 2, none⟩ = some (.int .i64 0) := hb.cell 2
      go_wp2_with fail
      have cc : ∀ q : Wx W1, q.w.cell? ⟨g, 0, none⟩ = some (.slice B n c) ∧ q.w.cell? ⟨g, 1, none⟩ = some (.int .i64 (p : Int)) := fun q => ⟨(hb.below q.b hlt).cell 0, (hb.below q.b hlt).cell 1⟩
      have c0 : ∀ q : Wx W1, q.w.cell? ⟨g, 0, none⟩ = some (.slice B n c) := fun q => (cc q).1
      have c1 : ∀ q : Wx W1, q.w.cell? ⟨g, 1, none⟩ = some (.int .i64 (p : Int)) := fun q => (cc q).2
      have K3 : ∀ w', (∃ q : Wx W1, w' = q.w) → Arr w' w.heap.size 26 17 (treeH f (.slice A m d)) := by rintro _ ⟨q, rfl⟩; exact Arr.below ka q.b (Blk.lt ka)
      have HT2 := Lib.hid fun q : Wx W1 => HT.out q.w (hxx.below q.b) (h0.bs.below q.b)
      clear c2 cc
      refine wp_region_ext (by kernel_rfl) (by kernel_rfl) ?_
      repeat (first
        | (go_big_quiet_want; refine quiet_row 26 (.tmp 3) rfl rfl K3 tree_under rfl tree_size ?_; go_big_quiet_on; simp only [Act.put, List.setIfInBounds_toArray, List.set_cons_zero, List.set_cons_succ])
        | (go_big_quiet_step (first | (go_at_call 102; with_reducible exact Calls.ext _ (HT2.out _)))))
      refine wpQuiet_nil ?_
      rintro w2 ⟨q2, hq2⟩
      have hb2 : Below W1.heap.size W1 w2 := hq2 ▸ q2.b
      clear hq2 q2 c0 c1 K3 HT2 HT
      have h2 := h0.below hb2
      have HF := Lib.hid (rfail_any W w2 g B n c b (.ok p) false z (fun _ => hz0) h2)
      go_wp2_with fail
      refine (HF.out).mono ?_
      rintro e w3 ⟨rfl, hr3, hg3⟩
      obtain ⟨a3, hb3, _⟩ := hr3.blk
      have f3 := hb3.frozen 1
      have d1 : w3.cell? ⟨g, 1, none⟩ = some (.int .i64 a3) := hb3.cell 1
      go_wp2_with fail
      go_ret
      refine ⟨rfl, ⟨hr3.bel.setCell hr3.ge _, hr3.ge, ⟨_, hb3.set_ 1 _, fun m' h' => (by cases h')⟩, hr3.rd, hr3.byte, hr3.len, hr3.max, fun e h => (by cases h; exact hz0), fun m' h' => (by cases h')⟩, ?_⟩
      exact only_set (only_trans HW.out (only_trans (only_of_below hb2) hg3)) 1 _
end Go.Proofs.YtahboomghjdjhaaGreat

/-
  Walks: a reader's grow and number.
-/
namespace Go.Proofs.YtahboomghjdjhaaGreat
open Go.RowKit

theorem own_only {w w' : World} {base e size n : Nat} {v : Value} {xs : List Value} {g : Nat} {t : TypeId} {cs : Array Value} (h : w.ownsRow base e size v n xs) (k : Blk w g t cs) (hne : e ≠ t) (hg : w.grownBy w' (some g)) : w'.ownsRow base e size v n xs :=
  h.kept hg (.inr (own_blk_ne h k hne))
theorem RdrAt.own {W w w' : World} {g : Nat} {B : Option Addr} {n c : Nat} {b : List Nat} {s : Rs} (h : RdrAt W w g B n c b s) {base e size m : Nat} {v : Value} {xs : List Value} (ho : w.ownsRow base e size v m xs) (hne : e ≠ 110) (hg : w.grownBy w' (some g)) : w'.ownsRow base e size v m xs := by
  obtain ⟨a, hb, _⟩ := h.blk
  exact own_only ho hb hne hg

theorem bitN_no {f : Nat} {t : List (Nat × Nat × Nat)} {s : Int} (h : bitE f t s ≠ 0) : bitN f t s = 0 := by
  unfold bitE at h
  split at h
  · rename_i hc; unfold bitN; rw [if_pos hc]
  · exact absurd rfl h
/-- What a grown tree is. -/
def GrwRes (W w w' : World) (g : Nat) (B : Option Addr) (n c : Nat) (b : List Nat) (s : Rs) (f : Nat → Int) (xs : List Int) (r : Ending) : Prop :=
  ∃ C m d, r = .returned (.agg (cellsOf 17 (treeH f (.slice C m d)))) ∧ m = xs.length ∧ RdrAt W w' g B n c b s ∧ w.grownBy w' (some g) ∧ w'.ownsRow w.heap.size 3 1 (.slice C m d) m (ints xs)

set_option maxRecDepth 100000 in
set_option maxHeartbeats 2000000 in
theorem rdgrow_any (W w : World) (g : Nat) (B : Option Addr) (n c : Nat) (b : List Nat) (s : Rs) (A : Option Addr) (nl cl : Nat) (l : List Nat) (m : Int) (hA : Bs w A l) (hnl : nl = l.length) (hl : nl ≤ 1001) (h1 : -9223372036854775808 ≤ m) (h2 : m ≤ 9223372036854775807) (h : RdrAt W w g B n c b s) :
    Calls Tryz.prog 77 #[.pointer (some ⟨g, 0, none⟩), .slice A nl cl, .int .i64 m] w fun r w' => GrwRes W w w' g B n c b (rsFail s (decide (canE l m = 0)) 132) (gF l m) (gX l m) r := by
  have HG := Lib.hid fun wx (h : Bs wx A l) => grow_is A cl nl l m wx h hnl hl h1 h2
  have h31 := canE_le l m
  have hbw : Below w.heap.size w (w.alloc (.cells (cellsOf 17 (treeH (fun _ => 0) (.slice none 0 0))) 26)) := (Below.refl _ _).alloc (Nat.le_refl _) _
  have k6 : Arr (w.alloc (.cells (cellsOf 17 (treeH (fun _ => 0) (.slice none 0 0))) 26)) w.heap.size 26 17 (treeH (fun _ => 0) (.slice none 0 0)) := Blk.new _ _ _
  have hg0 := h.lt
  obtain ⟨k, hk⟩ : ∃ k, (gX l m).length = k := ⟨_, rfl⟩
  have HK := Lib.hid hk
  generalize hE : canE l m = E at *
  rw [hk] at HG
  generalize gF l m = F at *
  generalize gX l m = X at *
  clear hk hE hnl
  have HE := Lib.hid fun wx (hx : RdrAt W wx g B n c b s) => rfail_any W wx g B n c b s (((E : Int) == 0)) 132 (fun _ => by omega) hx
  have hEE : (((E : Int) == 0)) = decide (E = 0) := by rw [Bool.eq_iff_iff, beq_iff_eq, decide_eq_true_iff]; omega
  have HEE := Lib.hid hEE
  clear hEE
  go_enter Tryz.func77, Tryz.ntmps77
  go_upto_region 1 with (fail)
  change Code.wp _ _ _ _ (w.alloc (.cells (cellsOf 17 (treeH (fun _ => 0) (.slice none 0 0))) 26))
  have hA1 := hA.below hbw
  have hr1 := h.below hbw
  generalize w.alloc (.cells (cellsOf 17 (treeH (fun _ => 0) (.slice none 0 0))) 26) = W1 at *
  go_upto_region 2 with (first
    | (go_at_call 57; refine (HG.out _ hA1).mono ?_; rintro e w2 ⟨C, d, rfl, hB2⟩)
    | (refine store_new rfl 26 (.tmp 7) (.tmp 13) rfl _ _ rfl rfl rfl 26 _ (by rw [cellsOf_size]; exact tree_size) (by rw [cellsOf_size]; rfl) (cellsOf_one (fun k _ => treeH_one _ _ _ _ k)) ?_))
  change Code.wp _ _ _ _ (w2.alloc (.cells (cellsOf 17 (treeH F (.slice C k d))) 26))
  have k7 : Arr (w2.alloc (.cells (cellsOf 17 (treeH F (.slice C k d))) 26)) w2.heap.size 26 17 (treeH F (.slice C k d)) := Blk.new _ _ _
  have hb2 : Below W1.heap.size W1 (w2.alloc (.cells (cellsOf 17 (treeH F (.slice C k d))) 26)) := hB2.1.alloc hB2.1.size _
  have o2 := own_far_base (hB2.2.alloc (.cells (cellsOf 17 (treeH F (.slice C k d))) 26)) hbw.size
  have hlt2 : w.heap.size < w2.heap.size := Nat.lt_of_lt_of_le (Blk.lt k6) hB2.1.size
  have k6 := Arr.below k6 hb2 (Blk.lt k6)
  have hr2 := hr1.below hb2
  have hbw := hbw.trans (hb2.mono hbw.size)
  generalize w2.alloc (.cells (cellsOf 17 (treeH F (.slice C k d))) 26) = W2 at *
  clear hb2 hB2 hr1 hA1 HG
  go_upto_region 3 with (go_at_call 75; refine (HE.out _ hr2).mono ?_; rintro e w3 ⟨rfl, hr3, hg3⟩)
  have hgW := hr2.lt
  have hne6 : w.heap.size ≠ g := by omega
  have hne7 : w2.heap.size ≠ g := by omega
  have k6 : Arr w3 w.heap.size 26 17 (treeH (fun _ => 0) (.slice none 0 0)) := Blk.grown k6 hg3 (by intro e; injection e with e; exact hne6 e)
  have k7 : Arr w3 w2.heap.size 26 17 (treeH F (.slice C k d)) := Blk.grown k7 hg3 (by intro e; injection e with e; exact hne7 e)
  have o3 := hr2.own o2 (by decide) hg3
  have hb3 := only_trans (only_of_below (row := some g) hbw) hg3
  have hW6 : W.heap.size ≤ w.heap.size := h.bel.size
  rw [HEE.out] at hr3
  go_wp2_with (first
    | (refine load_arr rfl 26 (.tmp 7) rfl rfl k7 tree_under rfl tree_size ?_)
    | (refine store_over rfl 26 (.tmp 6) (.tmp 19) rfl rfl rfl k6 tree_size (fun i _ => treeH_one _ _ _ _ i) ?_; intro w4 k64 hg4))
  have o4 := own_only o3 k6 (by decide) hg4
  have hr4 := hr3.other hg4 (Ne.symm hne6) hW6
  have hb4 : w.grownBy w4 (some g) := ⟨hg4.os.trans hb3.os, hg4.tape.trans hb3.tape, hg4.output.trans hb3.output, Nat.le_trans hb3.size hg4.size, fun i hi hne => (hg4.block i (Nat.lt_of_lt_of_le hi hb3.size) (fun e => by injection e with e; omega)).trans (hb3.block i hi hne)⟩
  refine bodyPost_ret (results_cell_row Tryz.results77 _ _ w.heap.size 26 _ (0, 0) _ rfl k64 tree_under rfl (by rw [cellsOf_size]; exact tree_size)) rfl ?_
  exact ⟨C, k, d, rfl, HK.out.symm, hr4, hb4, o4⟩

set_option maxRecDepth 100000 in
set_option maxHeartbeats 4000000 in
theorem rdnum_Long (W w : World) (g : Nat) (B : Option Addr) (n c : Nat) (b : List Nat) (s : Rs) (sym : Nat) (hsym : sym ≤ 1000) (h : RdrAt W w g B n c b s) :
    Calls Tryz.prog 80 #[.pointer (some ⟨g, 0, none⟩), .int .i64 (sym : Int), .func (.func 81) #[] #[], .func (.func 82) #[] #[]] w fun r w' => RdRes W w w' g B n c b r (rsV s (exP 257 longT sym) b) (rsGo s (exP 257 longT sym) b) := by
  obtain ⟨a, hb, ha⟩ := h.blk
  have c2 : w.cell? ⟨g, 2, none⟩ = some (.int .i64 (rsE s : Int)) := hb.cell 2
  cases s with
  | error e' =>
    have he' := h.ne e' rfl
    have ht : ¬ (((rsE (.error e' : Rs) : Nat) : Int) = 0) := by simp only [rsE]; omega
    go_enter Tryz.func80, Tryz.ntmps80
    go_wp2_with fail
    go_ret
    exact ⟨rfl, h, only_refl'' _ _⟩
  | ok p =>
    have c2 : w.cell? ⟨g, 2, none⟩ = some (.int .i64 0) := c2
    clear ha hb
    have HB := Lib.hid fun wx => LongBits_any (sym : Int) wx (by omega) (by omega)
    by_cases h0 : bitE 257 longT sym = 0
    · have hk : bitN 257 longT sym ≤ 13 := by rw [(bitE_zero h0).2.2]; exact Nat.le_trans (rowT_long _).1 (by omega)
      obtain ⟨k, hkk⟩ : ∃ k, bitN 257 longT sym = k := ⟨_, rfl⟩
      rw [h0, hkk] at HB
      rw [hkk] at hk
      have hex : exP 257 longT sym = paBind (tkP k) fun x => if numE 257 longT sym x ≠ 0 then paNo (numE 257 longT sym x) else paOk (numV 257 longT sym x).toNat := by
        unfold exP; rw [if_neg (by rw [h0]; simp), hkk]
      rw [hex]
      have HF := Lib.hid fun wx (hx : RdrAt W wx g B n c b (.ok p)) => rfail_any W wx g B n c b (.ok p) true 0 (fun h => by cases h) hx
      have HT := Lib.hid fun wx (hx : RdrAt W wx g B n c b (.ok p)) => rtakeN_any W wx g B n c b (.ok p) k (by omega) hx
      by_cases hfit : p + k ≤ 8 * b.length
      · have hv : numOf b p k < 2 ^ 13 := Nat.lt_of_lt_of_le (numOf_lt b p k) (Nat.pow_le_pow_right (by omega) hk)
        rw [rsGo_ok (tkP_ok hfit), rsV_ok (tkP_ok hfit)] at HT
        generalize hvv : numOf b p k = v at *
        have HO := Lib.hid fun wx => LongOf_any (sym : Int) (v : Int) wx (by omega) (by omega) (by omega) (by omega)
        by_cases hn : numE 257 longT sym v = 0
        · obtain ⟨z1, z2, z3, z4, z5⟩ := num_zero hn
          obtain ⟨x, hx⟩ : ∃ x : Nat, numV 257 longT sym v = (x : Int) := ⟨(numV 257 longT sym v).toNat, by omega⟩
          have hgo : rsGo (.ok p) (paBind (tkP k) fun x => if numE 257 longT sym x ≠ 0 then paNo (numE 257 longT sym x) else paOk (numV 257 longT sym x).toNat) b = .ok (p + k) := rsGo_ok (x := x) (by rw [paBind_ok (tkP_ok hfit), hvv, if_neg (by rw [hn]; simp), hx]; rfl)
          have hva : rsV (.ok p) (paBind (tkP k) fun x => if numE 257 longT sym x ≠ 0 then paNo (numE 257 longT sym x) else paOk (numV 257 longT sym x).toNat) b = x := rsV_ok (n := p + k) (by rw [paBind_ok (tkP_ok hfit), hvv, if_neg (by rw [hn]; simp), hx]; rfl)
          rw [hgo, hva]
          rw [hn, hx] at HO
          have HF2 := Lib.hid fun wx (hx : RdrAt W wx g B n c b (.ok (p + k))) => rfail_any W wx g B n c b (.ok (p + k)) true 0 (fun h => by cases h) hx
          clear hgo hva hex hkk h0 hn hx z1 z2 z3 z4 z5 hvv hfit
          go_enter Tryz.func80, Tryz.ntmps80
          go_wp2_with fail
          refine (HB.out _).mono ?_
          rintro e w1 ⟨rfl, hb1⟩
          have h1 := h.below hb1
          have g1 := only_of_below (row := some g) hb1
          clear hb1 h c2
          go_wp2_with fail
          refine (HF.out _ h1).mono ?_
          rintro e w2 ⟨rfl, h2, g2⟩
          have g2 := only_trans g1 g2
          clear h1 g1
          go_wp2_with fail
          refine (HT.out _ h2).mono ?_
          rintro e w3 ⟨rfl, h3, g3⟩
          have g3 := only_trans g2 g3
          clear h2 g2
          obtain ⟨a3, hb3, _⟩ := h3.blk
          have d2 : w3.cell? ⟨g, 2, none⟩ = some (.int .i64 0) := hb3.cell 2
          go_wp2_with fail
          refine (HO.out _).mono ?_
          rintro e w4 ⟨rfl, hb4⟩
          have h4 := h3.below hb4
          have g4 := only_trans g3 (only_of_below hb4)
          clear h3 g3 d2 hb3
          go_wp2_with fail
          refine (HF2.out _ h4).mono ?_
          rintro e w5 ⟨rfl, h5, g5⟩
          go_wp2_with fail
          go_ret
          exact ⟨rfl, h5, only_trans g4 g5⟩
        · obtain ⟨E, hE⟩ : ∃ E, numE 257 longT sym v = E := ⟨_, rfl⟩
          have hx : numV 257 longT sym v = 0 := by unfold numV; rw [if_neg hn]
          have hgo : rsGo (.ok p) (paBind (tkP k) fun x => if numE 257 longT sym x ≠ 0 then paNo (numE 257 longT sym x) else paOk (numV 257 longT sym x).toNat) b = .error E := rsGo_err (by rw [paBind_ok (tkP_ok hfit), hvv, if_pos hn, hE]; rfl)
          have hva : rsV (.ok p) (paBind (tkP k) fun x => if numE 257 longT sym x ≠ 0 then paNo (numE 257 longT sym x) else paOk (numV 257 longT sym x).toNat) b = 0 := rsV_err (e := E) (by rw [paBind_ok (tkP_ok hfit), hvv, if_pos hn, hE]; rfl)
          rw [hgo, hva]
          rw [hx, hE] at HO
          rw [hE] at hn
          have hze : ((E : Int) == 0) = false := by rw [beq_eq_false_iff_ne]; omega
          have HF2 := Lib.hid fun wx (hx : RdrAt W wx g B n c b (.ok (p + k))) => rfail_any W wx g B n c b (.ok (p + k)) false E (fun _ => hn) hx
          clear hgo hva hex hkk h0 hn hx hvv hfit hE
          go_enter Tryz.func80, Tryz.ntmps80
          go_wp2_with fail
          refine (HB.out _).mono ?_
          rintro e w1 ⟨rfl, hb1⟩
          have h1 := h.below hb1
          have g1 := only_of_below (row := some g) hb1
          clear hb1 h c2
          go_wp2_with fail
          refine (HF.out _ h1).mono ?_
          rintro e w2 ⟨rfl, h2, g2⟩
          have g2 := only_trans g1 g2
          clear h1 g1
          go_wp2_with fail
          refine (HT.out _ h2).mono ?_
          rintro e w3 ⟨rfl, h3, g3⟩
          have g3 := only_trans g2 g3
          clear h2 g2
          obtain ⟨a3, hb3, _⟩ := h3.blk
          have d2 : w3.cell? ⟨g, 2, none⟩ = some (.int .i64 0) := hb3.cell 2
          go_wp2_with fail
          refine (HO.out _).mono ?_
          rintro e w4 ⟨rfl, hb4⟩
          have h4 := h3.below hb4
          have g4 := only_trans g3 (only_of_below hb4)
          clear h3 g3 d2 hb3
          go_wp2_with fail
          refine (HF2.out _ h4).mono ?_
          rintro e w5 ⟨rfl, h5, g5⟩
          go_wp2_with fail
          go_ret
          exact ⟨rfl, h5, only_trans g4 g5⟩
      · rw [rsGo_err (tkP_no (by omega)), rsV_err (tkP_no (by omega))] at HT
        have hgo : rsGo (.ok p) (paBind (tkP k) fun x => if numE 257 longT sym x ≠ 0 then paNo (numE 257 longT sym x) else paOk (numV 257 longT sym x).toNat) b = .error 10 := rsGo_err (paBind_no (tkP_no (by omega)))
        have hva : rsV (.ok p) (paBind (tkP k) fun x => if numE 257 longT sym x ≠ 0 then paNo (numE 257 longT sym x) else paOk (numV 257 longT sym x).toNat) b = 0 := rsV_err (paBind_no (tkP_no (by omega)))
        rw [hgo, hva]
        clear hgo hva hex hkk h0 hfit
        go_enter Tryz.func80, Tryz.ntmps80
        go_wp2_with fail
        refine (HB.out _).mono ?_
        rintro e w1 ⟨rfl, hb1⟩
        have h1 := h.below hb1
        have g1 := only_of_below (row := some g) hb1
        clear hb1 h c2
        go_wp2_with fail
        refine (HF.out _ h1).mono ?_
        rintro e w2 ⟨rfl, h2, g2⟩
        have g2 := only_trans g1 g2
        clear h1 g1
        go_wp2_with fail
        refine (HT.out _ h2).mono ?_
        rintro e w3 ⟨rfl, h3, g3⟩
        have g3 := only_trans g2 g3
        clear h2 g2
        obtain ⟨a3, hb3, _⟩ := h3.blk
        have d2 : w3.cell? ⟨g, 2, none⟩ = some (.int .i64 10) := hb3.cell 2
        go_wp2_with fail
        go_ret
        exact ⟨rfl, h3, g3⟩
    · have hE : bitE 257 longT sym = 90 := (bitE_or _ _ _).resolve_left h0
      have hN : bitN 257 longT sym = 0 := bitN_no h0
      have hex : exP 257 longT sym = paNo 90 := by unfold exP; rw [if_pos h0, hE]
      rw [hE, hN] at HB
      rw [hex]
      have HF := Lib.hid fun wx (hx : RdrAt W wx g B n c b (.ok p)) => rfail_any W wx g B n c b (.ok p) false 90 (fun _ => by omega) hx
      have HT := Lib.hid fun wx (hx : RdrAt W wx g B n c b (.error 90)) => rtakeN_any W wx g B n c b (.error 90) 0 (by omega) hx
      clear hex h0 hE hN
      go_enter Tryz.func80, Tryz.ntmps80
      go_wp2_with fail
      refine (HB.out _).mono ?_
      rintro e w1 ⟨rfl, hb1⟩
      have h1 := h.below hb1
      have g1 := only_of_below (row := some g) hb1
      clear hb1 h c2
      go_wp2_with fail
      refine (HF.out _ h1).mono ?_
      rintro e w2 ⟨rfl, h2, g2⟩
      have g2 := only_trans g1 g2
      clear h1 g1
      go_wp2_with fail
      refine (HT.out _ h2).mono ?_
      rintro e w3 ⟨rfl, h3, g3⟩
      have g3 := only_trans g2 g3
      clear h2 g2
      obtain ⟨a3, hb3, _⟩ := h3.blk
      have d2 : w3.cell? ⟨g, 2, none⟩ = some (.int .i64 90) := hb3.cell 2
      go_wp2_with fail
      go_ret
      exact ⟨rfl, h3, g3⟩

set_option maxRecDepth 100000 in
set_option maxHeartbeats 4000000 in
theorem rdnum_Far (W w : World) (g : Nat) (B : Option Addr) (n c : Nat) (b : List Nat) (s : Rs) (sym : Nat) (hsym : sym ≤ 1000) (h : RdrAt W w g B n c b s) :
    Calls Tryz.prog 80 #[.pointer (some ⟨g, 0, none⟩), .int .i64 (sym : Int), .func (.func 83) #[] #[], .func (.func 84) #[] #[]] w fun r w' => RdRes W w w' g B n c b r (rsV s (exP 0 farT sym) b) (rsGo s (exP 0 farT sym) b) := by
  obtain ⟨a, hb, ha⟩ := h.blk
  have c2 : w.cell? ⟨g, 2, none⟩ = some (.int .i64 (rsE s : Int)) := hb.cell 2
  cases s with
  | error e' =>
    have he' := h.ne e' rfl
    have ht : ¬ (((rsE (.error e' : Rs) : Nat) : Int) = 0) := by simp only [rsE]; omega
    go_enter Tryz.func80, Tryz.ntmps80
    go_wp2_with fail
    go_ret
    exact ⟨rfl, h, only_refl'' _ _⟩
  | ok p =>
    have c2 : w.cell? ⟨g, 2, none⟩ = some (.int .i64 0) := c2
    clear ha hb
    have HB := Lib.hid fun wx => FarBits_any (sym : Int) wx (by omega) (by omega)
    by_cases h0 : bitE 0 farT sym = 0
    · have hk : bitN 0 farT sym ≤ 13 := by rw [(bitE_zero h0).2.2]; exact rowT_far _
      obtain ⟨k, hkk⟩ : ∃ k, bitN 0 farT sym = k := ⟨_, rfl⟩
      rw [h0, hkk] at HB
      rw [hkk] at hk
      have hex : exP 0 farT sym = paBind (tkP k) fun x => if numE 0 farT sym x ≠ 0 then paNo (numE 0 farT sym x) else paOk (numV 0 farT sym x).toNat := by
        unfold exP; rw [if_neg (by rw [h0]; simp), hkk]
      rw [hex]
      have HF := Lib.hid fun wx (hx : RdrAt W wx g B n c b (.ok p)) => rfail_any W wx g B n c b (.ok p) true 0 (fun h => by cases h) hx
      have HT := Lib.hid fun wx (hx : RdrAt W wx g B n c b (.ok p)) => rtakeN_any W wx g B n c b (.ok p) k (by omega) hx
      by_cases hfit : p + k ≤ 8 * b.length
      · have hv : numOf b p k < 2 ^ 13 := Nat.lt_of_lt_of_le (numOf_lt b p k) (Nat.pow_le_pow_right (by omega) hk)
        rw [rsGo_ok (tkP_ok hfit), rsV_ok (tkP_ok hfit)] at HT
        generalize hvv : numOf b p k = v at *
        have HO := Lib.hid fun wx => FarOf_any (sym : Int) (v : Int) wx (by omega) (by omega) (by omega) (by omega)
        by_cases hn : numE 0 farT sym v = 0
        · obtain ⟨z1, z2, z3, z4, z5⟩ := num_zero hn
          obtain ⟨x, hx⟩ : ∃ x : Nat, numV 0 farT sym v = (x : Int) := ⟨(numV 0 farT sym v).toNat, by omega⟩
          have hgo : rsGo (.ok p) (paBind (tkP k) fun x => if numE 0 farT sym x ≠ 0 then paNo (numE 0 farT sym x) else paOk (numV 0 farT sym x).toNat) b = .ok (p + k) := rsGo_ok (x := x) (by rw [paBind_ok (tkP_ok hfit), hvv, if_neg (by rw [hn]; simp), hx]; rfl)
          have hva : rsV (.ok p) (paBind (tkP k) fun x => if numE 0 farT sym x ≠ 0 then paNo (numE 0 farT sym x) else paOk (numV 0 farT sym x).toNat) b = x := rsV_ok (n := p + k) (by rw [paBind_ok (tkP_ok hfit), hvv, if_neg (by rw [hn]; simp), hx]; rfl)
          rw [hgo, hva]
          rw [hn, hx] at HO
          have HF2 := Lib.hid fun wx (hx : RdrAt W wx g B n c b (.ok (p + k))) => rfail_any W wx g B n c b (.ok (p + k)) true 0 (fun h => by cases h) hx
          clear hgo hva hex hkk h0 hn hx z1 z2 z3 z4 z5 hvv hfit
          go_enter Tryz.func80, Tryz.ntmps80
          go_wp2_with fail
          refine (HB.out _).mono ?_
          rintro e w1 ⟨rfl, hb1⟩
          have h1 := h.below hb1
          have g1 := only_of_below (row := some g) hb1
          clear hb1 h c2
          go_wp2_with fail
          refine (HF.out _ h1).mono ?_
          rintro e w2 ⟨rfl, h2, g2⟩
          have g2 := only_trans g1 g2
          clear h1 g1
          go_wp2_with fail
          refine (HT.out _ h2).mono ?_
          rintro e w3 ⟨rfl, h3, g3⟩
          have g3 := only_trans g2 g3
          clear h2 g2
          obtain ⟨a3, hb3, _⟩ := h3.blk
          have d2 : w3.cell? ⟨g, 2, none⟩ = some (.int .i64 0) := hb3.cell 2
          go_wp2_with fail
          refine (HO.out _).mono ?_
          rintro e w4 ⟨rfl, hb4⟩
          have h4 := h3.below hb4
          have g4 := only_trans g3 (only_of_below hb4)
          clear h3 g3 d2 hb3
          go_wp2_with fail
          refine (HF2.out _ h4).mono ?_
          rintro e w5 ⟨rfl, h5, g5⟩
          go_wp2_with fail
          go_ret
          exact ⟨rfl, h5, only_trans g4 g5⟩
        · obtain ⟨E, hE⟩ : ∃ E, numE 0 farT sym v = E := ⟨_, rfl⟩
          have hx : numV 0 farT sym v = 0 := by unfold numV; rw [if_neg hn]
          have hgo : rsGo (.ok p) (paBind (tkP k) fun x => if numE 0 farT sym x ≠ 0 then paNo (numE 0 farT sym x) else paOk (numV 0 farT sym x).toNat) b = .error E := rsGo_err (by rw [paBind_ok (tkP_ok hfit), hvv, if_pos hn, hE]; rfl)
          have hva : rsV (.ok p) (paBind (tkP k) fun x => if numE 0 farT sym x ≠ 0 then paNo (numE 0 farT sym x) else paOk (numV 0 farT sym x).toNat) b = 0 := rsV_err (e := E) (by rw [paBind_ok (tkP_ok hfit), hvv, if_pos hn, hE]; rfl)
          rw [hgo, hva]
          rw [hx, hE] at HO
          rw [hE] at hn
          have hze : ((E : Int) == 0) = false := by rw [beq_eq_false_iff_ne]; omega
          have HF2 := Lib.hid fun wx (hx : RdrAt W wx g B n c b (.ok (p + k))) => rfail_any W wx g B n c b (.ok (p + k)) false E (fun _ => hn) hx
          clear hgo hva hex hkk h0 hn hx hvv hfit hE
          go_enter Tryz.func80, Tryz.ntmps80
          go_wp2_with fail
          refine (HB.out _).mono ?_
          rintro e w1 ⟨rfl, hb1⟩
          have h1 := h.below hb1
          have g1 := only_of_below (row := some g) hb1
          clear hb1 h c2
          go_wp2_with fail
          refine (HF.out _ h1).mono ?_
          rintro e w2 ⟨rfl, h2, g2⟩
          have g2 := only_trans g1 g2
          clear h1 g1
          go_wp2_with fail
          refine (HT.out _ h2).mono ?_
          rintro e w3 ⟨rfl, h3, g3⟩
          have g3 := only_trans g2 g3
          clear h2 g2
          obtain ⟨a3, hb3, _⟩ := h3.blk
          have d2 : w3.cell? ⟨g, 2, none⟩ = some (.int .i64 0) := hb3.cell 2
          go_wp2_with fail
          refine (HO.out _).mono ?_
          rintro e w4 ⟨rfl, hb4⟩
          have h4 := h3.below hb4
          have g4 := only_trans g3 (only_of_below hb4)
          clear h3 g3 d2 hb3
          go_wp2_with fail
          refine (HF2.out _ h4).mono ?_
          rintro e w5 ⟨rfl, h5, g5⟩
          go_wp2_with fail
          go_ret
          exact ⟨rfl, h5, only_trans g4 g5⟩
      · rw [rsGo_err (tkP_no (by omega)), rsV_err (tkP_no (by omega))] at HT
        have hgo : rsGo (.ok p) (paBind (tkP k) fun x => if numE 0 farT sym x ≠ 0 then paNo (numE 0 farT sym x) else paOk (numV 0 farT sym x).toNat) b = .error 10 := rsGo_err (paBind_no (tkP_no (by omega)))
        have hva : rsV (.ok p) (paBind (tkP k) fun x => if numE 0 farT sym x ≠ 0 then paNo (numE 0 farT sym x) else paOk (numV 0 farT sym x).toNat) b = 0 := rsV_err (paBind_no (tkP_no (by omega)))
        rw [hgo, hva]
        clear hgo hva hex hkk h0 hfit
        go_enter Tryz.func80, Tryz.ntmps80
        go_wp2_with fail
        refine (HB.out _).mono ?_
        rintro e w1 ⟨rfl, hb1⟩
        have h1 := h.below hb1
        have g1 := only_of_below (row := some g) hb1
        clear hb1 h c2
        go_wp2_with fail
        refine (HF.out _ h1).mono ?_
        rintro e w2 ⟨rfl, h2, g2⟩
        have g2 := only_trans g1 g2
        clear h1 g1
        go_wp2_with fail
        refine (HT.out _ h2).mono ?_
        rintro e w3 ⟨rfl, h3, g3⟩
        have g3 := only_trans g2 g3
        clear h2 g2
        obtain ⟨a3, hb3, _⟩ := h3.blk
        have d2 : w3.cell? ⟨g, 2, none⟩ = some (.int .i64 10) := hb3.cell 2
        go_wp2_with fail
        go_ret
        exact ⟨rfl, h3, g3⟩
    · have hE : bitE 0 farT sym = 90 := (bitE_or _ _ _).resolve_left h0
      have hN : bitN 0 farT sym = 0 := bitN_no h0
      have hex : exP 0 farT sym = paNo 90 := by unfold exP; rw [if_pos h0, hE]
      rw [hE, hN] at HB
      rw [hex]
      have HF := Lib.hid fun wx (hx : RdrAt W wx g B n c b (.ok p)) => rfail_any W wx g B n c b (.ok p) false 90 (fun _ => by omega) hx
      have HT := Lib.hid fun wx (hx : RdrAt W wx g B n c b (.error 90)) => rtakeN_any W wx g B n c b (.error 90) 0 (by omega) hx
      clear hex h0 hE hN
      go_enter Tryz.func80, Tryz.ntmps80
      go_wp2_with fail
      refine (HB.out _).mono ?_
      rintro e w1 ⟨rfl, hb1⟩
      have h1 := h.below hb1
      have g1 := only_of_below (row := some g) hb1
      clear hb1 h c2
      go_wp2_with fail
      refine (HF.out _ h1).mono ?_
      rintro e w2 ⟨rfl, h2, g2⟩
      have g2 := only_trans g1 g2
      clear h1 g1
      go_wp2_with fail
      refine (HT.out _ h2).mono ?_
      rintro e w3 ⟨rfl, h3, g3⟩
      have g3 := only_trans g2 g3
      clear h2 g2
      obtain ⟨a3, hb3, _⟩ := h3.blk
      have d2 : w3.cell? ⟨g, 2, none⟩ = some (.int .i64 90) := hb3.cell 2
      go_wp2_with fail
      go_ret
      exact ⟨rfl, h3, g3⟩
end Go.Proofs.YtahboomghjdjhaaGreat
