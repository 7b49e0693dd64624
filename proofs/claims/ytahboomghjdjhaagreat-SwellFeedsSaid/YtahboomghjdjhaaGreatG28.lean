/-
  Plain: a stream goes on, step by step; bytes in two parts.
-/
import Derived.Test.YtahboomghjdjhaaGreatG26
import Derived.Test.YtahboomghjdjhaaGreatG27
namespace Go.Proofs.YtahboomghjdjhaaGreat

/-- A stream while it is read: the place, the block that is open, whether the last one has ended, the window, what was told. -/
structure Ss where
  a : Nat
  k : Option Bk
  over : Bool
  win : List Nat
  told : List Nat

/-- What a token tells behind a window. -/
def moreT (win : List Nat) (t : St) : List Nat := if t.long = 0 then [t.lit] else (copyL win t.dist t.long).drop win.length
def bkDec (k : Bk) : Bk := ⟨k.kind, k.last, k.left - 1, k.lo, k.fa⟩
/-- A step of a block that is open. -/
def tokS (room : Nat) (s : Ss) (k : Bk) (t : St) (n : Nat) : Except Nat Ss :=
  if t.fin = true then .ok ⟨n, none, k.last, s.win, s.told⟩
  else if s.win.length < t.dist then .error 60
  else if room < s.told.length + (moreT s.win t).length then .error 140
  else .ok ⟨n, some (bkDec k), s.over, lastL 32768 (s.win ++ moreT s.win t), s.told ++ moreT s.win t⟩
/-- One step of a stream that may tell so many bytes yet. -/
def oneS (room : Nat) (b : List Nat) (s : Ss) : Except Nat Ss := match s.k with
  | none => match hdP b s.a with
    | .error e => .error e
    | .ok (k, n) => .ok ⟨n, some k, s.over, s.win, s.told⟩
  | some k => match stP k b s.a with
    | .error e => .error e
    | .ok (t, n) => tokS room s k t n

/-- What is left to do. -/
def muS (b : List Nat) (s : Ss) : Nat := 2 * (8 * b.length - s.a) + if s.k.isSome then 1 else 0
/-- A stream that may be. -/
structure SsOk (b : List Nat) (s : Ss) : Prop where
  at_ : s.a ≤ 8 * b.length
  blk : ∀ k, s.k = some k → BkOk k

theorem one_head {room : Nat} {b : List Nat} {s : Ss} (h : s.k = none) {k : Bk} {n : Nat} (hh : hdP b s.a = .ok (k, n)) : oneS room b s = .ok ⟨n, some k, s.over, s.win, s.told⟩ := by unfold oneS; rw [h]; simp only [hh]
theorem one_head_no {room : Nat} {b : List Nat} {s : Ss} (h : s.k = none) {e : Nat} (hh : hdP b s.a = .error e) : oneS room b s = .error e := by unfold oneS; rw [h]; simp only [hh]
theorem one_step {room : Nat} {b : List Nat} {s : Ss} {k : Bk} (h : s.k = some k) {t : St} {n : Nat} (hh : stP k b s.a = .ok (t, n)) : oneS room b s = tokS room s k t n := by unfold oneS; rw [h]; simp only [hh]
theorem one_step_no {room : Nat} {b : List Nat} {s : Ss} {k : Bk} (h : s.k = some k) {e : Nat} (hh : stP k b s.a = .error e) : oneS room b s = .error e := by unfold oneS; rw [h]; simp only [hh]
theorem tok_end {room : Nat} {s : Ss} {k : Bk} {t : St} {n : Nat} (h : t.fin = true) : tokS room s k t n = .ok ⟨n, none, k.last, s.win, s.told⟩ := by unfold tokS; rw [if_pos h]
theorem tok_far {room : Nat} {s : Ss} {k : Bk} {t : St} {n : Nat} (h : t.fin = false) (h1 : s.win.length < t.dist) : tokS room s k t n = .error 60 := by unfold tokS; rw [h, if_neg (by simp), if_pos h1]
theorem tok_full {room : Nat} {s : Ss} {k : Bk} {t : St} {n : Nat} (h : t.fin = false) (h1 : t.dist ≤ s.win.length) (h2 : room < s.told.length + (moreT s.win t).length) : tokS room s k t n = .error 140 := by unfold tokS; rw [h, if_neg (by simp), if_neg (by omega), if_pos h2]
theorem tok_go {room : Nat} {s : Ss} {k : Bk} {t : St} {n : Nat} (h : t.fin = false) (h1 : t.dist ≤ s.win.length) (h2 : s.told.length + (moreT s.win t).length ≤ room) : tokS room s k t n = .ok ⟨n, some (bkDec k), s.over, lastL 32768 (s.win ++ moreT s.win t), s.told ++ moreT s.win t⟩ := by unfold tokS; rw [h, if_neg (by simp), if_neg (by omega), if_neg (by omega)]
theorem bkDec_ok {k : Bk} (h : BkOk k) : BkOk (bkDec k) := ⟨h.kind, fun h0 => by have := h.zero h0; exact ⟨by simp only [bkDec]; omega, this.2⟩, fun h0 => by have := h.code h0; exact ⟨by simp only [bkDec]; omega, this.2⟩, h.len⟩

theorem one_ok {room : Nat} {b : List Nat} {s s' : Ss} (hs : SsOk b s) (h : oneS room b s = .ok s') : SsOk b s' ∧ muS b s' < muS b s ∧ s.a ≤ s'.a := by
  cases hk : s.k with
  | none =>
    cases hh : hdP b s.a with
    | error e => rw [one_head_no hk hh] at h; cases h
    | ok r =>
      obtain ⟨k, n⟩ := r
      rw [one_head hk hh] at h
      cases h
      obtain ⟨g1, g2, g3⟩ := hdP_gd.ok _ _ _ _ hh
      have g4 := g3 hs.at_
      refine ⟨⟨g4, fun k' e => by cases e; exact hdP_ok hh⟩, ?_, by simp only; omega⟩
      have := hs.at_
      unfold muS
      rw [hk]
      simp only [Option.isSome]
      simp
      omega
  | some k =>
    have hB := hs.blk k hk
    cases hh : stP k b s.a with
    | error e => rw [one_step_no hk hh] at h; cases h
    | ok r =>
      obtain ⟨t, n⟩ := r
      rw [one_step hk hh] at h
      obtain ⟨g1, g2, g3⟩ := (stP_gd hB).ok _ _ _ _ hh
      have g4 := g3 hs.at_
      have hat := hs.at_
      cases hf : t.fin with
      | true =>
        rw [tok_end hf] at h
        cases h
        refine ⟨⟨g4, fun k' e => by cases e⟩, ?_, by simp only; omega⟩
        unfold muS
        rw [hk]
        simp
        omega
      | false =>
        have g5 := stP_on hB hh hf
        by_cases h1 : s.win.length < t.dist
        · rw [tok_far hf h1] at h; cases h
        · by_cases h2 : room < s.told.length + (moreT s.win t).length
          · rw [tok_full hf (by omega) h2] at h; cases h
          · rw [tok_go hf (by omega) (by omega)] at h
            cases h
            refine ⟨⟨g4, fun k' e => by cases e; exact bkDec_ok hB⟩, ?_, by simp only; omega⟩
            unfold muS
            rw [hk]
            simp
            omega

/-! ### Till nothing is whole -/
def runF (room : Nat) (b : List Nat) : Nat → Ss → Except Nat Ss
  | 0, s => .ok s
  | f + 1, s => if s.over = true then .ok s else match oneS room b s with
    | .error e => if e = 10 then .ok s else .error e
    | .ok s' => runF room b f s'
def runS (room : Nat) (b : List Nat) (s : Ss) : Except Nat Ss := runF room b (muS b s + 1) s

theorem runF_enough {room : Nat} {b : List Nat} : ∀ f g s, SsOk b s → muS b s < f → muS b s < g → runF room b f s = runF room b g s
  | 0, _, _, _, h, _ => by omega
  | _, 0, _, _, _, h => by omega
  | f + 1, g + 1, s, hs, h1, h2 => by
    rw [runF, runF]
    by_cases ho : s.over = true
    · rw [if_pos ho, if_pos ho]
    · rw [if_neg ho, if_neg ho]
      cases hh : oneS room b s with
      | error e => rfl
      | ok s' =>
        obtain ⟨q1, q2, _⟩ := one_ok hs hh
        exact runF_enough f g s' q1 (by omega) (by omega)
section
variable {room : Nat} {b : List Nat} {s s' : Ss}
theorem run_over (h : s.over = true) : runS room b s = .ok s := by unfold runS; rw [runF, if_pos h]
theorem run_stop (h : s.over = false) (h1 : oneS room b s = .error 10) : runS room b s = .ok s := by unfold runS; rw [runF, if_neg (by simp [h])]; simp only [h1]; rfl
theorem run_err (h : s.over = false) {e : Nat} (h1 : oneS room b s = .error e) (he : e ≠ 10) : runS room b s = .error e := by unfold runS; rw [runF, if_neg (by simp [h])]; simp only [h1, if_neg he]
theorem run_go (hs : SsOk b s) (h : s.over = false) (h1 : oneS room b s = .ok s') : runS room b s = runS room b s' := by
  unfold runS
  rw [runF, if_neg (by simp [h])]
  simp only [h1]
  obtain ⟨q1, q2, _⟩ := one_ok hs h1
  exact runF_enough _ _ _ q1 q2 (by omega)
end
/-- A stream's course, as an induction. -/
theorem run_ind {room : Nat} {b : List Nat} (C : Ss → Except Nat Ss → Prop) (h0 : ∀ s, SsOk b s → s.over = true → C s (.ok s)) (h1 : ∀ s, SsOk b s → s.over = false → oneS room b s = .error 10 → C s (.ok s))
    (h2 : ∀ s e, SsOk b s → s.over = false → oneS room b s = .error e → e ≠ 10 → C s (.error e)) (h3 : ∀ s s' r, SsOk b s → s.over = false → oneS room b s = .ok s' → SsOk b s' → C s' r → C s r) : ∀ s, SsOk b s → C s (runS room b s) := by
  have H : ∀ n s, muS b s < n → SsOk b s → C s (runS room b s) := by
    intro n
    induction n with
    | zero => intro s h; omega
    | succ n ih =>
      intro s hn hs
      by_cases ho : s.over = true
      · rw [run_over ho]; exact h0 s hs ho
      · have ho : s.over = false := by simpa using ho
        cases hh : oneS room b s with
        | error e =>
          by_cases he : e = 10
          · subst he; rw [run_stop ho hh]; exact h1 s hs ho hh
          · rw [run_err ho hh he]; exact h2 s e hs ho hh he
        | ok s' =>
          obtain ⟨q1, q2, _⟩ := one_ok hs hh
          rw [run_go hs ho hh]
          exact h3 s s' _ hs ho hh q1 (ih s' (by omega) q1)
  exact fun s hs => H _ s (Nat.lt_succ_self _) hs

/-! ### Bytes behind -/
/-- What is so where a stream stands still. -/
theorem run_end {room : Nat} {b : List Nat} : ∀ s, SsOk b s → match runS room b s with
    | .error e => e ≠ 10
    | .ok s1 => SsOk b s1 ∧ s.a ≤ s1.a ∧ (s1.over = true ∨ oneS room b s1 = .error 10) := by
  refine run_ind (room := room) (b := b) (fun s r => match r with
    | .error e => e ≠ 10
    | .ok s1 => SsOk b s1 ∧ s.a ≤ s1.a ∧ (s1.over = true ∨ oneS room b s1 = .error 10)) ?_ ?_ ?_ ?_
  · exact fun s hs ho => ⟨hs, Nat.le_refl _, .inl ho⟩
  · exact fun s hs _ h => ⟨hs, Nat.le_refl _, .inr h⟩
  · exact fun s e _ _ _ he => he
  · intro s s' r hs ho h hs' ih
    cases r with
    | error e => exact ih
    | ok s1 => exact ⟨ih.1, Nat.le_trans (one_ok hs h).2.2 ih.2.1, ih.2.2⟩

/-! ### Whole bytes ahead, and what was told ahead -/
def mvS (k : Nat) (p : List Nat) (s : Ss) : Ss := ⟨s.a + 8 * k, s.k, s.over, s.win, p ++ s.told⟩
def mvE (k : Nat) (p : List Nat) : Except Nat Ss → Except Nat Ss
  | .error e => .error e
  | .ok s => .ok (mvS k p s)
/-! ### What stays so -/
theorem lastL_last (s : Nat) (a b : List Nat) : lastL s (lastL s a ++ b) = lastL s (a ++ b) := by
  unfold lastL
  apply List.ext_getElem?
  intro i
  simp only [List.getElem?_drop, List.length_append, List.length_drop, List.getElem?_append]
  by_cases h : a.length ≤ s
  · rw [show a.length - s = 0 by omega]
    simp
  · by_cases h1 : a.length - (a.length - s) + b.length - s + i < a.length - (a.length - s)
    · rw [if_pos h1, if_pos (by omega)]
      congr 1; omega
    · rw [if_neg h1, if_neg (by omega)]
      congr 1; omega
theorem lastL_length (s : Nat) (a : List Nat) : (lastL s a).length = min a.length s := by unfold lastL; rw [List.length_drop]; omega
theorem lastL_self {s : Nat} {a : List Nat} (h : a.length ≤ s) : lastL s a = a := by unfold lastL; rw [show a.length - s = 0 by omega]; rfl
theorem mem_lastL {s : Nat} {a : List Nat} {x : Nat} (h : x ∈ lastL s a) : x ∈ a := List.mem_of_mem_drop h
theorem moreT_length (win : List Nat) {t : St} : (moreT win t).length = if t.long = 0 then 1 else t.long := by
  unfold moreT
  split
  · rfl
  · rw [List.length_drop, copyL_length]; omega
theorem moreT_byte {win : List Nat} {t : St} (h : StOk t) (hw : ∀ x ∈ win, x < 256) : ∀ x ∈ moreT win t, x < 256 := by
  unfold moreT
  split
  · intro x hx; rw [List.mem_singleton.1 hx]; exact h.lit
  · exact fun x hx => copyL_bytes hw _ _ x (List.mem_of_mem_drop hx)
/-- What holds of a stream that began with a window. -/
structure SsInv (room : Nat) (w0 : List Nat) (s : Ss) : Prop where
  win : s.win = lastL 32768 (w0 ++ s.told)
  byte : ∀ x ∈ s.told, x < 256
  room : s.told.length ≤ room
theorem one_inv {room : Nat} {w0 b : List Nat} {s s' : Ss} (hw : ∀ x ∈ w0, x < 256) (hi : SsInv room w0 s) (h : oneS room b s = .ok s') : SsInv room w0 s' := by
  have hwb : ∀ x ∈ s.win, x < 256 := by
    rw [hi.win]
    intro x hx
    rcases List.mem_append.1 (mem_lastL hx) with hx | hx
    · exact hw x hx
    · exact hi.byte x hx
  cases hk : s.k with
  | none =>
    cases hh : hdP b s.a with
    | error e => rw [one_head_no hk hh] at h; cases h
    | ok r =>
      obtain ⟨k, n⟩ := r
      rw [one_head hk hh] at h
      cases h
      exact ⟨hi.win, hi.byte, hi.room⟩
  | some k =>
    cases hh : stP k b s.a with
    | error e => rw [one_step_no hk hh] at h; cases h
    | ok r =>
      obtain ⟨t, n⟩ := r
      rw [one_step hk hh] at h
      cases hf : t.fin with
      | true =>
        rw [tok_end hf] at h
        cases h
        exact ⟨hi.win, hi.byte, hi.room⟩
      | false =>
        by_cases h1 : s.win.length < t.dist
        · rw [tok_far hf h1] at h; cases h
        · by_cases h2 : room < s.told.length + (moreT s.win t).length
          · rw [tok_full hf (by omega) h2] at h; cases h
          · rw [tok_go hf (by omega) (by omega)] at h
            cases h
            have hb := moreT_byte (stP_ok hh) hwb
            refine ⟨?_, fun x hx => ?_, by rw [List.length_append]; omega⟩
            · simp only
              rw [← List.append_assoc, hi.win]
              exact lastL_last _ _ _
            · rcases List.mem_append.1 hx with hx | hx
              · exact hi.byte x hx
              · exact hb x hx
theorem run_inv {room : Nat} {w0 b : List Nat} (hw : ∀ x ∈ w0, x < 256) : ∀ s, SsOk b s → SsInv room w0 s → ∀ s', runS room b s = .ok s' → SsInv room w0 s' := by
  refine run_ind (room := room) (b := b) (fun s r => SsInv room w0 s → ∀ s', r = .ok s' → SsInv room w0 s') ?_ ?_ ?_ ?_
  · exact fun s _ _ hi s' e => by cases e; exact hi
  · exact fun s _ _ _ hi s' e => by cases e; exact hi
  · exact fun s e _ _ _ _ _ s' h => by cases h
  · exact fun s s' r hs ho h hs' ih hi t e => ih (one_inv hw hi h) t e
/-- Where a stream stands still for want of bits, few bytes are left. -/
theorem one_wants {room : Nat} {b : List Nat} {s : Ss} (hs : SsOk b s) (h : oneS room b s = .error 10) : (b.drop (s.a / 8)).length ≤ 600 := by
  have h8 : 8 * b.length < s.a + 4498 := by
    cases hk : s.k with
    | none =>
      cases hh : hdP b s.a with
      | error e => rw [one_head_no hk hh] at h; cases h; exact hdP_gd.bound _ _ hh
      | ok r => rw [one_head hk hh] at h; cases h
    | some k =>
      cases hh : stP k b s.a with
      | error e => rw [one_step_no hk hh] at h; cases h; have := (stP_gd (hs.blk k hk)).bound _ _ hh; omega
      | ok r =>
        obtain ⟨t, n⟩ := r
        rw [one_step hk hh] at h
        unfold tokS at h
        split at h
        · cases h
        · split at h
          · cases h
          · split at h <;> cases h
  rw [List.length_drop]
  omega
/-- The bytes that a step may need. -/
def winB (b : List Nat) (a : Nat) : List Nat := (b.drop (a / 8)).take 608
theorem pa_win {α : Type} {p : Pa α} {L B : Nat} (h : Gd p L B) (hB : B ≤ 4800) {b : List Nat} {a : Nat} (ha : a ≤ 8 * b.length) : p b a = upP (a / 8) (p (winB b a) (a % 8)) := by
  have hk : a / 8 ≤ b.length := by omega
  have h1 := h.shift b (a / 8) (a % 8) hk
  rw [show a % 8 + 8 * (a / 8) = a by omega] at h1
  rw [h1]
  congr 1
  unfold winB
  generalize b.drop (a / 8) = c
  by_cases hc : c.length ≤ 608
  · rw [List.take_of_length_le hc]
  · have := h.app (c.take 608) (c.drop 608) (a % 8)
    rw [List.take_append_drop] at this
    refine this fun e => ?_
    have := h.bound _ _ e
    rw [List.length_take] at this
    omega
end Go.Proofs.YtahboomghjdjhaaGreat

/-
  Plain: bytes in two parts are read as at once.
-/
namespace Go.Proofs.YtahboomghjdjhaaGreat

end Go.Proofs.YtahboomghjdjhaaGreat
