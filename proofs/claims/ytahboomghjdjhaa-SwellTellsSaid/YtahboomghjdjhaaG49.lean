/-
  Plain: what plain.tell tells is what a stream tells from the beginning.
-/
import Derived.Test.YtahboomghjdjhaaG28
import Derived.Test.YtahboomghjdjhaaG41
namespace Go.Proofs.Ytahboomghjdjhaa

/-- What a token tells, from all that was told. -/
theorem more_win {told : List Nat} {t : St} (h : StOk t) (hd : t.dist ≤ told.length) : moreT (lastL 32768 told) t = moreT told t := by
  unfold moreT
  by_cases h0 : t.long = 0
  · rw [if_pos h0, if_pos h0]
  · rw [if_neg h0, if_neg h0]
    have h1 := (h.both h0).2
    have h2 := h.dist
    have hl := lastL_length 32768 told
    have hsplit : told = told.take (told.length - 32768) ++ lastL 32768 told := (List.take_append_drop _ _).symm
    have hpre := copyL_pre t.dist (told.take (told.length - 32768)) (lastL 32768 told) h1 (by rw [hl]; omega) t.long
    rw [← hsplit] at hpre
    have e : told.length = (told.take (told.length - 32768)).length + (lastL 32768 told).length := by
      have := congrArg List.length hsplit
      rwa [List.length_append] at this
    have e2 : (copyL told t.dist t.long).drop told.length = ((copyL told t.dist t.long).drop (told.take (told.length - 32768)).length).drop (lastL 32768 told).length := by
      rw [List.drop_drop, ← e]
    rw [e2, hpre, List.drop_left]
/-- A token told, with no window: by all that was told. -/
def plT (room : Nat) (told : List Nat) (t : St) : Except Nat (List Nat) :=
  if told.length < t.dist then .error 60 else if room < told.length + (if t.long = 0 then 1 else t.long) then .error 140 else .ok (told ++ moreT told t)
theorem tok_pl {room : Nat} {s : Ss} {k : Bk} {t : St} {n : Nat} (h : StOk t) (hf : t.fin = false) (hw : s.win = lastL 32768 s.told) :
    tokS room s k t n = match plT room s.told t with
      | .error e => .error e
      | .ok told' => .ok ⟨n, some (bkDec k), s.over, lastL 32768 told', told'⟩ := by
  have hl := lastL_length 32768 s.told
  have h2 := h.dist
  unfold plT
  by_cases h1 : s.told.length < t.dist
  · rw [if_pos h1, tok_far hf (by rw [hw, hl]; omega)]
  · rw [if_neg h1]
    have hm := more_win h (told := s.told) (by omega)
    have hml : (moreT s.win t).length = if t.long = 0 then 1 else t.long := moreT_length _
    by_cases h3 : room < s.told.length + (if t.long = 0 then 1 else t.long)
    · rw [if_pos h3, tok_full hf (by rw [hw, hl]; omega) (by rw [hml]; exact h3)]
    · rw [if_neg h3, tok_go hf (by rw [hw, hl]; omega) (by rw [hml]; exact Nat.le_of_not_lt h3)]
      simp only
      rw [hw, hm, lastL_last]
/-- What plain tells of bytes from a place on: an error, or what was told, the place, and whether it was over. -/
def tellR (room : Nat) (b : List Nat) (a : Nat) : Except Nat Ss := runS room b ⟨a, none, false, [], []⟩
theorem tell_win {room : Nat} {b : List Nat} {s : Ss} (hs : SsOk b ⟨0, none, false, [], []⟩) (h : tellR room b 0 = .ok s) : s.win = lastL 32768 s.told := by
  have := (run_inv (room := room) (w0 := []) (b := b) (fun x hx => by cases hx) ⟨0, none, false, [], []⟩ hs ⟨rfl, fun x hx => (by cases hx), Nat.zero_le _⟩ s h).win
  rwa [List.nil_append] at this
end Go.Proofs.Ytahboomghjdjhaa

/-
  Plain: how plain's loop over tokens goes along a stream's run.
-/
namespace Go.Proofs.Ytahboomghjdjhaa

/-- A state of the loop: from it on, what comes is R. -/
structure TkAt (room : Nat) (b : List Nat) (R : Except Nat Ss) (s : Ss) : Prop where
  ok : SsOk b s
  over : s.over = false
  win : s.win = lastL 32768 s.told
  run : runS room b s = R
section
variable {room : Nat} {b : List Nat} {R : Except Nat Ss} {s : Ss} {k : Bk} {t : St} {m e : Nat}
theorem TkAt.go {s' : Ss} (h : TkAt room b R s) (h1 : oneS room b s = .ok s') : runS room b s' = R ∧ SsOk b s' :=
  ⟨(run_go h.ok h.over h1).symm.trans h.run, (one_ok h.ok h1).1⟩
theorem TkAt.stop (h : TkAt room b R s) (h1 : oneS room b s = .error e) : R = if e = 10 then .ok s else .error e := by
  rw [← h.run]
  by_cases he : e = 10
  · rw [if_pos he]; subst he; exact run_stop h.over h1
  · rw [if_neg he]; exact run_err h.over h1 he
theorem TkAt.head (h : TkAt room b R s) (hk : s.k = none) (hh : hdP b s.a = .ok (k, m)) : TkAt room b R ⟨m, some k, false, s.win, s.told⟩ := by
  have h1 : oneS room b s = .ok ⟨m, some k, false, s.win, s.told⟩ := by rw [one_head hk hh, h.over]
  exact ⟨(h.go h1).2, rfl, h.win, (h.go h1).1⟩
theorem TkAt.head_err (h : TkAt room b R s) (hk : s.k = none) (hh : hdP b s.a = .error e) : R = if e = 10 then .ok s else .error e := h.stop (one_head_no hk hh)
theorem TkAt.step_err (h : TkAt room b R s) (hk : s.k = some k) (hh : stP k b s.a = .error e) : R = if e = 10 then .ok s else .error e := h.stop (one_step_no hk hh)
theorem TkAt.last (h : TkAt room b R s) (hk : s.k = some k) (hh : stP k b s.a = .ok (t, m)) (hf : t.fin = true) (hl : k.last = true) : R = .ok ⟨m, none, true, s.win, s.told⟩ := by
  have h1 : oneS room b s = .ok ⟨m, none, true, s.win, s.told⟩ := by rw [one_step hk hh, tok_end hf, hl]
  rw [← (h.go h1).1]
  exact run_over rfl
theorem TkAt.next (h : TkAt room b R s) (hk : s.k = some k) (hh : stP k b s.a = .ok (t, m)) (hf : t.fin = true) (hl : k.last = false) : TkAt room b R ⟨m, none, false, s.win, s.told⟩ := by
  have h1 : oneS room b s = .ok ⟨m, none, false, s.win, s.told⟩ := by rw [one_step hk hh, tok_end hf, hl]
  exact ⟨(h.go h1).2, rfl, h.win, (h.go h1).1⟩
theorem TkAt.tok (h : TkAt room b R s) (hk : s.k = some k) (hh : stP k b s.a = .ok (t, m)) (hf : t.fin = false) {told' : List Nat} (hp : plT room s.told t = .ok told') : TkAt room b R ⟨m, some (bkDec k), false, lastL 32768 told', told'⟩ := by
  have h1 : oneS room b s = .ok ⟨m, some (bkDec k), false, lastL 32768 told', told'⟩ := by
    have h2 := tok_pl (room := room) (n := m) (k := k) (stP_ok hh) hf h.win
    rw [hp] at h2
    dsimp only at h2
    rw [h.over] at h2
    exact (one_step hk hh).trans h2
  exact ⟨(h.go h1).2, rfl, (by dsimp only), (h.go h1).1⟩
theorem TkAt.tok_err (h : TkAt room b R s) (hk : s.k = some k) (hh : stP k b s.a = .ok (t, m)) (hf : t.fin = false) (hp : plT room s.told t = .error e) : R = .error e := by
  have h1 : oneS room b s = .error e := by
    have h2 := tok_pl (room := room) (n := m) (k := k) (stP_ok hh) hf h.win
    rw [hp] at h2
    exact (one_step hk hh).trans h2
  have h2 := h.stop h1
  have he : e ≠ 10 := by
    unfold plT at hp
    by_cases c1 : s.told.length < t.dist
    · rw [if_pos c1] at hp; injection hp with hp; omega
    · rw [if_neg c1] at hp
      by_cases c2 : room < s.told.length + (if t.long = 0 then 1 else t.long)
      · rw [if_pos c2] at hp; injection hp with hp; omega
      · rw [if_neg c2] at hp; cases hp
  rw [if_neg he] at h2
  exact h2
/-- From the beginning. -/
theorem TkAt.start (room : Nat) (b : List Nat) : TkAt room b (tellR room b 0) ⟨0, none, false, [], []⟩ :=
  ⟨⟨Nat.zero_le _, fun k h => (by cases h)⟩, rfl, rfl, rfl⟩
end
/-- What a round does to what was told. -/
def nxtT (room : Nat) (told : List Nat) (t : St) : Option (List Nat) := match plT room told t with
  | .ok x => some x
  | .error _ => none
/-- A round leaves: why. -/
def LvT (room : Nat) (R : Except Nat Ss) (told : List Nat) (t : St) : Prop := ∃ e, plT room told t = .error e ∧ R = .error e
end Go.Proofs.Ytahboomghjdjhaa
