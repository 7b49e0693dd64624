/-
  Walks: Of, Squeeze (both), Same.
-/
import Derived.Test.YtfcefhaaphieeaaGreatGRunsB
namespace Go.Proofs.YtfcefhaaphieeaaGreat
open Go.RowKit

/-- A list of runs is answered. -/
def RunsRes (w w' : World) (e : Ending) (R : List (Int × Int)) : Prop := ∃ B d, e = .returned (.slice B R.length d) ∧ Builds w w' 96 2 B R.length d (runV R)

/-- Runs so far. -/
def RunsInv (w : World) (l : List Nat) (gk : Nat) (vo va : Value) (wr : World) : Prop :=
  ∃ a R B d, a ≤ l.length ∧ gk = l.length - a ∧ va = .int .i64 ((a : Nat) : Int) ∧ vo = .slice B R.length d ∧ R ++ runsFrom l a = runsFrom l 0 ∧ Builds w wr 96 2 B R.length d (runV R)

theorem runs_short {l : List Nat} {a : Nat} {R : List (Int × Int)} (h : R ++ runsFrom l a = runsFrom l 0) : R.length ≤ l.length := by
  have h1 := congrArg List.length h
  have h2 := runsFrom_len l l.length 0 (by omega)
  rw [List.length_append] at h1
  omega
theorem runs_next {l : List Nat} {a : Nat} {R : List (Int × Int)} (ha : a < l.length) (h : R ++ runsFrom l a = runsFrom l 0) : (R ++ [(stepOf l a).1]) ++ runsFrom l (a + (stepOf l a).2) = runsFrom l 0 := by
  rw [← h, runsFrom_step ha, List.append_assoc]; rfl

set_option maxHeartbeats 1000000 in
theorem runs_of_any (A : Option Addr) (c : Nat) (l : List Nat) (w : World) (hl : Bs w A l) (hm : l.length ≤ 1000) :
    Calls Tryz.prog 58 #[.slice A l.length c] w fun e w' => RunsRes w w' e (runsFrom l 0) := by
  have HF := Lib.hid fun a w h ha => first_any A c l a w h ha hm
  go_enter Tryz.func58, Tryz.ntmps58
  go_wp2_with fail
  go_loopg [3, 4] l.length (RunsInv w l)
  case atStart => exact ⟨0, [], none, 0, by omega, by omega, rfl, rfl, rfl, Builds.nil_ _ _ _⟩
  case round =>
    obtain ⟨a, R, B, d, ha, hk, rfl, rfl, hR, hB⟩ := hrel
    have hRl := runs_short hR
    have HR := Lib.hid hR; clear hR
    by_cases hlt : a < l.length
    · have hpos := stepOf_pos l a
      have hle := stepOf_le l a hlt
      go_wp2_with fail
      refine (HF.out a _ (hl.below hB.1) hlt).mono ?_
      rintro e w1 ⟨hb1, rfl⟩
      have hB1 := hB.below hb1
      have Hn := Lib.hid (runs_next hlt HR.out)
      generalize hS : stepOf l a = S at *
      obtain ⟨⟨s, x⟩, n⟩ := S
      dsimp only at *
      have HS := Lib.hid hS
      clear hB hb1 hS
      go_wp2_with (at_builtin; refine grow elem_run rfl (.tmp 17) (.tmp 19) rfl rfl ((hB1.alloc _).alloc _) rfl (Rd.new' _ _ _ (runV [(s, x)]) _ (by simp) rfl) rfl (runV_one _) (R.length + 1) rfl (runV (R ++ [(s, x)])) (runV_append _ _).symm (by omega) (by omega) ?_; intro B2 d2 w2 hB2 hg2)
      go_roundg (l.length - (a + n))
      case measure => omega
      case rel => exact ⟨a + n, R ++ [(s, x)], B2, d2, hle, rfl, by go_num, by simp, Hn.out, by simpa using hB2⟩
    · obtain rfl : a = l.length := by omega
      have hR0 : R = runsFrom l 0 := by rw [← HR.out, runsFrom_end (Nat.le_refl _), List.append_nil]
      have HR0 := Lib.hid hR0
      go_wp2_with fail
      go_ret
      rw [← HR0.out]
      exact ⟨B, d, rfl, hB⟩

/-- What Squeeze answers. -/
def SqRes (w w' : World) (e : Ending) (l : List Nat) : Prop :=
  ∃ B d, e = .returned (.tuple #[.slice B (sq l).length d, .int .i64 ((sqE l : Nat) : Int)]) ∧ Builds w w' 96 2 B (sq l).length d (runV (sq l))

theorem SqRes.no {w w' : World} {e : Ending} {l : List Nat} {E : Nat} (hE : sqE l = E) (h0 : E ≠ 0) (hb : Below w.heap.size w w') (he : e = .returned (.tuple #[.slice none 0 0, .int .i64 (E : Int)])) : SqRes w w' e l := by
  have : sq l = [] := by unfold sq; rw [if_neg (by rw [hE]; exact h0)]
  unfold SqRes
  rw [this, hE]
  exact ⟨none, 0, he, Builds.nil' hb _ _⟩
theorem SqRes.yes {w w' : World} {e : Ending} {l : List Nat} (hE : sqE l = 0) {B : Option Addr} {d n : Nat} (hn : n = (runsFrom l 0).length) (he : e = .returned (.tuple #[.slice B n d, .int .i64 0])) (hb : Builds w w' 96 2 B (runsFrom l 0).length d (runV (runsFrom l 0))) : SqRes w w' e l := by
  have : sq l = runsFrom l 0 := by unfold sq; rw [if_pos hE]
  unfold SqRes
  rw [this, hE]
  subst hn
  exact ⟨B, d, he, hb⟩
theorem sqE_many {l : List Nat} (h : 320 < l.length) : sqE l = 4 := by unfold sqE; rw [if_pos h]
theorem sqE_arg {l : List Nat} (h : l.length ≤ 320) {i : Nat} (hi : i < l.length) (h15 : 15 < nth l i) : sqE l = 2 := by
  unfold sqE
  rw [if_neg (by omega), if_neg]
  intro ha
  have := List.all_eq_true.1 ha l[i] (List.getElem_mem hi)
  have e : nth l i = l[i] := by simp [nth, List.getElem?_eq_getElem hi]
  have := of_decide_eq_true this
  omega
theorem sqE_ok {l : List Nat} (h : l.length ≤ 320) (ha : ∀ i, i < l.length → nth l i ≤ 15) : sqE l = 0 := by
  unfold sqE
  rw [if_neg (by omega), if_pos]
  rw [List.all_eq_true]
  intro x hx
  obtain ⟨i, hi, rfl⟩ := List.mem_iff_getElem.1 hx
  have := ha i hi
  have e : nth l i = l[i] := by simp [nth, List.getElem?_eq_getElem hi]
  rw [e] at this
  exact decide_eq_true this

set_option maxHeartbeats 4000000 in
set_option maxRecDepth 100000 in
theorem sq_any (A : Option Addr) (c : Nat) (l : List Nat) (w : World) (hl : Bs w A l) (hm : l.length ≤ 1000) :
    Calls Tryz.prog 45 #[.slice A l.length c] w fun e w' => SqRes w w' e l := by
  by_cases hbig : 320 < l.length
  · have H := Lib.hid fun w' e => SqRes.no (w := w) (w' := w') (e := e) (sqE_many hbig) (by omega)
    go_enter Tryz.func45, Tryz.ntmps45
    go_wp2_with fail
    go_ret2
    exact H.out _ _ ((Below.refl _ _).alloc (Nat.le_refl _) _) rfl
  · go_enter Tryz.func45, Tryz.ntmps45
    go_wp2_with fail
    go_loop [2, 15] (fun u v => ∃ i : Nat, i ≤ l.length ∧ (∀ k, k < i → nth l k ≤ 15) ∧ v = .int .i64 i ∧ u = .slice none 0 0) (fun _ v => l.length - (intOf v).toNat)
    case atStart => exact ⟨0, by omega, fun _ h => absurd h (by omega), rfl, rfl⟩
    case round =>
      obtain ⟨i, hi, hall, rfl, rfl⟩ := hrel
      have HA := Lib.hid hall; clear hall
      by_cases hlt : i < l.length
      · have hl1 := hl.alloc (.cells #[.slice A l.length c] 22)
        obtain ⟨b, off, rfl, hcell, hx⟩ := hl.at_ hlt
        have hlt1 := cell_lt hcell
        by_cases h15 : 15 < nth l i
        · have H := Lib.hid fun w' e => SqRes.no (w := w) (w' := w') (e := e) (sqE_arg (by omega) hlt h15) (by omega)
          go_wp2_with fail
          go_ret2
          exact H.out _ _ ((Below.refl _ _).alloc (Nat.le_refl _) _) rfl
        · have hn : ∀ k, k < i + 1 → nth l k ≤ 15 := fun k hk => by
            rcases Nat.lt_or_ge k i with h | h
            · exact HA.out k h
            · obtain rfl : k = i := by omega
              omega
          have HN := Lib.hid hn; clear hn
          go_wp2_with fail
          go_round
          case rel => exact ⟨i + 1, by omega, HN.out, by go_num, rfl⟩
          case measure => simp [intOf]; omega
      · obtain rfl : i = l.length := by omega
        have HE := Lib.hid (sqE_ok (by omega) HA.out)
        obtain ⟨W, hW⟩ : ∃ W, w.alloc (.cells #[.slice A l.length c] 22) = W := ⟨_, rfl⟩
        have hbW : Below w.heap.size w W := by rw [← hW]; exact (Below.refl _ _).alloc (Nat.le_refl _) _
        have hlW : Bs W A l := by rw [← hW]; exact hl.alloc _
        have kW : Blk W w.heap.size 22 #[.slice A l.length c] := by rw [← hW]; exact Blk.new _ _ _
        rw [hW]
        have cW := Blk.cells kW
        clear hW
        go_wp2_with fail
        go_loopg [2, 7] l.length (RunsInv W l)
        case atStart => exact ⟨0, [], none, 0, by omega, by omega, rfl, rfl, rfl, Builds.nil_ _ _ _⟩
        case round =>
          obtain ⟨a, R, B, d, ha, hk, rfl, rfl, hR, hB⟩ := hrel
          have hRl := runs_short hR
          have HR := Lib.hid hR; clear hR
          have k1 := Blk.below kW hB.1 (Blk.lt kW)
          have c1 := Blk.cells k1
          have hl1 := hlW.below hB.1
          clear cW
          by_cases hlt : a < l.length
          · have hpos := stepOf_pos l a
            have hle := stepOf_le l a hlt
            have hnle := sameN_le l a (by omega)
            have Hn := Lib.hid (runs_next hlt HR.out)
            have HC := Lib.hid fun (g : Nat) (w : World) h1 h2 => clo_any g A c l a w h1 h2 hlt hm
            have hl2 := hl1
            obtain ⟨b, off, rfl, hcell, hx⟩ := hl1.at_ hlt
            have hprev : 0 < a → wr.cell? ⟨b, off + (a - 1), none⟩ = some (.int .u8 ((nth l (a - 1) : Nat) : Int)) := fun h => by
              obtain ⟨b', off', e', h', _⟩ := hl2.at_ (i := a - 1) (by omega)
              injection e' with e'; injection e' with e1 e2; subst e1 e2; exact h'
            have hw := step_ways l a
            go_wp2_with fail
            go_quiet ((go_at_call 70; exact Calls.quiet_of (HC.out _ _ (by exact k1.cell 0) (by exact hl2))))
            have hcl := hcell
            generalize sameN l a = N at *
            rcases hw with ⟨h1, h2, hS⟩ | ⟨h1, h2, h3, hS⟩ | ⟨h1, h2, h3, hS⟩ | ⟨h1, h2, hS⟩ | ⟨h1, h2, hS⟩ | ⟨h1, h2, h3, hS⟩ | ⟨h1, h2, h3, h4, hS⟩ | ⟨h1, h2, h3, h4, h5, hS⟩ | ⟨h1, h2, h3, h4, hS⟩
            · rw [h1] at hcell
              clear hprev hcl
              have HS := Lib.hid hS
              have hn2 : (stepOf l a).2 = _ := congrArg Prod.snd hS
              clear hS
              go_wp2_with (first
              | (at_builtin; refine grow elem_run rfl (.tmp 49) (.tmp 53) rfl rfl ((hB.drewN _).alloc _) rfl (Rd.new' _ _ _ _ _ (by simp) rfl) rfl (by simp [Value.oneCell']) (R.length + 1) rfl (runV (R ++ [(stepOf l a).1])) (by rw [HS.out]; simp [runV, prs]) (by omega) (by omega) ?_; intro B2 d2 w2 hB2 hg2)
              | (at_builtin; refine grow elem_run rfl (.tmp 62) (.tmp 66) rfl rfl ((hB.drewN _).alloc _) rfl (Rd.new' _ _ _ _ _ (by simp) rfl) rfl (by simp [Value.oneCell']) (R.length + 1) rfl (runV (R ++ [(stepOf l a).1])) (by rw [HS.out]; simp [runV, prs]) (by omega) (by omega) ?_; intro B2 d2 w2 hB2 hg2)
              | (at_builtin; refine grow elem_run rfl (.tmp 91) (.tmp 95) rfl rfl ((hB.drewN _).alloc _) rfl (Rd.new' _ _ _ _ _ (by simp) rfl) rfl (by simp [Value.oneCell']) (R.length + 1) rfl (runV (R ++ [(stepOf l a).1])) (by rw [HS.out]; simp [runV, prs]) (by omega) (by omega) ?_; intro B2 d2 w2 hB2 hg2)
              | (at_builtin; refine grow elem_run rfl (.tmp 35) (.tmp 38) rfl rfl ((hB.drewN _).alloc _) rfl (Rd.new' _ _ _ _ _ (by simp) rfl) rfl (by simp [Value.oneCell']) (R.length + 1) rfl (runV (R ++ [(stepOf l a).1])) (by rw [HS.out]; simp [runV, prs]) (by omega) (by omega) ?_; intro B2 d2 w2 hB2 hg2))
              go_roundg (l.length - (a + (stepOf l a).2))
              case measure => omega
              case rel => exact ⟨a + (stepOf l a).2, R ++ [(stepOf l a).1], B2, d2, hle, rfl, by rw [HS.out]; go_num, by simp, Hn.out, by simpa using hB2⟩
            · rw [h1] at hcell
              clear hprev hcl
              have HS := Lib.hid hS
              have hn2 : (stepOf l a).2 = _ := congrArg Prod.snd hS
              clear hS
              go_wp2_with (first
              | (at_builtin; refine grow elem_run rfl (.tmp 49) (.tmp 53) rfl rfl ((hB.drewN _).alloc _) rfl (Rd.new' _ _ _ _ _ (by simp) rfl) rfl (by simp [Value.oneCell']) (R.length + 1) rfl (runV (R ++ [(stepOf l a).1])) (by rw [HS.out]; simp [runV, prs]) (by omega) (by omega) ?_; intro B2 d2 w2 hB2 hg2)
              | (at_builtin; refine grow elem_run rfl (.tmp 62) (.tmp 66) rfl rfl ((hB.drewN _).alloc _) rfl (Rd.new' _ _ _ _ _ (by simp) rfl) rfl (by simp [Value.oneCell']) (R.length + 1) rfl (runV (R ++ [(stepOf l a).1])) (by rw [HS.out]; simp [runV, prs]) (by omega) (by omega) ?_; intro B2 d2 w2 hB2 hg2)
              | (at_builtin; refine grow elem_run rfl (.tmp 91) (.tmp 95) rfl rfl ((hB.drewN _).alloc _) rfl (Rd.new' _ _ _ _ _ (by simp) rfl) rfl (by simp [Value.oneCell']) (R.length + 1) rfl (runV (R ++ [(stepOf l a).1])) (by rw [HS.out]; simp [runV, prs]) (by omega) (by omega) ?_; intro B2 d2 w2 hB2 hg2)
              | (at_builtin; refine grow elem_run rfl (.tmp 35) (.tmp 38) rfl rfl ((hB.drewN _).alloc _) rfl (Rd.new' _ _ _ _ _ (by simp) rfl) rfl (by simp [Value.oneCell']) (R.length + 1) rfl (runV (R ++ [(stepOf l a).1])) (by rw [HS.out]; simp [runV, prs]) (by omega) (by omega) ?_; intro B2 d2 w2 hB2 hg2))
              go_roundg (l.length - (a + (stepOf l a).2))
              case measure => omega
              case rel => exact ⟨a + (stepOf l a).2, R ++ [(stepOf l a).1], B2, d2, hle, rfl, by rw [HS.out]; go_num, by simp, Hn.out, by simpa using hB2⟩
            · rw [h1] at hcell
              clear hprev hcl
              have HS := Lib.hid hS
              have hn2 : (stepOf l a).2 = _ := congrArg Prod.snd hS
              clear hS
              go_wp2_with (first
              | (at_builtin; refine grow elem_run rfl (.tmp 49) (.tmp 53) rfl rfl ((hB.drewN _).alloc _) rfl (Rd.new' _ _ _ _ _ (by simp) rfl) rfl (by simp [Value.oneCell']) (R.length + 1) rfl (runV (R ++ [(stepOf l a).1])) (by rw [HS.out]; simp [runV, prs]) (by omega) (by omega) ?_; intro B2 d2 w2 hB2 hg2)
              | (at_builtin; refine grow elem_run rfl (.tmp 62) (.tmp 66) rfl rfl ((hB.drewN _).alloc _) rfl (Rd.new' _ _ _ _ _ (by simp) rfl) rfl (by simp [Value.oneCell']) (R.length + 1) rfl (runV (R ++ [(stepOf l a).1])) (by rw [HS.out]; simp [runV, prs]) (by omega) (by omega) ?_; intro B2 d2 w2 hB2 hg2)
              | (at_builtin; refine grow elem_run rfl (.tmp 91) (.tmp 95) rfl rfl ((hB.drewN _).alloc _) rfl (Rd.new' _ _ _ _ _ (by simp) rfl) rfl (by simp [Value.oneCell']) (R.length + 1) rfl (runV (R ++ [(stepOf l a).1])) (by rw [HS.out]; simp [runV, prs]) (by omega) (by omega) ?_; intro B2 d2 w2 hB2 hg2)
              | (at_builtin; refine grow elem_run rfl (.tmp 35) (.tmp 38) rfl rfl ((hB.drewN _).alloc _) rfl (Rd.new' _ _ _ _ _ (by simp) rfl) rfl (by simp [Value.oneCell']) (R.length + 1) rfl (runV (R ++ [(stepOf l a).1])) (by rw [HS.out]; simp [runV, prs]) (by omega) (by omega) ?_; intro B2 d2 w2 hB2 hg2))
              go_roundg (l.length - (a + (stepOf l a).2))
              case measure => omega
              case rel => exact ⟨a + (stepOf l a).2, R ++ [(stepOf l a).1], B2, d2, hle, rfl, by rw [HS.out]; go_num, by simp, Hn.out, by simpa using hB2⟩
            · rw [h1] at hcell
              clear hprev hcl
              have HS := Lib.hid hS
              have hn2 : (stepOf l a).2 = _ := congrArg Prod.snd hS
              clear hS
              go_wp2_with (first
              | (at_builtin; refine grow elem_run rfl (.tmp 49) (.tmp 53) rfl rfl ((hB.drewN _).alloc _) rfl (Rd.new' _ _ _ _ _ (by simp) rfl) rfl (by simp [Value.oneCell']) (R.length + 1) rfl (runV (R ++ [(stepOf l a).1])) (by rw [HS.out]; simp [runV, prs]) (by omega) (by omega) ?_; intro B2 d2 w2 hB2 hg2)
              | (at_builtin; refine grow elem_run rfl (.tmp 62) (.tmp 66) rfl rfl ((hB.drewN _).alloc _) rfl (Rd.new' _ _ _ _ _ (by simp) rfl) rfl (by simp [Value.oneCell']) (R.length + 1) rfl (runV (R ++ [(stepOf l a).1])) (by rw [HS.out]; simp [runV, prs]) (by omega) (by omega) ?_; intro B2 d2 w2 hB2 hg2)
              | (at_builtin; refine grow elem_run rfl (.tmp 91) (.tmp 95) rfl rfl ((hB.drewN _).alloc _) rfl (Rd.new' _ _ _ _ _ (by simp) rfl) rfl (by simp [Value.oneCell']) (R.length + 1) rfl (runV (R ++ [(stepOf l a).1])) (by rw [HS.out]; simp [runV, prs]) (by omega) (by omega) ?_; intro B2 d2 w2 hB2 hg2)
              | (at_builtin; refine grow elem_run rfl (.tmp 35) (.tmp 38) rfl rfl ((hB.drewN _).alloc _) rfl (Rd.new' _ _ _ _ _ (by simp) rfl) rfl (by simp [Value.oneCell']) (R.length + 1) rfl (runV (R ++ [(stepOf l a).1])) (by rw [HS.out]; simp [runV, prs]) (by omega) (by omega) ?_; intro B2 d2 w2 hB2 hg2))
              go_roundg (l.length - (a + (stepOf l a).2))
              case measure => omega
              case rel => exact ⟨a + (stepOf l a).2, R ++ [(stepOf l a).1], B2, d2, hle, rfl, by rw [HS.out]; go_num, by simp, Hn.out, by simpa using hB2⟩
            · subst h2
              clear hprev hcl
              rw [Nat.add_zero] at hcell
              have e1 : (((nth l 0 : Nat) : Int) == 0) = false := by rw [beq_eq_false_iff_ne]; omega
              have e2 : (0 : Int) < (nth l 0 : Nat) := by omega
              have HS := Lib.hid hS
              have hn2 : (stepOf l 0).2 = _ := congrArg Prod.snd hS
              clear hS
              go_wp2_with (first
              | (at_builtin; refine grow elem_run rfl (.tmp 49) (.tmp 53) rfl rfl ((hB.drewN _).alloc _) rfl (Rd.new' _ _ _ _ _ (by simp) rfl) rfl (by simp [Value.oneCell']) (R.length + 1) rfl (runV (R ++ [(stepOf l 0).1])) (by rw [HS.out]; simp [runV, prs]) (by omega) (by omega) ?_; intro B2 d2 w2 hB2 hg2)
              | (at_builtin; refine grow elem_run rfl (.tmp 62) (.tmp 66) rfl rfl ((hB.drewN _).alloc _) rfl (Rd.new' _ _ _ _ _ (by simp) rfl) rfl (by simp [Value.oneCell']) (R.length + 1) rfl (runV (R ++ [(stepOf l 0).1])) (by rw [HS.out]; simp [runV, prs]) (by omega) (by omega) ?_; intro B2 d2 w2 hB2 hg2)
              | (at_builtin; refine grow elem_run rfl (.tmp 91) (.tmp 95) rfl rfl ((hB.drewN _).alloc _) rfl (Rd.new' _ _ _ _ _ (by simp) rfl) rfl (by simp [Value.oneCell']) (R.length + 1) rfl (runV (R ++ [(stepOf l 0).1])) (by rw [HS.out]; simp [runV, prs]) (by omega) (by omega) ?_; intro B2 d2 w2 hB2 hg2)
              | (at_builtin; refine grow elem_run rfl (.tmp 35) (.tmp 38) rfl rfl ((hB.drewN _).alloc _) rfl (Rd.new' _ _ _ _ _ (by simp) rfl) rfl (by simp [Value.oneCell']) (R.length + 1) rfl (runV (R ++ [(stepOf l 0).1])) (by rw [HS.out]; simp [runV, prs]) (by omega) (by omega) ?_; intro B2 d2 w2 hB2 hg2))
              go_roundg (l.length - (0 + (stepOf l 0).2))
              case measure => omega
              case rel => exact ⟨0 + (stepOf l 0).2, R ++ [(stepOf l 0).1], B2, d2, hle, rfl, by rw [HS.out]; go_num, by simp, Hn.out, by simpa using hB2⟩
            · have e1 : (((nth l a : Nat) : Int) == 0) = false := by rw [beq_eq_false_iff_ne]; omega
              have e2 : (0 : Int) < (nth l a : Nat) := by omega
              have hp := hprev h2
              have e4 : IntKind.i64.wrap ((a : Int) - 1) = ((a - 1 : Nat) : Int) := by rw [IntWalk.i64_in _ (by omega)]; omega
              clear hprev hcl
              have e3 : (((nth l (a - 1) : Nat) : Int) == ((nth l a : Nat) : Int)) = false := by rw [beq_eq_false_iff_ne]; omega
              have hx2 := nth_lt hl2.2 (by omega) (a - 1)
              have HS := Lib.hid hS
              have hn2 : (stepOf l a).2 = _ := congrArg Prod.snd hS
              clear hS
              go_wp2_with (first
              | (at_builtin; refine grow elem_run rfl (.tmp 49) (.tmp 53) rfl rfl ((hB.drewN _).alloc _) rfl (Rd.new' _ _ _ _ _ (by simp) rfl) rfl (by simp [Value.oneCell']) (R.length + 1) rfl (runV (R ++ [(stepOf l a).1])) (by rw [HS.out]; simp [runV, prs]) (by omega) (by omega) ?_; intro B2 d2 w2 hB2 hg2)
              | (at_builtin; refine grow elem_run rfl (.tmp 62) (.tmp 66) rfl rfl ((hB.drewN _).alloc _) rfl (Rd.new' _ _ _ _ _ (by simp) rfl) rfl (by simp [Value.oneCell']) (R.length + 1) rfl (runV (R ++ [(stepOf l a).1])) (by rw [HS.out]; simp [runV, prs]) (by omega) (by omega) ?_; intro B2 d2 w2 hB2 hg2)
              | (at_builtin; refine grow elem_run rfl (.tmp 91) (.tmp 95) rfl rfl ((hB.drewN _).alloc _) rfl (Rd.new' _ _ _ _ _ (by simp) rfl) rfl (by simp [Value.oneCell']) (R.length + 1) rfl (runV (R ++ [(stepOf l a).1])) (by rw [HS.out]; simp [runV, prs]) (by omega) (by omega) ?_; intro B2 d2 w2 hB2 hg2)
              | (at_builtin; refine grow elem_run rfl (.tmp 35) (.tmp 38) rfl rfl ((hB.drewN _).alloc _) rfl (Rd.new' _ _ _ _ _ (by simp) rfl) rfl (by simp [Value.oneCell']) (R.length + 1) rfl (runV (R ++ [(stepOf l a).1])) (by rw [HS.out]; simp [runV, prs]) (by omega) (by omega) ?_; intro B2 d2 w2 hB2 hg2))
              go_roundg (l.length - (a + (stepOf l a).2))
              case measure => omega
              case rel => exact ⟨a + (stepOf l a).2, R ++ [(stepOf l a).1], B2, d2, hle, rfl, by rw [HS.out]; go_num, by simp, Hn.out, by simpa using hB2⟩
            · have e1 : (((nth l a : Nat) : Int) == 0) = false := by rw [beq_eq_false_iff_ne]; omega
              have e2 : (0 : Int) < (nth l a : Nat) := by omega
              have hp := hprev h2
              have e4 : IntKind.i64.wrap ((a : Int) - 1) = ((a - 1 : Nat) : Int) := by rw [IntWalk.i64_in _ (by omega)]; omega
              clear hprev hcl
              rw [h3] at hp
              clear h3
              have HS := Lib.hid hS
              have hn2 : (stepOf l a).2 = _ := congrArg Prod.snd hS
              clear hS
              go_wp2_with (first
              | (at_builtin; refine grow elem_run rfl (.tmp 49) (.tmp 53) rfl rfl ((hB.drewN _).alloc _) rfl (Rd.new' _ _ _ _ _ (by simp) rfl) rfl (by simp [Value.oneCell']) (R.length + 1) rfl (runV (R ++ [(stepOf l a).1])) (by rw [HS.out]; simp [runV, prs]) (by omega) (by omega) ?_; intro B2 d2 w2 hB2 hg2)
              | (at_builtin; refine grow elem_run rfl (.tmp 62) (.tmp 66) rfl rfl ((hB.drewN _).alloc _) rfl (Rd.new' _ _ _ _ _ (by simp) rfl) rfl (by simp [Value.oneCell']) (R.length + 1) rfl (runV (R ++ [(stepOf l a).1])) (by rw [HS.out]; simp [runV, prs]) (by omega) (by omega) ?_; intro B2 d2 w2 hB2 hg2)
              | (at_builtin; refine grow elem_run rfl (.tmp 91) (.tmp 95) rfl rfl ((hB.drewN _).alloc _) rfl (Rd.new' _ _ _ _ _ (by simp) rfl) rfl (by simp [Value.oneCell']) (R.length + 1) rfl (runV (R ++ [(stepOf l a).1])) (by rw [HS.out]; simp [runV, prs]) (by omega) (by omega) ?_; intro B2 d2 w2 hB2 hg2)
              | (at_builtin; refine grow elem_run rfl (.tmp 35) (.tmp 38) rfl rfl ((hB.drewN _).alloc _) rfl (Rd.new' _ _ _ _ _ (by simp) rfl) rfl (by simp [Value.oneCell']) (R.length + 1) rfl (runV (R ++ [(stepOf l a).1])) (by rw [HS.out]; simp [runV, prs]) (by omega) (by omega) ?_; intro B2 d2 w2 hB2 hg2))
              go_roundg (l.length - (a + (stepOf l a).2))
              case measure => omega
              case rel => exact ⟨a + (stepOf l a).2, R ++ [(stepOf l a).1], B2, d2, hle, rfl, by rw [HS.out]; go_num, by simp, Hn.out, by simpa using hB2⟩
            · have e1 : (((nth l a : Nat) : Int) == 0) = false := by rw [beq_eq_false_iff_ne]; omega
              have e2 : (0 : Int) < (nth l a : Nat) := by omega
              have hp := hprev h2
              have e4 : IntKind.i64.wrap ((a : Int) - 1) = ((a - 1 : Nat) : Int) := by rw [IntWalk.i64_in _ (by omega)]; omega
              clear hprev hcl
              rw [h3] at hp
              clear h3
              have HS := Lib.hid hS
              have hn2 : (stepOf l a).2 = _ := congrArg Prod.snd hS
              clear hS
              go_wp2_with (first
              | (at_builtin; refine grow elem_run rfl (.tmp 49) (.tmp 53) rfl rfl ((hB.drewN _).alloc _) rfl (Rd.new' _ _ _ _ _ (by simp) rfl) rfl (by simp [Value.oneCell']) (R.length + 1) rfl (runV (R ++ [(stepOf l a).1])) (by rw [HS.out]; simp [runV, prs]) (by omega) (by omega) ?_; intro B2 d2 w2 hB2 hg2)
              | (at_builtin; refine grow elem_run rfl (.tmp 62) (.tmp 66) rfl rfl ((hB.drewN _).alloc _) rfl (Rd.new' _ _ _ _ _ (by simp) rfl) rfl (by simp [Value.oneCell']) (R.length + 1) rfl (runV (R ++ [(stepOf l a).1])) (by rw [HS.out]; simp [runV, prs]) (by omega) (by omega) ?_; intro B2 d2 w2 hB2 hg2)
              | (at_builtin; refine grow elem_run rfl (.tmp 91) (.tmp 95) rfl rfl ((hB.drewN _).alloc _) rfl (Rd.new' _ _ _ _ _ (by simp) rfl) rfl (by simp [Value.oneCell']) (R.length + 1) rfl (runV (R ++ [(stepOf l a).1])) (by rw [HS.out]; simp [runV, prs]) (by omega) (by omega) ?_; intro B2 d2 w2 hB2 hg2)
              | (at_builtin; refine grow elem_run rfl (.tmp 35) (.tmp 38) rfl rfl ((hB.drewN _).alloc _) rfl (Rd.new' _ _ _ _ _ (by simp) rfl) rfl (by simp [Value.oneCell']) (R.length + 1) rfl (runV (R ++ [(stepOf l a).1])) (by rw [HS.out]; simp [runV, prs]) (by omega) (by omega) ?_; intro B2 d2 w2 hB2 hg2))
              go_roundg (l.length - (a + (stepOf l a).2))
              case measure => omega
              case rel => exact ⟨a + (stepOf l a).2, R ++ [(stepOf l a).1], B2, d2, hle, rfl, by rw [HS.out]; go_num, by simp, Hn.out, by simpa using hB2⟩
            · have e1 : (((nth l a : Nat) : Int) == 0) = false := by rw [beq_eq_false_iff_ne]; omega
              have e2 : (0 : Int) < (nth l a : Nat) := by omega
              have hp := hprev h2
              have e4 : IntKind.i64.wrap ((a : Int) - 1) = ((a - 1 : Nat) : Int) := by rw [IntWalk.i64_in _ (by omega)]; omega
              clear hprev hcl
              rw [h3] at hp
              clear h3
              have HS := Lib.hid hS
              have hn2 : (stepOf l a).2 = _ := congrArg Prod.snd hS
              clear hS
              go_wp2_with (first
              | (at_builtin; refine grow elem_run rfl (.tmp 49) (.tmp 53) rfl rfl ((hB.drewN _).alloc _) rfl (Rd.new' _ _ _ _ _ (by simp) rfl) rfl (by simp [Value.oneCell']) (R.length + 1) rfl (runV (R ++ [(stepOf l a).1])) (by rw [HS.out]; simp [runV, prs]) (by omega) (by omega) ?_; intro B2 d2 w2 hB2 hg2)
              | (at_builtin; refine grow elem_run rfl (.tmp 62) (.tmp 66) rfl rfl ((hB.drewN _).alloc _) rfl (Rd.new' _ _ _ _ _ (by simp) rfl) rfl (by simp [Value.oneCell']) (R.length + 1) rfl (runV (R ++ [(stepOf l a).1])) (by rw [HS.out]; simp [runV, prs]) (by omega) (by omega) ?_; intro B2 d2 w2 hB2 hg2)
              | (at_builtin; refine grow elem_run rfl (.tmp 91) (.tmp 95) rfl rfl ((hB.drewN _).alloc _) rfl (Rd.new' _ _ _ _ _ (by simp) rfl) rfl (by simp [Value.oneCell']) (R.length + 1) rfl (runV (R ++ [(stepOf l a).1])) (by rw [HS.out]; simp [runV, prs]) (by omega) (by omega) ?_; intro B2 d2 w2 hB2 hg2)
              | (at_builtin; refine grow elem_run rfl (.tmp 35) (.tmp 38) rfl rfl ((hB.drewN _).alloc _) rfl (Rd.new' _ _ _ _ _ (by simp) rfl) rfl (by simp [Value.oneCell']) (R.length + 1) rfl (runV (R ++ [(stepOf l a).1])) (by rw [HS.out]; simp [runV, prs]) (by omega) (by omega) ?_; intro B2 d2 w2 hB2 hg2))
              go_roundg (l.length - (a + (stepOf l a).2))
              case measure => omega
              case rel => exact ⟨a + (stepOf l a).2, R ++ [(stepOf l a).1], B2, d2, hle, rfl, by rw [HS.out]; go_num, by simp, Hn.out, by simpa using hB2⟩
          · obtain rfl : a = l.length := by omega
            have hR0 : R = runsFrom l 0 := by rw [← HR.out, runsFrom_end (Nat.le_refl _), List.append_nil]
            have HR0 := Lib.hid hR0
            go_wp2_with fail
            go_ret2
            exact SqRes.yes HE.out (by rw [HR0.out]) rfl (by rw [← HR0.out]; exact hB.rebase hbW)
end Go.Proofs.YtfcefhaaphieeaaGreat
