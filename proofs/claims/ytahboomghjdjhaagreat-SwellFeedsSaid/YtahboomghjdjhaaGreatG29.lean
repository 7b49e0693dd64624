/-
  Walks: Bits (both), same (both), first.
-/
import Derived.BigQuiet
import Derived.Deep.QuietTactic
import Derived.Deep.RegionHeld3
import Derived.Test.YtahboomghjdjhaaGreatG03
import Derived.Test.YtahboomghjdjhaaGreatGOpen
import Derived.Test.YtahboomghjdjhaaGreatRows
namespace Go.Proofs.YtahboomghjdjhaaGreat
open Go.RowKit

theorem relem_u8 : Elem Tryz.prog 22 5 1 1 := Elem.mk' Tryz.underlying22 (z := .int .u8 0) (by kernel_rfl) rfl (by omega)
theorem elem_run : Elem Tryz.prog 179 155 2 16 := Elem.mk' Tryz.underlying179 (z := .agg #[.int .i64 0, .int .i64 0]) (by kernel_rfl) rfl (by omega)

theorem bits_any (s : Int) (w : World) (h1 : -9223372036854775808 ≤ s) (h2 : s ≤ 9223372036854775807) :
    Calls Tryz.prog 108 #[.int .i64 s] w fun e w' => e = .returned (.tuple #[.int .i64 (symBits s : Nat), .int .i64 (symE s : Nat)]) ∧ w = w' := by
  have q : (s < 0 ∧ symBits s = 0 ∧ symE s = 2) ∨ (18 < s ∧ symBits s = 0 ∧ symE s = 2) ∨ (s = 16 ∧ symBits s = 2 ∧ symE s = 0) ∨ (s = 17 ∧ symBits s = 3 ∧ symE s = 0) ∨ (s = 18 ∧ symBits s = 7 ∧ symE s = 0) ∨ (0 ≤ s ∧ s < 16 ∧ symBits s = 0 ∧ symE s = 0) := by
    unfold symBits symE
    by_cases a1 : s < 0
    · left; refine ⟨a1, ?_, ?_⟩ <;> repeat (first | rw [if_neg (by omega)] | rw [if_pos (by omega)])
    · by_cases a2 : 18 < s
      · right; left; refine ⟨a2, ?_, ?_⟩ <;> repeat (first | rw [if_neg (by omega)] | rw [if_pos (by omega)])
      · by_cases a3 : s = 16
        · subst a3; simp
        · by_cases a4 : s = 17
          · subst a4; simp
          · by_cases a5 : s = 18
            · subst a5; simp
            · right; right; right; right; right
              refine ⟨by omega, by omega, ?_, ?_⟩ <;> repeat (first | rw [if_neg (by omega)] | rw [if_pos (by omega)])
  rcases q with ⟨q, e1, e2⟩ | ⟨q, e1, e2⟩ | ⟨q, e1, e2⟩ | ⟨q, e1, e2⟩ | ⟨q, e1, e2⟩ | ⟨q, q', e1, e2⟩
  all_goals rw [e1, e2]; clear e1 e2
  all_goals try subst q
  all_goals
    go_enter Tryz.func108, Tryz.ntmps108
    go_wp2_with fail
    go_ret2
    exact ⟨rfl, rfl⟩

theorem rbits_any (s : Int) (w : World) (h1 : -9223372036854775808 ≤ s) (h2 : s ≤ 9223372036854775807) :
    Calls Tryz.prog 92 #[.int .i64 s] w fun e w' => e = .returned (.tuple #[.int .i64 (symBits s : Nat), .int .i64 (symE s : Nat)]) ∧ w = w' := by
  have q : (s < 0 ∧ symBits s = 0 ∧ symE s = 2) ∨ (18 < s ∧ symBits s = 0 ∧ symE s = 2) ∨ (s = 16 ∧ symBits s = 2 ∧ symE s = 0) ∨ (s = 17 ∧ symBits s = 3 ∧ symE s = 0) ∨ (s = 18 ∧ symBits s = 7 ∧ symE s = 0) ∨ (0 ≤ s ∧ s < 16 ∧ symBits s = 0 ∧ symE s = 0) := by
    unfold symBits symE
    by_cases a1 : s < 0
    · left; refine ⟨a1, ?_, ?_⟩ <;> repeat (first | rw [if_neg (by omega)] | rw [if_pos (by omega)])
    · by_cases a2 : 18 < s
      · right; left; refine ⟨a2, ?_, ?_⟩ <;> repeat (first | rw [if_neg (by omega)] | rw [if_pos (by omega)])
      · by_cases a3 : s = 16
        · subst a3; simp
        · by_cases a4 : s = 17
          · subst a4; simp
          · by_cases a5 : s = 18
            · subst a5; simp
            · right; right; right; right; right
              refine ⟨by omega, by omega, ?_, ?_⟩ <;> repeat (first | rw [if_neg (by omega)] | rw [if_pos (by omega)])
  rcases q with ⟨q, e1, e2⟩ | ⟨q, e1, e2⟩ | ⟨q, e1, e2⟩ | ⟨q, e1, e2⟩ | ⟨q, e1, e2⟩ | ⟨q, q', e1, e2⟩
  all_goals rw [e1, e2]; clear e1 e2
  all_goals try subst q
  all_goals
    go_enter Tryz.func92, Tryz.ntmps92
    go_wp2_with fail
    go_ret2
    exact ⟨rfl, rfl⟩

end Go.Proofs.YtahboomghjdjhaaGreat

/-
  Walks: first (the reference's).
-/
namespace Go.Proofs.YtahboomghjdjhaaGreat
open Go.RowKit

/-- What first answers. -/
def FirstRes (w w' : World) (e : Ending) (l : List Nat) (a : Nat) : Prop :=
  Below w.heap.size w w' ∧ e = .returned (.tuple #[.agg #[.int .i64 (stepOf l a).1.1, .int .i64 (stepOf l a).1.2], .int .i64 ((stepOf l a).2 : Nat)])

end Go.Proofs.YtahboomghjdjhaaGreat

/-
  Walks: Of, Squeeze (both), Same.
-/
namespace Go.Proofs.YtahboomghjdjhaaGreat
open Go.RowKit

/-- A list of runs is answered. -/
def RunsRes (w w' : World) (e : Ending) (R : List (Int × Int)) : Prop := ∃ B d, e = .returned (.slice B R.length d) ∧ Builds w w' 155 2 B R.length d (runV R)

/-- Runs so far. -/
def RunsInv (w : World) (l : List Nat) (gk : Nat) (vo va : Value) (wr : World) : Prop :=
  ∃ a R B d, a ≤ l.length ∧ gk = l.length - a ∧ va = .int .i64 ((a : Nat) : Int) ∧ vo = .slice B R.length d ∧ R ++ runsFrom l a = runsFrom l 0 ∧ Builds w wr 155 2 B R.length d (runV R)

/-- What Squeeze answers. -/
def SqRes (w w' : World) (e : Ending) (l : List Nat) : Prop :=
  ∃ B d, e = .returned (.tuple #[.slice B (sq l).length d, .int .i64 ((sqE l : Nat) : Int)]) ∧ Builds w w' 155 2 B (sq l).length d (runV (sq l))

end Go.Proofs.YtahboomghjdjhaaGreat

/-
  Walks: Same; the law RunsSqueeze.
-/
namespace Go.Proofs.YtahboomghjdjhaaGreat
open Go.RowKit

/-- A pair's cells. -/
theorem Rd.pair {w : World} {A : Option Addr} {l : List (Int × Int)} (h : Rd w A (runV l)) {i : Nat} (hi : i < l.length) :
    ∃ b off, A = some ⟨b, off, none⟩ ∧ w.cell? ⟨b, off + i * 2, none⟩ = some (.int .i64 (l[i]'hi).1) ∧ w.cell? ⟨b, off + i * 2 + 1, none⟩ = some (.int .i64 (l[i]'hi).2) := by
  obtain ⟨b, off, hA, hc⟩ := h.at_ (by rw [runV_length]; omega)
  obtain ⟨h1, h2⟩ := prs_get (f := fun r : Int × Int => .int .i64 r.1) (g := fun r : Int × Int => .int .i64 r.2) l i l[i] (List.getElem?_eq_getElem hi)
  refine ⟨b, off, hA, ?_, ?_⟩
  · rw [Nat.mul_comm]; exact hc _ _ h1
  · rw [Nat.add_assoc, Nat.mul_comm i 2]; exact hc _ _ h2

end Go.Proofs.YtahboomghjdjhaaGreat

/-
  Walks: Stretch.
-/
namespace Go.Proofs.YtahboomghjdjhaaGreat
open Go.RowKit

/-- What Stretch answers. -/
def StrRes (w w' : World) (e : Ending) (p : List Nat × Nat) : Prop :=
  ∃ B d, e = .returned (.tuple #[.slice B p.1.length d, .int .i64 (p.2 : Int)]) ∧ Builds w w' 5 1 B p.1.length d (u8s p.1)
theorem StrRes.no {w w' : World} {e : Ending} {p : List Nat × Nat} {E : Nat} (hp : p = ([], E)) (hb : Below w.heap.size w w') (he : e = .returned (.tuple #[.slice none 0 0, .int .i64 (E : Int)])) : StrRes w w' e p := by
  subst hp
  exact ⟨none, 0, he, Builds.nil' hb _ _⟩

section
variable {n : Nat} {l : List (Int × Int)} {i : Nat} {out : List Nat} {p : List Nat × Nat}
theorem str_no {E : Nat} (h : strF n (l.drop i) out = p) (hi : i < l.length) (hE : runsputE n l[i] out = E) (h0 : E ≠ 0) : p = ([], E) := by
  rw [List.drop_eq_getElem_cons hi] at h
  unfold strF at h
  rw [hE, if_neg h0] at h
  exact h.symm
theorem str_go (h : strF n (l.drop i) out = p) (hi : i < l.length) (hE : runsputE n l[i] out = 0) : strF n (l.drop (i + 1)) (putR l[i] out) = p := by
  rw [List.drop_eq_getElem_cons hi] at h
  unfold strF at h
  rwa [hE, if_pos rfl] at h
theorem str_end_ok (h : strF n (l.drop l.length) out = p) (hn : out.length = n) : p = (out, 0) := by
  rw [List.drop_length] at h
  unfold strF at h
  rw [if_pos hn] at h
  exact h.symm
theorem str_end_no (h : strF n (l.drop l.length) out = p) (hn : out.length ≠ n) : p = ([], 100) := by
  rw [List.drop_length] at h
  unfold strF at h
  rw [if_neg hn] at h
  exact h.symm
theorem putE_bad {r : Int × Int} (h : ¬ (0 ≤ r.1 ∧ r.1 ≤ 18 ∧ 0 ≤ r.2 ∧ r.2 < 2 ^ symBits r.1)) : runsputE n r out = 8 := by
  unfold runsputE
  rw [if_neg]
  unfold runOk
  intro h'
  exact h (of_decide_eq_true h')
theorem putE_run {r : Int × Int} (h : 0 ≤ r.1 ∧ r.1 ≤ 18 ∧ 0 ≤ r.2 ∧ r.2 < 2 ^ symBits r.1) (h2 : r.1 = 16 ∧ out = [] ∨ n < out.length + timesOf r) : runsputE n r out = 100 := by
  unfold runsputE runOk
  rw [if_pos (decide_eq_true h), if_pos h2]
theorem putE_ok {r : Int × Int} (h : 0 ≤ r.1 ∧ r.1 ≤ 18 ∧ 0 ≤ r.2 ∧ r.2 < 2 ^ symBits r.1) (h2 : ¬ (r.1 = 16 ∧ out = [] ∨ n < out.length + timesOf r)) : runsputE n r out = 0 := by
  unfold runsputE runOk
  rw [if_pos (decide_eq_true h), if_neg h2]
end
theorem u8s_more (out : List Nat) (k X : Nat) : u8s (out ++ List.replicate k X) ++ u8s [X] = u8s (out ++ List.replicate (k + 1) X) := by
  rw [← u8s_append, List.append_assoc, ← List.replicate_succ']

theorem str_arg (A : Option Addr) (c : Nat) (l : List (Int × Int)) (n : Int) (w : World) (hn1 : -9223372036854775808 ≤ n) (hn2 : n ≤ 9223372036854775807) (hbad : n < 0 ∨ 320 < n) :
    Calls Tryz.prog 109 #[.slice A l.length c, .int .i64 n] w fun e w' => StrRes w w' e ([], 2) := by
  rcases hbad with h | h
  all_goals
    go_enter Tryz.func109, Tryz.ntmps109
    go_wp2_with fail
    go_ret2
    exact StrRes.no rfl (Below.refl _ _) rfl

set_option maxHeartbeats 4000000 in
set_option maxRecDepth 100000 in
theorem str_any (A : Option Addr) (c : Nat) (l : List (Int × Int)) (n : Nat) (p : List Nat × Nat) (w : World) (hl : Rd w A (runV l)) (hm : l.length ≤ 1000) (hr : ∀ r ∈ l, -9223372036854775808 ≤ r.1 ∧ r.1 ≤ 9223372036854775807 ∧ -9223372036854775808 ≤ r.2 ∧ r.2 ≤ 9223372036854775807) (hn : n ≤ 320) (hp : strF n l [] = p) :
    Calls Tryz.prog 109 #[.slice A l.length c, .int .i64 (n : Int)] w fun e w' => StrRes w w' e p := by
  have HP := Lib.hid hp; clear hp
  go_enter Tryz.func109, Tryz.ntmps109
  go_wp2_with fail
  go_loopg [6, 21] l.length (fun gk vo vi wr => ∃ i out B d, i ≤ l.length ∧ gk = l.length - i ∧ vi = .int .i64 ((i : Nat) : Int) ∧ vo = .slice B out.length d ∧ strF n (l.drop i) out = p ∧ (∀ x ∈ out, x < 256) ∧ out.length ≤ n ∧ Builds w wr 5 1 B out.length d (u8s out))
  case atStart => exact ⟨0, [], none, 0, by omega, by omega, rfl, rfl, HP.out, by simp, by simp, Builds.nil_ _ _ _⟩
  case round =>
    obtain ⟨i, out, B, d, hi, hk, rfl, rfl, hs, hx256, hle, hB⟩ := hrel
    have HS := Lib.hid hs; clear hs
    have HX := Lib.hid hx256; clear hx256
    by_cases hlt : i < l.length
    · have hl1 := hl.below hB.1
      obtain ⟨b, off, rfl, hc1, hc2⟩ := hl1.pair hlt
      have hlt1 := cell_lt hc1
      obtain ⟨hr1, hr2, hr3, hr4⟩ := hr l[i] (List.getElem_mem hlt)
      have HN := Lib.hid fun E => str_no (n := n) (E := E) HS.out hlt
      have HG := Lib.hid (str_go (n := n) HS.out hlt)
      generalize hR : l[i] = r at *
      clear hR hl1
      obtain ⟨s, x⟩ := r
      dsimp only at *
      have HB := Lib.hid fun w => bits_any s w hr1 hr2
      have q : s < 0 ∨ 18 < s ∨ s = 16 ∨ s = 17 ∨ s = 18 ∨ (0 ≤ s ∧ s < 16) := by omega
      rcases q with q | q | q | q | q | ⟨q, q'⟩
      · have e1 : symBits s = 0 := by unfold symBits; rw [if_neg (by omega), if_neg (by omega), if_neg (by omega)]
        have e2 : symE s = 2 := by unfold symE; rw [if_pos (by omega)]
        rw [e1, e2] at HB
        clear e1 e2
        have HE := Lib.hid (HN.out 8 (putE_bad (by simp only; omega)) (by omega))
        go_wp2_with fail
        refine (HB.out _).mono ?_
        rintro e w1 ⟨rfl, rfl⟩
        go_wp2_with fail
        go_quiet (fail)
        go_wp2_with fail
        go_ret2
        exact StrRes.no HE.out (below_drewN' (hB.1.alloc hB.1.size _) _) rfl
      · have e1 : symBits s = 0 := by unfold symBits; rw [if_neg (by omega), if_neg (by omega), if_neg (by omega)]
        have e2 : symE s = 2 := by unfold symE; rw [if_pos (by omega)]
        rw [e1, e2] at HB
        clear e1 e2
        have HE := Lib.hid (HN.out 8 (putE_bad (by simp only; omega)) (by omega))
        go_wp2_with fail
        refine (HB.out _).mono ?_
        rintro e w1 ⟨rfl, rfl⟩
        go_wp2_with fail
        go_quiet (fail)
        go_wp2_with fail
        go_ret2
        exact StrRes.no HE.out (below_drewN' (hB.1.alloc hB.1.size _) _) rfl
      · subst q
        have e1 : symBits 16 = 2 := rfl
        have e2 : symE 16 = 0 := rfl
        have hok : 0 ≤ x → x < 4 → (0 ≤ (16 : Int) ∧ (16 : Int) ≤ 18 ∧ 0 ≤ x ∧ x < 2 ^ symBits 16) := fun h1 h2 => ⟨by omega, by omega, h1, by rw [e1]; simpa using h2⟩
        have hno : x < 0 ∨ 4 ≤ x → ¬ (0 ≤ (16 : Int) ∧ (16 : Int) ≤ 18 ∧ 0 ≤ x ∧ x < 2 ^ symBits 16) := fun h1 h2 => by rw [e1] at h2; simp at h2 <;> omega
        have HK := Lib.hid hok
        have HO := Lib.hid hno
        rw [e1, e2] at HB
        clear e1 e2 hok hno
        by_cases hx0 : x < 0
        · have d1 : decide (x < 0) = true := by simp; omega
          have HE := Lib.hid (HN.out 8 (putE_bad (HO.out (.inl hx0))) (by omega))
          go_wp2_with fail
          refine (HB.out _).mono ?_
          rintro e w1 ⟨rfl, rfl⟩
          go_wp2_with fail
          go_quiet (fail)
          go_wp2_with fail
          go_ret2
          exact StrRes.no HE.out (below_drewN' (hB.1.alloc hB.1.size _) _) rfl
        · obtain ⟨x, rfl⟩ := Int.eq_ofNat_of_zero_le (show 0 ≤ x by omega)
          have d1 : decide ((x : Int) < 0) = false := by simp
          by_cases hxp : 4 ≤ x
          · have d2 : decide ((4 : Int) ≤ x) = true := by simp; omega
            have HE := Lib.hid (HN.out 8 (putE_bad (HO.out (.inr (by omega)))) (by omega))
            go_wp2_with fail
            refine (HB.out _).mono ?_
            rintro e w1 ⟨rfl, rfl⟩
            go_wp2_with fail
            go_quiet (fail)
            go_wp2_with fail
            go_ret2
            exact StrRes.no HE.out (below_drewN' (hB.1.alloc hB.1.size _) _) rfl
          · have d2 : decide ((4 : Int) ≤ x) = false := by simp; omega
            have HK' := Lib.hid (HK.out (by omega) (by omega))
            clear HK HO
            have ht : timesOf ((16 : Int), (x : Int)) = x + 3 := by unfold timesOf; simp <;> omega
            by_cases hz : out.length = 0
            · have HE := Lib.hid (HN.out 100 (putE_run HK'.out (.inl ⟨rfl, List.eq_nil_of_length_eq_zero hz⟩)) (by omega))
              have d3 : ((out.length : Int) == 0) = true := by rw [beq_iff_eq]; omega
              clear ht
              go_wp2_with fail
              refine (HB.out _).mono ?_
              rintro e w1 ⟨rfl, rfl⟩
              go_wp2_with fail
              go_quiet (fail)
              go_wp2_with fail
              go_quiet (fail)
              go_wp2_with fail
              go_ret2
              exact StrRes.no HE.out (below_drewN' (hB.1.alloc hB.1.size _) _) rfl
            · have d3 : ((out.length : Int) == 0) = false := by rw [beq_eq_false_iff_ne]; omega
              obtain ⟨g, rfl, hg1, hg2⟩ := hB.at_ (by omega)
              have hcl := (hB.cell (out.length - 1) (by omega)).trans (u8s_get out (out.length - 1) (by omega))
              have e4 : IntKind.i64.wrap ((out.length : Int) - 1) = ((out.length - 1 : Nat) : Int) := by rw [IntWalk.i64_in _ (by omega)]; omega
              have hxx := nth_lt HX.out (by omega) (out.length - 1)
              have hw : whatOf (16, (x : Int)) out = nth out (out.length - 1) := rfl
              generalize nth out (out.length - 1) = X at *
              by_cases hbig : n < out.length + x + 3
              · have HE := Lib.hid (HN.out 100 (putE_run HK'.out (.inr (by rw [ht]; exact hbig))) (by omega))
                clear ht hw
                go_wp2_with fail
                refine (HB.out _).mono ?_
                rintro e w1 ⟨rfl, rfl⟩
                go_wp2_with fail
                go_quiet (fail)
                go_wp2_with fail
                go_quiet (fail)
                go_wp2_with fail
                go_ret2
                exact StrRes.no HE.out (below_drewN' (hB.1.alloc hB.1.size _) _) rfl
              · have HG' := Lib.hid (HG.out (putE_ok HK'.out (by rw [ht]; exact (fun h => h.elim (fun h => hz (by rw [h.2]; rfl)) (by omega)))))
                have HT := Lib.hid (show putR ((16 : Int), (x : Int)) out = out ++ List.replicate (x + 3) X by unfold putR; rw [ht, hw])
                clear ht hw
                go_wp2_with fail
                refine (HB.out _).mono ?_
                rintro e w1 ⟨rfl, rfl⟩
                go_wp2_with fail
                go_quiet (fail)
                go_wp2_with fail
                go_quiet (fail)
                go_wp2_with fail
                obtain ⟨wo, rfl⟩ : ∃ wo : World, wo = wr := ⟨_, rfl⟩
                go_loopg [6, 80] (x + 3) (fun gk vo vi wr' => ∃ k B d, k ≤ x + 3 ∧ gk = x + 3 - k ∧ vi = .int .i64 ((k : Nat) : Int) ∧ vo = .slice B (out.length + k) d ∧ Builds w wr' 5 1 B (out.length + k) d (u8s (out ++ List.replicate k X)))
                case atStart => exact ⟨0, _, _, by omega, by omega, rfl, rfl, by simpa using (hB.alloc _).drewN _⟩
                case round =>
                  obtain ⟨k, B2, d2, hk2, hkk, rfl, rfl, hB2⟩ := hrel
                  by_cases hlt2 : k < x + 3
                  · skip
                    go_wp2_with (at_builtin; refine grow relem_u8 rfl (.tmp 82) (.tmp 84) rfl rfl (hB2.alloc _) rfl (Rd.new' _ _ _ (u8s [X]) _ (by simp) rfl) rfl (u8s_one _) (out.length + (k + 1)) (by omega) _ (u8s_more out k X) (by omega) (by omega) ?_; intro B3 d3 w3 hB3 hg3)
                    go_roundg (x + 3 - (k + 1))
                    case measure => omega
                    case rel => exact ⟨k + 1, B3, d3, by omega, rfl, by go_num, rfl, hB3⟩
                  · obtain rfl : k = x + 3 := by omega
                    go_wp2_with fail
                    go_roundg (l.length - (i + 1))
                    case measure => omega
                    case rel => exact ⟨i + 1, putR ((16 : Int), (x : Int)) out, B2, d2, by omega, rfl, by go_num, by rw [HT.out]; simp, HG'.out, putR_lt (decide_eq_true HK'.out) HX.out, by rw [HT.out]; simp; omega, by rw [HT.out]; simpa using hB2⟩
      · subst q
        have e1 : symBits 17 = 3 := rfl
        have e2 : symE 17 = 0 := rfl
        have hok : 0 ≤ x → x < 8 → (0 ≤ (17 : Int) ∧ (17 : Int) ≤ 18 ∧ 0 ≤ x ∧ x < 2 ^ symBits 17) := fun h1 h2 => ⟨by omega, by omega, h1, by rw [e1]; simpa using h2⟩
        have hno : x < 0 ∨ 8 ≤ x → ¬ (0 ≤ (17 : Int) ∧ (17 : Int) ≤ 18 ∧ 0 ≤ x ∧ x < 2 ^ symBits 17) := fun h1 h2 => by rw [e1] at h2; simp at h2 <;> omega
        have HK := Lib.hid hok
        have HO := Lib.hid hno
        rw [e1, e2] at HB
        clear e1 e2 hok hno
        by_cases hx0 : x < 0
        · have d1 : decide (x < 0) = true := by simp; omega
          have HE := Lib.hid (HN.out 8 (putE_bad (HO.out (.inl hx0))) (by omega))
          go_wp2_with fail
          refine (HB.out _).mono ?_
          rintro e w1 ⟨rfl, rfl⟩
          go_wp2_with fail
          go_quiet (fail)
          go_wp2_with fail
          go_ret2
          exact StrRes.no HE.out (below_drewN' (hB.1.alloc hB.1.size _) _) rfl
        · obtain ⟨x, rfl⟩ := Int.eq_ofNat_of_zero_le (show 0 ≤ x by omega)
          have d1 : decide ((x : Int) < 0) = false := by simp
          by_cases hxp : 8 ≤ x
          · have d2 : decide ((8 : Int) ≤ x) = true := by simp; omega
            have HE := Lib.hid (HN.out 8 (putE_bad (HO.out (.inr (by omega)))) (by omega))
            go_wp2_with fail
            refine (HB.out _).mono ?_
            rintro e w1 ⟨rfl, rfl⟩
            go_wp2_with fail
            go_quiet (fail)
            go_wp2_with fail
            go_ret2
            exact StrRes.no HE.out (below_drewN' (hB.1.alloc hB.1.size _) _) rfl
          · have d2 : decide ((8 : Int) ≤ x) = false := by simp; omega
            have HK' := Lib.hid (HK.out (by omega) (by omega))
            clear HK HO
            have ht : timesOf ((17 : Int), (x : Int)) = x + 3 := by unfold timesOf; simp <;> omega
            have hw : whatOf (17, (x : Int)) out = 0 := rfl
            by_cases hbig : n < out.length + x + 3
            · have HE := Lib.hid (HN.out 100 (putE_run HK'.out (.inr (by rw [ht]; exact hbig))) (by omega))
              clear ht hw
              go_wp2_with fail
              refine (HB.out _).mono ?_
              rintro e w1 ⟨rfl, rfl⟩
              go_wp2_with fail
              go_quiet (fail)
              go_wp2_with fail
              go_quiet (fail)
              go_wp2_with fail
              go_ret2
              exact StrRes.no HE.out (below_drewN' (hB.1.alloc hB.1.size _) _) rfl
            · have HG' := Lib.hid (HG.out (putE_ok HK'.out (by rw [ht]; exact (fun h => h.elim (fun h => by have := h.1; simp at this) (by omega)))))
              have HT := Lib.hid (show putR ((17 : Int), (x : Int)) out = out ++ List.replicate (x + 3) 0 by unfold putR; rw [ht, hw])
              clear ht hw
              go_wp2_with fail
              refine (HB.out _).mono ?_
              rintro e w1 ⟨rfl, rfl⟩
              go_wp2_with fail
              go_quiet (fail)
              go_wp2_with fail
              go_quiet (fail)
              go_wp2_with fail
              obtain ⟨wo, rfl⟩ : ∃ wo : World, wo = wr := ⟨_, rfl⟩
              go_loopg [6, 80] (x + 3) (fun gk vo vi wr' => ∃ k B d, k ≤ x + 3 ∧ gk = x + 3 - k ∧ vi = .int .i64 ((k : Nat) : Int) ∧ vo = .slice B (out.length + k) d ∧ Builds w wr' 5 1 B (out.length + k) d (u8s (out ++ List.replicate k 0)))
              case atStart => exact ⟨0, _, _, by omega, by omega, rfl, rfl, by simpa using (hB.alloc _).drewN _⟩
              case round =>
                obtain ⟨k, B2, d2, hk2, hkk, rfl, rfl, hB2⟩ := hrel
                by_cases hlt2 : k < x + 3
                · skip
                  go_wp2_with (at_builtin; refine grow relem_u8 rfl (.tmp 82) (.tmp 84) rfl rfl (hB2.alloc _) rfl (Rd.new' _ _ _ (u8s [0]) _ (by simp) rfl) rfl (u8s_one _) (out.length + (k + 1)) (by omega) _ (u8s_more out k 0) (by omega) (by omega) ?_; intro B3 d3 w3 hB3 hg3)
                  go_roundg (x + 3 - (k + 1))
                  case measure => omega
                  case rel => exact ⟨k + 1, B3, d3, by omega, rfl, by go_num, rfl, hB3⟩
                · obtain rfl : k = x + 3 := by omega
                  go_wp2_with fail
                  go_roundg (l.length - (i + 1))
                  case measure => omega
                  case rel => exact ⟨i + 1, putR ((17 : Int), (x : Int)) out, B2, d2, by omega, rfl, by go_num, by rw [HT.out]; simp, HG'.out, putR_lt (decide_eq_true HK'.out) HX.out, by rw [HT.out]; simp; omega, by rw [HT.out]; simpa using hB2⟩
      · subst q
        have e1 : symBits 18 = 7 := rfl
        have e2 : symE 18 = 0 := rfl
        have hok : 0 ≤ x → x < 128 → (0 ≤ (18 : Int) ∧ (18 : Int) ≤ 18 ∧ 0 ≤ x ∧ x < 2 ^ symBits 18) := fun h1 h2 => ⟨by omega, by omega, h1, by rw [e1]; simpa using h2⟩
        have hno : x < 0 ∨ 128 ≤ x → ¬ (0 ≤ (18 : Int) ∧ (18 : Int) ≤ 18 ∧ 0 ≤ x ∧ x < 2 ^ symBits 18) := fun h1 h2 => by rw [e1] at h2; simp at h2 <;> omega
        have HK := Lib.hid hok
        have HO := Lib.hid hno
        rw [e1, e2] at HB
        clear e1 e2 hok hno
        by_cases hx0 : x < 0
        · have d1 : decide (x < 0) = true := by simp; omega
          have HE := Lib.hid (HN.out 8 (putE_bad (HO.out (.inl hx0))) (by omega))
          go_wp2_with fail
          refine (HB.out _).mono ?_
          rintro e w1 ⟨rfl, rfl⟩
          go_wp2_with fail
          go_quiet (fail)
          go_wp2_with fail
          go_ret2
          exact StrRes.no HE.out (below_drewN' (hB.1.alloc hB.1.size _) _) rfl
        · obtain ⟨x, rfl⟩ := Int.eq_ofNat_of_zero_le (show 0 ≤ x by omega)
          have d1 : decide ((x : Int) < 0) = false := by simp
          by_cases hxp : 128 ≤ x
          · have d2 : decide ((128 : Int) ≤ x) = true := by simp; omega
            have HE := Lib.hid (HN.out 8 (putE_bad (HO.out (.inr (by omega)))) (by omega))
            go_wp2_with fail
            refine (HB.out _).mono ?_
            rintro e w1 ⟨rfl, rfl⟩
            go_wp2_with fail
            go_quiet (fail)
            go_wp2_with fail
            go_ret2
            exact StrRes.no HE.out (below_drewN' (hB.1.alloc hB.1.size _) _) rfl
          · have d2 : decide ((128 : Int) ≤ x) = false := by simp; omega
            have HK' := Lib.hid (HK.out (by omega) (by omega))
            clear HK HO
            have ht : timesOf ((18 : Int), (x : Int)) = x + 11 := by unfold timesOf; simp <;> omega
            have hw : whatOf (18, (x : Int)) out = 0 := rfl
            by_cases hbig : n < out.length + x + 11
            · have HE := Lib.hid (HN.out 100 (putE_run HK'.out (.inr (by rw [ht]; exact hbig))) (by omega))
              clear ht hw
              go_wp2_with fail
              refine (HB.out _).mono ?_
              rintro e w1 ⟨rfl, rfl⟩
              go_wp2_with fail
              go_quiet (fail)
              go_wp2_with fail
              go_quiet (fail)
              go_wp2_with fail
              go_ret2
              exact StrRes.no HE.out (below_drewN' (hB.1.alloc hB.1.size _) _) rfl
            · have HG' := Lib.hid (HG.out (putE_ok HK'.out (by rw [ht]; exact (fun h => h.elim (fun h => by have := h.1; simp at this) (by omega)))))
              have HT := Lib.hid (show putR ((18 : Int), (x : Int)) out = out ++ List.replicate (x + 11) 0 by unfold putR; rw [ht, hw])
              clear ht hw
              go_wp2_with fail
              refine (HB.out _).mono ?_
              rintro e w1 ⟨rfl, rfl⟩
              go_wp2_with fail
              go_quiet (fail)
              go_wp2_with fail
              go_quiet (fail)
              go_wp2_with fail
              obtain ⟨wo, rfl⟩ : ∃ wo : World, wo = wr := ⟨_, rfl⟩
              go_loopg [6, 80] (x + 11) (fun gk vo vi wr' => ∃ k B d, k ≤ x + 11 ∧ gk = x + 11 - k ∧ vi = .int .i64 ((k : Nat) : Int) ∧ vo = .slice B (out.length + k) d ∧ Builds w wr' 5 1 B (out.length + k) d (u8s (out ++ List.replicate k 0)))
              case atStart => exact ⟨0, _, _, by omega, by omega, rfl, rfl, by simpa using (hB.alloc _).drewN _⟩
              case round =>
                obtain ⟨k, B2, d2, hk2, hkk, rfl, rfl, hB2⟩ := hrel
                by_cases hlt2 : k < x + 11
                · skip
                  go_wp2_with (at_builtin; refine grow relem_u8 rfl (.tmp 82) (.tmp 84) rfl rfl (hB2.alloc _) rfl (Rd.new' _ _ _ (u8s [0]) _ (by simp) rfl) rfl (u8s_one _) (out.length + (k + 1)) (by omega) _ (u8s_more out k 0) (by omega) (by omega) ?_; intro B3 d3 w3 hB3 hg3)
                  go_roundg (x + 11 - (k + 1))
                  case measure => omega
                  case rel => exact ⟨k + 1, B3, d3, by omega, rfl, by go_num, rfl, hB3⟩
                · obtain rfl : k = x + 11 := by omega
                  go_wp2_with fail
                  go_roundg (l.length - (i + 1))
                  case measure => omega
                  case rel => exact ⟨i + 1, putR ((18 : Int), (x : Int)) out, B2, d2, by omega, rfl, by go_num, by rw [HT.out]; simp, HG'.out, putR_lt (decide_eq_true HK'.out) HX.out, by rw [HT.out]; simp; omega, by rw [HT.out]; simpa using hB2⟩
      · have e1 : symBits s = 0 := by unfold symBits; rw [if_neg (by omega), if_neg (by omega), if_neg (by omega)]
        have e2 : symE s = 0 := by unfold symE; rw [if_neg (by omega)]
        have hok : 0 ≤ x → x < 1 → (0 ≤ (s : Int) ∧ (s : Int) ≤ 18 ∧ 0 ≤ x ∧ x < 2 ^ symBits s) := fun h1 h2 => ⟨by omega, by omega, h1, by rw [e1]; simpa using h2⟩
        have hno : x < 0 ∨ 1 ≤ x → ¬ (0 ≤ (s : Int) ∧ (s : Int) ≤ 18 ∧ 0 ≤ x ∧ x < 2 ^ symBits s) := fun h1 h2 => by rw [e1] at h2; simp at h2 <;> omega
        have HK := Lib.hid hok
        have HO := Lib.hid hno
        rw [e1, e2] at HB
        clear e1 e2 hok hno
        by_cases hx0 : x < 0
        · have d1 : decide (x < 0) = true := by simp; omega
          have HE := Lib.hid (HN.out 8 (putE_bad (HO.out (.inl hx0))) (by omega))
          go_wp2_with fail
          refine (HB.out _).mono ?_
          rintro e w1 ⟨rfl, rfl⟩
          go_wp2_with fail
          go_quiet (fail)
          go_wp2_with fail
          go_ret2
          exact StrRes.no HE.out (below_drewN' (hB.1.alloc hB.1.size _) _) rfl
        · obtain ⟨x, rfl⟩ := Int.eq_ofNat_of_zero_le (show 0 ≤ x by omega)
          have d1 : decide ((x : Int) < 0) = false := by simp
          by_cases hxp : 1 ≤ x
          · have d2 : decide ((1 : Int) ≤ x) = true := by simp; omega
            have HE := Lib.hid (HN.out 8 (putE_bad (HO.out (.inr (by omega)))) (by omega))
            go_wp2_with fail
            refine (HB.out _).mono ?_
            rintro e w1 ⟨rfl, rfl⟩
            go_wp2_with fail
            go_quiet (fail)
            go_wp2_with fail
            go_ret2
            exact StrRes.no HE.out (below_drewN' (hB.1.alloc hB.1.size _) _) rfl
          · have d2 : decide ((1 : Int) ≤ x) = false := by simp; omega
            have HK' := Lib.hid (HK.out (by omega) (by omega))
            clear HK HO
            have ht : timesOf ((s : Int), (x : Int)) = 1 := by unfold timesOf; rw [if_neg (by simp only; omega), if_neg (by simp only; omega)]
            obtain ⟨s, rfl⟩ := Int.eq_ofNat_of_zero_le q
            have hw : whatOf ((s : Int), (x : Int)) out = s := by unfold whatOf; rw [if_neg (by simp only; omega), if_neg (by simp only; omega)]; simp
            have d16 : ((s : Int) == 16) = false := by rw [beq_eq_false_iff_ne]; omega
            have d17 : ((s : Int) == 17) = false := by rw [beq_eq_false_iff_ne]; omega
            have d18 : ((s : Int) == 18) = false := by rw [beq_eq_false_iff_ne]; omega
            by_cases hbig : n < out.length + 1
            · have HE := Lib.hid (HN.out 100 (putE_run HK'.out (.inr (by rw [ht]; exact hbig))) (by omega))
              clear ht hw
              go_wp2_with fail
              refine (HB.out _).mono ?_
              rintro e w1 ⟨rfl, rfl⟩
              go_wp2_with fail
              go_quiet (fail)
              go_wp2_with fail
              go_quiet (fail)
              go_wp2_with fail
              go_ret2
              exact StrRes.no HE.out (below_drewN' (hB.1.alloc hB.1.size _) _) rfl
            · have HG' := Lib.hid (HG.out (putE_ok HK'.out (by rw [ht]; exact (fun h => h.elim (fun h => by have := h.1; simp only at this; omega) (by omega)))))
              have HT := Lib.hid (show putR (((s : Int) : Int), (x : Int)) out = out ++ List.replicate (1) s by unfold putR; rw [ht, hw])
              clear ht hw
              go_wp2_with fail
              refine (HB.out _).mono ?_
              rintro e w1 ⟨rfl, rfl⟩
              go_wp2_with fail
              go_quiet (fail)
              go_wp2_with fail
              go_quiet (fail)
              go_wp2_with fail
              obtain ⟨wo, rfl⟩ : ∃ wo : World, wo = wr := ⟨_, rfl⟩
              go_loopg [6, 80] (1) (fun gk vo vi wr' => ∃ k B d, k ≤ 1 ∧ gk = 1 - k ∧ vi = .int .i64 ((k : Nat) : Int) ∧ vo = .slice B (out.length + k) d ∧ Builds w wr' 5 1 B (out.length + k) d (u8s (out ++ List.replicate k s)))
              case atStart => exact ⟨0, _, _, by omega, by omega, rfl, rfl, by simpa using (hB.alloc _).drewN _⟩
              case round =>
                obtain ⟨k, B2, d2, hk2, hkk, rfl, rfl, hB2⟩ := hrel
                by_cases hlt2 : k < 1
                · obtain rfl : k = 0 := by omega
                  go_wp2_with (at_builtin; refine grow relem_u8 rfl (.tmp 82) (.tmp 84) rfl rfl (hB2.alloc _) rfl (Rd.new' _ _ _ (u8s [s]) _ (by simp) rfl) rfl (u8s_one _) (out.length + (0 + 1)) (by omega) _ (u8s_more out 0 s) (by omega) (by omega) ?_; intro B3 d3 w3 hB3 hg3)
                  go_roundg (1 - (0 + 1))
                  case measure => omega
                  case rel => exact ⟨0 + 1, B3, d3, by omega, rfl, by go_num, rfl, hB3⟩
                · obtain rfl : k = 1 := by omega
                  go_wp2_with fail
                  go_roundg (l.length - (i + 1))
                  case measure => omega
                  case rel => exact ⟨i + 1, putR (((s : Int) : Int), (x : Int)) out, B2, d2, by omega, rfl, by go_num, by rw [HT.out]; simp, HG'.out, putR_lt (decide_eq_true HK'.out) HX.out, by rw [HT.out]; simp; omega, by rw [HT.out]; simpa using hB2⟩
    · obtain rfl : i = l.length := by omega
      by_cases hnn : out.length = n
      · have d1 : ((out.length : Int) != n) = false := by rw [bne_eq_false_iff_eq]; omega
        have HE := Lib.hid (str_end_ok HS.out hnn)
        have HNN := Lib.hid hnn; clear hnn
        go_wp2_with fail
        go_ret2
        rw [HE.out]
        exact ⟨B, d, rfl, hB⟩
      · have d1 : ((out.length : Int) != n) = true := by rw [bne_iff_ne]; omega
        have HE := Lib.hid (str_end_no HS.out hnn)
        go_wp2_with fail
        go_ret2
        exact StrRes.no HE.out hB.1 rfl
end Go.Proofs.YtahboomghjdjhaaGreat

/-
  Walks: the reference's Stretch.
-/
namespace Go.Proofs.YtahboomghjdjhaaGreat
open Go.RowKit

/-- 2 to the power of n. -/
def p2 (n : Nat) : Nat := 2 ^ n
/-- Is a run the length ahead? -/
theorem times_16 (x : Nat) (w : World) (hx : x ≤ 1000) :
    Calls Tryz.prog 93 #[.agg #[.int .i64 16, .int .i64 (x : Int)]] w fun e w' => e = .returned (.tuple #[.int .i64 ((x : Int) + 3), .bool true]) ∧ Below w.heap.size w w' := by
  go_enter Tryz.func93, Tryz.ntmps93
  go_wp2_with fail
  go_ret2
  exact ⟨rfl, (Below.refl _ _).alloc (Nat.le_refl _) _⟩
theorem times_17 (x : Nat) (w : World) (hx : x ≤ 1000) :
    Calls Tryz.prog 93 #[.agg #[.int .i64 17, .int .i64 (x : Int)]] w fun e w' => e = .returned (.tuple #[.int .i64 ((x : Int) + 3), .bool false]) ∧ Below w.heap.size w w' := by
  go_enter Tryz.func93, Tryz.ntmps93
  go_wp2_with fail
  go_ret2
  exact ⟨rfl, (Below.refl _ _).alloc (Nat.le_refl _) _⟩
theorem times_18 (x : Nat) (w : World) (hx : x ≤ 1000) :
    Calls Tryz.prog 93 #[.agg #[.int .i64 18, .int .i64 (x : Int)]] w fun e w' => e = .returned (.tuple #[.int .i64 ((x : Int) + 11), .bool false]) ∧ Below w.heap.size w w' := by
  go_enter Tryz.func93, Tryz.ntmps93
  go_wp2_with fail
  go_ret2
  exact ⟨rfl, (Below.refl _ _).alloc (Nat.le_refl _) _⟩
theorem times_lit (s x : Nat) (w : World) (hs : s < 16) :
    Calls Tryz.prog 93 #[.agg #[.int .i64 (s : Int), .int .i64 (x : Int)]] w fun e w' => e = .returned (.tuple #[.int .i64 1, .bool false]) ∧ Below w.heap.size w w' := by
  have d1 : ((s : Int) == 16) = false := by rw [beq_eq_false_iff_ne]; omega
  have d2 : ((s : Int) == 17) = false := by rw [beq_eq_false_iff_ne]; omega
  have d3 : ((s : Int) == 18) = false := by rw [beq_eq_false_iff_ne]; omega
  go_enter Tryz.func93, Tryz.ntmps93
  go_wp2_with fail
  go_ret2
  exact ⟨rfl, (Below.refl _ _).alloc (Nat.le_refl _) _⟩

end Go.Proofs.YtahboomghjdjhaaGreat
