/-
  Walks: the comparison that is handed in, slices.insertionSortCmpFunc.
-/
import Derived.Deep.QuietTactic
import Derived.Test.YtfcefhaaphieeaaGreatGSortA
namespace Go.Proofs.YtfcefhaaphieeaaGreat
open Go.RowKit

/-- What cmp.Compare tells. -/
def cmpI (a b : Int) : Int := if a < b then -1 else if b < a then 1 else 0
theorem cmpI_neg {a b : Int} : cmpI a b < 0 ↔ a < b := by
  unfold cmpI
  by_cases h : a < b
  · rw [if_pos h]; omega
  · rw [if_neg h]
    by_cases h2 : b < a
    · rw [if_pos h2]; omega
    · rw [if_neg h2]; omega
/-- The comparison as a value. -/
def cmpV (kb : Nat) : Value := .func (.func 89) #[] #[.pointer (some ⟨kb, 0, none⟩)]
/-- The comparison tells two keys' order wherever what was there stands. -/
def CmpK (W : World) (kb : Nat) (f : Int → Int) (N : Int) : Prop := ∀ wx, Below W.heap.size W wx → ∀ x y, 0 ≤ x → x < N → 0 ≤ y → y < N →
  Calls Tryz.prog 89 #[.int .i64 x, .int .i64 y, .pointer (some ⟨kb, 0, none⟩)] wx fun e w' => e = .returned (.int .i64 (cmpI (f x) (f y))) ∧ ∃ q, w' = wx.drewN q
/-- All of a list are numbers below N. -/
def InN (N : Int) (xs : List Int) : Prop := ∀ x ∈ xs, 0 ≤ x ∧ x < N
theorem InN.at_ {N : Int} {xs : List Int} (h : InN N xs) {i : Nat} (hi : i < xs.length) : 0 ≤ nthI xs i ∧ nthI xs i < N := by
  rw [nthI_el hi]; exact h _ (List.getElem_mem hi)
theorem InN.perm {N : Int} {xs ys : List Int} (h : InN N xs) (p : List.Perm ys xs) : InN N ys := fun x hx => h x (p.subset hx)
theorem InN.ra {N : Int} {xs ys : List Int} {lo hi : Nat} (h : InN N xs) (p : RA xs ys lo hi) : InN N ys := h.perm p.perm

/-- The first j are as they were. -/
def Keep (zs ds : List Int) (j : Nat) : Prop := ∀ k, k < j → nthI ds k = nthI zs k
def SoRes (W w' : World) (e : Ending) (g n c : Nat) (f : Int → Int) (xs : List Int) (a b : Nat) : Prop := e = .returned (.tuple #[]) ∧ ∃ ys, Dt W w' g n c ys ∧ RA xs ys a b ∧ SG f ys a b

set_option maxRecDepth 100000 in
set_option maxHeartbeats 4000000 in
theorem ins_is (W : World) (g n c a b kb : Nat) (f : Int → Int) (N : Int) (xs : List Int) (w : World) (K : CmpK W kb f N) (h : Dt W w g n c xs) (hn : n ≤ 1000000) (hab : a ≤ b) (hb : b ≤ n) (hx : InN N xs)
    (hs : ∀ i j, a ≤ i → i < j → j < b → nthI xs i < nthI xs j) :
    Calls Tryz.prog 99 #[.slice (some ⟨g, 0, none⟩) n c, .int .i64 (a : Int), .int .i64 (b : Int), cmpV kb] w fun e w' => SoRes W w' e g n c f xs a b := by
  have HK := Lib.hid K
  have HS := Lib.hid hs
  clear hs K
  unfold cmpV
  rcases Nat.eq_or_lt_of_le hab with rfl | hab'
  · have hl : ¬ ((a : Int) + 1 < (a : Int)) := by omega
    go_enter Tryz.func99, Tryz.ntmps99
    go_wp2_with fail
    go_loopg [8] 0 (fun gk v8 wr => v8 = .int .i64 ((a : Int) + 1) ∧ wr = w)
    case atStart => exact ⟨rfl, rfl⟩
    case round =>
      obtain ⟨rfl, rfl⟩ := hrel
      go_wp2_with fail
      go_end0
      exact ⟨rfl, xs, h, RA.refl _ _ _, fun i j h1 h2 h3 => by omega⟩
  · have H0 : Hid (RA xs xs a (a + 1) ∧ SG f xs a (a + 1) ∧ InN N xs) := Lib.hid ⟨RA.refl _ _ _, fun i j h1 h2 h3 => by omega, hx⟩
    clear hx
    go_enter Tryz.func99, Tryz.ntmps99
    go_wp2_with fail
    go_loopg [8] (b - (a + 1)) (fun gk v8 wr => ∃ (i : Nat) (zs : List Int), a < i ∧ i ≤ b ∧ gk = b - i ∧ v8 = .int .i64 (i : Int) ∧ Dt W wr g n c zs ∧ Hid (RA xs zs a i ∧ SG f zs a i ∧ InN N zs))
    case atStart => exact ⟨a + 1, xs, by omega, by omega, by omega, by go_num, h, H0⟩
    case round =>
      clear h H0
      obtain ⟨i, zs, hai, hib, hgk, rfl, h, HZ⟩ := hrel
      have HG := Lib.hid hgk
      clear hgk
      by_cases hlt : i < b
      · have hlt' : (i : Int) < (b : Int) := by omega
        have H1 : Hid (InsAt f zs a i i (nthI zs i) ∧ RA zs zs a (i + 1) ∧ Keep zs zs i) := Lib.hid ⟨InsAt.start HZ.out.2.1, RA.refl _ _ _, fun _ _ => rfl⟩
        have HL := Lib.hid h.len
        go_wp2_with fail
        go_loopg [9] i (fun g2 v9 wr => ∃ (j : Nat) (dj : List Int), a ≤ j ∧ j ≤ i ∧ g2 = j ∧ v9 = .int .i64 (j : Int) ∧ Dt W wr g n c dj ∧ Hid (InsAt f dj a j i (nthI zs i) ∧ RA zs dj a (i + 1) ∧ Keep zs dj j))
        case atStart => exact ⟨i, zs, by omega, Nat.le_refl _, rfl, rfl, h, H1⟩
        case round =>
          clear h H1
          obtain ⟨j, dj, haj, hji, hg2, rfl, h, HD⟩ := hrel
          have HG2 := Lib.hid hg2
          clear hg2
          have HE := Lib.hid (show nthI zs i = nthI xs i from HZ.out.1.out i (.inr (Nat.le_refl _)))
          by_cases hja : a < j
          · obtain ⟨jp, hjp⟩ : ∃ jp, j = jp + 1 := ⟨j - 1, by omega⟩
            have ej : (j : Int) - 1 = (jp : Int) := by omega
            have hja' : decide ((j : Int) > (a : Int)) = true := decide_eq_true (by omega)
            have hjn : j < n := by omega
            have hpn : jp < n := by omega
            have cj := h.cell j hjn
            have cp := h.cell jp hpn
            have fj := h.free j
            have fp := h.free jp
            obtain ⟨x, hx⟩ : ∃ x, nthI dj j = x := ⟨_, rfl⟩
            obtain ⟨y, hy⟩ : ∃ y, nthI dj jp = y := ⟨_, rfl⟩
            have hN := InN.ra HZ.out.2.2 HD.out.2.1
            have hdl : dj.length = n := h.len
            have hxN := hN.at_ (i := j) (by omega)
            have hyN := hN.at_ (i := jp) (by omega)
            rw [hx] at cj hxN
            rw [hy] at cp hyN
            have HP := Lib.hid (And.intro hjp (And.intro hx hy))
            obtain ⟨r, hr⟩ : ∃ r, cmpI (f x) (f y) = r := ⟨_, rfl⟩
            have HC := Lib.hid (fun m => show Calls Tryz.prog 89 #[.int .i64 x, .int .i64 y, .pointer (some ⟨kb, 0, none⟩)] (wr.drewN m) (fun e w' => e = .returned (.int .i64 r) ∧ ∃ q, w' = (wr.drewN m).drewN q) from by
              have := HK.out (wr.drewN m) (below_drewN' h.bel m) x y hxN.1 hxN.2 hyN.1 hyN.2
              rw [hr] at this
              exact this)
            have HR := Lib.hid (show r < 0 ↔ f x < f y from by rw [← hr]; exact cmpI_neg)
            clear hjp hx hy hN hxN hyN hr hdl
            by_cases hlt2 : r < 0
            · go_wp2_with fail
              go_quiet ((go_at_call 89; exact Calls.quiet_of (HC.out _)))
              go_wp2_with fail
              have h2 := h.drewN nq
              have cj2 : (wr.drewN nq).cell? ⟨g, j, none⟩ = _ := cj
              have cp2 : (wr.drewN nq).cell? ⟨g, jp, none⟩ = _ := cp
              have fj2 : (wr.drewN nq).frozen? ⟨g, j, none⟩ = false := fj
              have fp2 : (wr.drewN nq).frozen? ⟨g, jp, none⟩ = false := fp
              clear cj cp fj fp h HC
              generalize wr.drewN nq = w2 at *
              go_region
              have h3 : Dt W _ g n c _ := (h2.swap hjn hpn).drew
              rw [HP.out.2.1, HP.out.2.2] at h3
              generalize ((w2.setCell ⟨g, j, none⟩ (.int .i64 y)).setCell ⟨g, jp, none⟩ (.int .i64 x)).drew = w3 at *
              clear cj2 cp2 fj2 fp2 h2
              have HD2 : Hid (InsAt f (swapI dj j jp) a jp i (nthI zs i) ∧ RA zs (swapI dj j jp) a (i + 1) ∧ Keep zs (swapI dj j jp) jp) := Lib.hid (by
                obtain ⟨rfl, e2, e3⟩ := HP.out
                obtain ⟨d1, d2, d3⟩ := HD.out
                have hl1 : zs.length = n := HL.out
                have hl2 : dj.length = n := by rw [d2.len]; exact hl1
                have e4 := d1.at_
                have hlx := HR.out.1 hlt2
                refine ⟨d1.step (by omega) hji (by omega) (.inl ?_), d2.trans (RA.swap (by omega) (by omega) (by omega) (by omega) (by omega)), fun k hk => ?_⟩
                · rw [← e4, e2, e3]; exact hlx
                · rw [swapI_get _ _ _ _ (by omega) (by omega), if_neg (by omega), if_neg (by omega)]; exact d3 k (by omega))
              clear HD
              go_wp2_with fail
              go_roundg jp
              case measure => have := HG2.out; have := HP.out.1; omega
              case rel => exact ⟨jp, swapI dj j jp, by omega, by omega, rfl, by go_num, h3, HD2⟩
            · go_wp2_with fail
              go_quiet ((go_at_call 89; exact Calls.quiet_of (HC.out _)))
              go_wp2_with fail
              go_roundg (b - (i + 1))
              case measure => have := HG.out; omega
              case rel =>
                refine ⟨i + 1, dj, by omega, by omega, rfl, by go_num, h.drewN _, Lib.hid ?_⟩
                obtain ⟨z1, z2, z3⟩ := HZ.out
                obtain ⟨d1, d2, d3⟩ := HD.out
                obtain ⟨e1, e2, e3⟩ := HP.out
                refine ⟨(z1.wide (Nat.le_refl _) (by omega)).trans d2, d1.done fun _ => ?_, z3.ra d2⟩
                have hx1 := d1.at_
                obtain ⟨k, k1, k2, ek⟩ := z1.mem jp (by omega) (by omega)
                have hk := HS.out k i k1 k2 hlt
                have hj := d3 jp (by omega)
                have he := HE.out
                have hf : ¬ f x < f y := fun hh => by have := HR.out.2 hh; omega
                rw [show j - 1 = jp by omega]
                rw [← e2, ← e3, hx1] at hf
                unfold LX
                rw [hj, ek, he] at *
                omega
          · obtain rfl : j = a := by omega
            have hja' : decide ((j : Int) > (j : Int)) = false := decide_eq_false (by omega)
            go_wp2_with fail
            go_quiet (fail)
            go_wp2_with fail
            go_roundg (b - (i + 1))
            case measure => have := HG.out; omega
            case rel =>
              refine ⟨i + 1, dj, by omega, by omega, rfl, by go_num, h.drewN _, Lib.hid ?_⟩
              obtain ⟨z1, z2, z3⟩ := HZ.out
              obtain ⟨d1, d2, d3⟩ := HD.out
              exact ⟨(z1.wide (Nat.le_refl _) (by omega)).trans d2, d1.done fun hh => by omega, z3.ra d2⟩
      · obtain rfl : i = b := by omega
        have hlt' : ¬ (i : Int) < (i : Int) := by omega
        go_wp2_with fail
        go_end0
        exact ⟨rfl, zs, h, HZ.out.1, HZ.out.2.1⟩
end Go.Proofs.YtfcefhaaphieeaaGreat
