/-
  Walks: slices.swapRangeCmpFunc, rotateCmpFunc, of numbers.
-/
import Derived.BigQuiet
import Derived.BigRegion
import Derived.Test.YtfcefhaaphieeaaGreatChecked
import Derived.Test.YtfcefhaaphieeaaGreatG03
namespace Go.Proofs.YtfcefhaaphieeaaGreat
open Go.RowKit

theorem elem_num : Elem Tryz.prog 89 3 1 8 := Elem.mk' Tryz.underlying89 (z := .int .i64 0) (by kernel_rfl) rfl (by omega)

/-- Numbers in a block of the call's own. -/
def Dt (W w : World) (g n c : Nat) (xs : List Int) : Prop := Builds W w 3 1 (some ⟨g, 0, none⟩) n c (ints xs)
section
variable {W w : World} {g n c : Nat} {xs : List Int}
theorem Dt.len (h : Dt W w g n c xs) : xs.length = n := by have := Builds.len h; rw [ints_length, Nat.mul_one] at this; exact this
theorem Dt.cell (h : Dt W w g n c xs) (i : Nat) (hi : i < n) : w.cell? ⟨g, i, none⟩ = some (.int .i64 (nthI xs i)) := by
  rw [Builds.cell h i (by omega), ints_get]; rw [h.len]; exact hi
theorem Dt.free (h : Dt W w g n c xs) (i : Nat) : w.frozen? ⟨g, i, none⟩ = false := Builds.free h i
theorem ints_set (xs : List Int) (i : Nat) (x : Int) : (ints xs).set i (.int .i64 x) = ints (xs.set i x) := by simp [ints, List.map_set]
theorem Dt.drew (h : Dt W w g n c xs) : Dt W w.drew g n c xs := Builds.drew h
theorem Dt.drewN (h : Dt W w g n c xs) (k : Nat) : Dt W (w.drewN k) g n c xs := Builds.drewN h k
theorem Dt.set (h : Dt W w g n c xs) (i : Nat) (hi : i < n) (x : Int) : Dt W (w.setCell ⟨g, i, none⟩ (.int .i64 x)) g n c (xs.set i x) := by
  have := Builds.set h i (by omega) (.int .i64 x)
  rw [ints_set] at this
  exact this
theorem Dt.swap (h : Dt W w g n c xs) {i j : Nat} (hi : i < n) (hj : j < n) : Dt W ((w.setCell ⟨g, i, none⟩ (.int .i64 (nthI xs j))).setCell ⟨g, j, none⟩ (.int .i64 (nthI xs i))) g n c (swapI xs i j) := (h.set i hi _).set j hj _
theorem Dt.bel (h : Dt W w g n c xs) : Below W.heap.size W w := h.1
end

def SwRes (W w' : World) (e : Ending) (g n c : Nat) (xs : List Int) (a b k : Nat) : Prop := e = .returned (.tuple #[]) ∧ ∃ ys, Dt W w' g n c ys ∧ SwR xs ys a b k ∧ RA xs ys a (b + k)

set_option maxRecDepth 100000 in
set_option maxHeartbeats 4000000 in
theorem swapR_is (W : World) (g n c a b k : Nat) (cf : Value) (xs : List Int) (w : World) (h : Dt W w g n c xs) (hn : n ≤ 1000000) (ha : a + k ≤ b) (hb : b + k ≤ n) :
    Calls Tryz.prog 102 #[.slice (some ⟨g, 0, none⟩) n c, .int .i64 (a : Int), .int .i64 (b : Int), .int .i64 (k : Int), cf] w fun e w' => SwRes W w' e g n c xs a b k := by
  have HL := Lib.hid h.len
  have H0 := Lib.hid (And.intro (SwR.zero xs a b) (RA.refl xs a (b + k)))
  go_enter Tryz.func102, Tryz.ntmps102
  go_wp2_with fail
  go_loopg [10] k (fun gk v10 wr => ∃ (i : Nat) (zs : List Int), i ≤ k ∧ gk = k - i ∧ v10 = .int .i64 (i : Int) ∧ Dt W wr g n c zs ∧ Hid (SwR xs zs a b i ∧ RA xs zs a (b + k)))
  case atStart => exact ⟨0, xs, by omega, rfl, rfl, h, H0⟩
  case round =>
    clear h H0
    obtain ⟨i, zs, hi, hgk, rfl, h, HZ⟩ := hrel
    have HG := Lib.hid hgk
    clear hgk
    by_cases hik : i < k
    · obtain ⟨p, hp⟩ : ∃ p, a + i = p := ⟨_, rfl⟩
      obtain ⟨q, hq⟩ : ∃ q, b + i = q := ⟨_, rfl⟩
      have hp' : (a : Int) + (i : Int) = (p : Int) := by omega
      have hq' : (b : Int) + (i : Int) = (q : Int) := by omega
      have hpn : p < n := by omega
      have hqn : q < n := by omega
      have cp := h.cell p hpn
      have cq := h.cell q hqn
      have fp := h.free p
      have fq := h.free q
      have hik' : (i : Int) < (k : Int) := by omega
      obtain ⟨x, hx⟩ : ∃ x, nthI zs p = x := ⟨_, rfl⟩
      obtain ⟨y, hy⟩ : ∃ y, nthI zs q = y := ⟨_, rfl⟩
      have HP := Lib.hid (And.intro hp (And.intro hq (And.intro hx hy)))
      rw [hx] at cp
      rw [hy] at cq
      clear hp hq hx hy
      go_wp2_with fail
      go_region
      have h2 : Dt W _ g n c _ := (h.swap hpn hqn).drew
      rw [HP.out.2.2.1, HP.out.2.2.2] at h2
      have HZ2 : Hid (SwR xs (swapI zs p q) a b (i + 1) ∧ RA xs (swapI zs p q) a (b + k)) := Lib.hid (by
        obtain ⟨e1, e2, -, -⟩ := HP.out
        have hl : zs.length = n := h.len
        rw [← e1, ← e2]
        exact ⟨HZ.out.1.step (by omega) (by omega), HZ.out.2.trans (RA.swap (by omega) (by omega) (by omega) (by omega) (by omega))⟩)
      generalize ((wr.setCell ⟨g, p, none⟩ (.int .i64 y)).setCell ⟨g, q, none⟩ (.int .i64 x)).drew = w2 at *
      clear cp cq fp fq h HZ HP hp' hq'
      go_wp2_with fail
      go_roundg (k - (i + 1))
      case measure => have := HG.out; omega
      case rel => exact ⟨i + 1, swapI zs p q, by omega, rfl, by go_num, h2, HZ2⟩
    · obtain rfl : i = k := by omega
      clear hik
      have hik' : ¬ (i : Int) < (i : Int) := by omega
      go_wp2_with fail
      go_end0
      exact ⟨rfl, zs, h, HZ.out⟩

/-- What a turn of a stretch tells. -/
def RotRes (W w' : World) (e : Ending) (g n c : Nat) (xs : List Int) (a m b : Nat) : Prop := e = .returned (.tuple #[]) ∧ ∃ ys, Dt W w' g n c ys ∧ Rot xs ys a m b ∧ RA xs ys a b

theorem rot_make (xs : List Int) (a m b : Nat) (h1 : a ≤ m) (h2 : m ≤ b) (h3 : b ≤ xs.length) : ∃ zs : List Int, Rot xs zs a m b := by
  refine ⟨(List.range xs.length).map fun k => if k < a then nthI xs k else if k < a + (b - m) then nthI xs (k + (m - a)) else if k < b then nthI xs (k - (b - m)) else nthI xs k, ?_⟩
  have g : ∀ k, nthI ((List.range xs.length).map fun k => if k < a then nthI xs k else if k < a + (b - m) then nthI xs (k + (m - a)) else if k < b then nthI xs (k - (b - m)) else nthI xs k) k = if k < a then nthI xs k else if k < a + (b - m) then nthI xs (k + (m - a)) else if k < b then nthI xs (k - (b - m)) else nthI xs k := by
    intro k
    by_cases hk : k < xs.length
    · simp [nthI, hk]
    · rw [if_neg (by omega), if_neg (by omega), if_neg (by omega)]
      simp [nthI, hk]
  refine ⟨fun k k1 k2 => ?_, fun k k1 k2 => ?_, fun k hk => ?_⟩
  · rw [g, if_neg (by omega), if_pos k2]
  · rw [g, if_neg (by omega), if_neg (by omega), if_pos k2]
  · rw [g]
    rcases hk with hk | hk
    · rw [if_pos hk]
    · rw [if_neg (by omega), if_neg (by omega), if_neg (by omega)]
theorem Rot.same {us vs zs : List Int} {a m b : Nat} (h : Rot us zs a m b) (e : ∀ k, nthI vs k = nthI zs k) : Rot us vs a m b :=
  ⟨fun k h1 h2 => (e k).trans (h.one k h1 h2), fun k h1 h2 => (e k).trans (h.two k h1 h2), fun k hk => (e k).trans (h.out k hk)⟩

set_option maxRecDepth 100000 in
set_option maxHeartbeats 4000000 in
theorem rot_is (W : World) (g n c a m b : Nat) (cf : Value) (xs : List Int) (w : World) (h : Dt W w g n c xs) (hn : n ≤ 1000000) (ha : a < m) (hm : m < b) (hb : b ≤ n) :
    Calls Tryz.prog 101 #[.slice (some ⟨g, 0, none⟩) n c, .int .i64 (a : Int), .int .i64 (m : Int), .int .i64 (b : Int), cf] w fun e w' => RotRes W w' e g n c xs a m b := by
  obtain ⟨zs, hz⟩ := rot_make xs a m b (by omega) (by omega) (by rw [h.len]; exact hb)
  have HZ := Lib.hid hz
  clear hz
  obtain ⟨i0, hi0⟩ : ∃ i, m - a = i := ⟨_, rfl⟩
  obtain ⟨j0, hj0⟩ : ∃ j, b - m = j := ⟨_, rfl⟩
  have e1 : (m : Int) - (a : Int) = (i0 : Int) := by omega
  have e2 : (b : Int) - (m : Int) = (j0 : Int) := by omega
  have H0 : Hid (Rot xs zs (m - i0) m (m + j0) ∧ RA xs xs a b) := Lib.hid ⟨by rw [show m - i0 = a by omega, show m + j0 = b by omega]; exact HZ.out, RA.refl _ _ _⟩
  have hi0' : 0 < i0 ∧ i0 ≤ m - a ∧ 0 < j0 ∧ j0 ≤ b - m := by omega
  clear hi0 hj0
  go_enter Tryz.func101, Tryz.ntmps101
  go_wp2_with fail
  go_loopg [10, 11] (i0 + j0) (fun gk v10 v11 wr => ∃ (i j : Nat) (us : List Int), 0 < i ∧ i ≤ m - a ∧ 0 < j ∧ j ≤ b - m ∧ gk = i + j ∧ v10 = .int .i64 (i : Int) ∧ v11 = .int .i64 (j : Int) ∧ Dt W wr g n c us ∧ Hid (Rot us zs (m - i) m (m + j) ∧ RA xs us a b))
  case atStart => exact ⟨i0, j0, xs, hi0'.1, hi0'.2.1, hi0'.2.2.1, hi0'.2.2.2, rfl, rfl, rfl, h, H0⟩
  case round =>
    clear h H0 e1 e2 hi0'
    obtain ⟨i, j, us, hi1, hi2, hj1, hj2, hgk, rfl, rfl, h, HR⟩ := hrel
    have HG := Lib.hid hgk
    clear hgk
    have e3 : (m : Int) - (i : Int) = ((m - i : Nat) : Int) := by omega
    obtain ⟨p, hp⟩ : ∃ p, m - i = p := ⟨_, rfl⟩
    rw [hp] at e3 HR
    by_cases hij : i = j
    · subst hij
      have hc : ((i : Int) != (i : Int)) = false := by simp
      have HS := Lib.hid (swapR_is W g n c p m i cf us wr h hn (by omega) (by omega))
      go_wp2_with (go_at_call 102; refine (HS.out).mono ?_; rintro e w1 ⟨rfl, vs, h1, h2, h3⟩)
      go_end0
      have hpe := hp
      subst hp
      exact ⟨rfl, vs, h1, HZ.out.same (HR.out.1.last (by omega) h2), HR.out.2.trans (h3.wide (by omega) (by omega))⟩
    · have hc : ((i : Int) != (j : Int)) = true := by rw [bne_iff_ne]; omega
      by_cases hlt : j < i
      · have hlt' : (j : Int) < (i : Int) := by omega
        have e4 : (i : Int) - (j : Int) = ((i - j : Nat) : Int) := by omega
        have HS := Lib.hid (swapR_is W g n c p m j cf us wr h hn (by omega) (by omega))
        go_wp2_with (go_at_call 102; refine (HS.out).mono ?_; rintro e w1 ⟨rfl, vs, h1, h2, h3⟩)
        go_roundg ((i - j) + j)
        case measure => have := HG.out; omega
        case rel =>
          subst hp
          exact ⟨i - j, j, vs, by omega, by omega, by omega, by omega, rfl, rfl, rfl, h1, Lib.hid ⟨HR.out.1.left (by omega) hlt h2, HR.out.2.trans (h3.wide (by omega) (by omega))⟩⟩
      · have hlt' : ¬ (j : Int) < (i : Int) := by omega
        have e4 : (j : Int) - (i : Int) = ((j - i : Nat) : Int) := by omega
        have e5 : (m : Int) + (j : Int) - (i : Int) = ((m + j - i : Nat) : Int) := by omega
        have HS := Lib.hid (swapR_is W g n c p (m + j - i) i cf us wr h hn (by omega) (by omega))
        go_wp2_with (go_at_call 102; refine (HS.out).mono ?_; rintro e w1 ⟨rfl, vs, h1, h2, h3⟩)
        go_roundg (i + (j - i))
        case measure => have := HG.out; omega
        case rel =>
          subst hp
          exact ⟨i, j - i, vs, by omega, by omega, by omega, by omega, rfl, rfl, rfl, h1, Lib.hid ⟨HR.out.1.right (by omega) (by omega) h2, HR.out.2.trans (h3.wide (by omega) (by omega))⟩⟩
end Go.Proofs.YtfcefhaaphieeaaGreat
