/-
  Walks: the document's Asked, Items.
-/
import Derived.Deep.CutRange
import Derived.Deep.RegionHeld3
import Derived.Test.YtfcefhaaphieeaaGreatGBuildE
namespace Go.Proofs.YtfcefhaaphieeaaGreat
open Go.RowKit

theorem Rd.tail {w : World} {g : Nat} {xs : List Value} (h : Rd w (some ⟨g, 0, none⟩) xs) (t : Nat) : Rd w (some ⟨g, t, none⟩) (xs.drop t) := by
  have := h.drop t
  simp only [Option.map_some, add_plain, Nat.zero_add] at this
  exact this
theorem Rd.empty (w : World) (A : Option Addr) : Rd w A [] := ⟨fun hn => by simp at hn, fun _ => rfl⟩

set_option maxRecDepth 100000 in
set_option maxHeartbeats 4000000 in
theorem ritems_is (F : Option Addr) (nf cF : Nat) (fr : List Int) (w : World) (hF : Rd w F (ints fr)) (hn : nf = fr.length) (hs : nf ≤ 1000000) :
    Calls Tryz.prog 80 #[.slice F nf cF] w fun e w' => ∃ A c ys, e = .returned (.slice A ys.length c) ∧ Builds w w' 3 1 A ys.length c (ints ys) ∧ Items fr ys := by
  have HN := Lib.hid hn
  clear hn
  go_enter Tryz.func80, Tryz.ntmps80
  go_wp2_with fail
  go_loopg [3, 4] nf (fun gk v3 v4 wr => ∃ (A : Option Addr) (c i n : Nat) (out : List Int), i ≤ nf ∧ gk = nf - i ∧ v4 = .int .i64 (i : Int) ∧ v3 = .slice A n c ∧ Builds w wr 3 1 A n c (ints out) ∧ n ≤ i ∧ Hid (ItemsN fr i out ∧ n = out.length))
  case atStart => exact ⟨none, 0, 0, 0, [], by omega, rfl, rfl, rfl, Builds.nil_ _ _ _, Nat.le_refl _, Lib.hid ⟨ItemsN.zero fr, rfl⟩⟩
  case round =>
    obtain ⟨A, c, i, n, out, hi, hgk, rfl, rfl, hB, hni, HO⟩ := hrel
    have HG := Lib.hid hgk
    clear hgk
    by_cases hlt : i < nf
    · have hlt' : (i : Int) < (nf : Int) := by omega
      have hil : i < fr.length := by have := HN.out; omega
      obtain ⟨b, off, rfl, hcell⟩ := (hF.below hB.1).at_ (by rw [ints_length]; omega)
      have ci := hcell i _ (ints_get fr i hil)
      obtain ⟨x, hx⟩ : ∃ x, nthI fr i = x := ⟨_, rfl⟩
      rw [hx] at ci
      have HX := Lib.hid hx
      clear hcell hx
      by_cases h0 : 0 < x
      · have e3 : decide (x ≤ 0) = false := decide_eq_false (by omega)
        have hcap := hB.cap
        have H0 := Lib.hid (show ∀ t, n ≤ t → t < out.length → nthI fr i < nthI fr (nthI out t).toNat from fun t h1 h2 => by have := HO.out.2; omega)
        go_wp2_with fail
        go_loopg [5] n (fun gt v5 wr2 => ∃ t : Nat, t ≤ n ∧ gt = t ∧ v5 = .int .i64 (t : Int) ∧ (∃ q, wr2 = wr.drewN q) ∧ Hid (∀ u, t ≤ u → u < out.length → nthI fr i < nthI fr (nthI out u).toNat))
        case atStart => exact ⟨n, Nat.le_refl _, rfl, rfl, ⟨0, rfl⟩, H0⟩
        case round =>
          clear H0
          obtain ⟨t, ht, hgt, rfl, ⟨q, hwq⟩, HU⟩ := hrel
          have HG2 := Lib.hid hgt
          clear hgt
          have hB2 : Builds w wr 3 1 A n c (ints out) := by rw [hwq]; exact hB.drewN q
          have hF2 := hF.below hB2.1
          have ci2 : wr.cell? ⟨b, off + i, none⟩ = some (.int .i64 x) := by rw [hwq]; exact ci
          have HWQ := Lib.hid hwq
          clear hwq hB ci
          obtain ⟨BB, hBB⟩ : ∃ BB, decide (0 < t ∧ x < nthI fr (nthI out (t - 1)).toNat) = BB := ⟨_, rfl⟩
          have HBB := Lib.hid hBB
          clear hBB
          go_upto_region 7 with (fail)
          go_cut [36] from 20 to 38 (fun v wx => v = .bool BB ∧ ∃ q, wx = wr.drewN q)
          case first =>
            by_cases ht0 : t = 0
            · have e1 : decide ((t : Int) > 0) = false := decide_eq_false (by omega)
              go_quiet (fail)
              go_wp2_with fail
              go_meet
              exact ⟨congrArg Value.bool ((decide_eq_false (p := 0 < t ∧ x < nthI fr (nthI out (t - 1)).toNat) (fun h => by omega)).symm.trans HBB.out), _, rfl⟩
            · have e1 : decide ((t : Int) > 0) = true := decide_eq_true (by omega)
              have e1' : decide (0 < t) = true := decide_eq_true (by omega)
              obtain ⟨u, hu⟩ : ∃ u, t - 1 = u := ⟨_, rfl⟩
              have eu : (t : Int) - 1 = (u : Int) := by omega
              have hun : u < n := by omega
              rw [hu] at HBB
              obtain ⟨g, rfl, hg1, hg2⟩ := hB2.at_ (by omega)
              have cu := Builds.cell hB2 u (by omega)
              rw [ints_get out u (by have := HO.out.2; omega)] at cu
              have hr := HO.out.1.rng (nthI out u) (by rw [nthI_el (by have := HO.out.2; omega)]; exact List.getElem_mem _)
              obtain ⟨y, hy⟩ : ∃ y : Nat, nthI out u = (y : Int) := ⟨(nthI out u).toNat, by omega⟩
              rw [hy] at cu hr HBB
              rw [Int.toNat_natCast] at HBB
              have hyf : y < fr.length := by omega
              obtain ⟨b', off', he', hcell⟩ := hF2.at_ (by rw [ints_length]; omega)
              simp only [Option.some.injEq, Addr.mk.injEq, and_true] at he'
              obtain ⟨rfl, rfl⟩ := he'
              have cy := hcell y _ (ints_get fr y hyf)
              have hyn : y < nf := by have := HN.out; omega
              generalize nthI fr y = z at *
              clear hcell hr hy hu
              by_cases hz : x < z
              · have e2 : decide (z > x) = true := decide_eq_true hz
                go_quiet (fail)
                go_wp2_with fail
                go_meet
                exact ⟨congrArg Value.bool ((decide_eq_true (p := 0 < t ∧ x < z) ⟨by omega, hz⟩).symm.trans HBB.out), _, rfl⟩
              · have e2 : decide (z > x) = false := decide_eq_false hz
                go_quiet (fail)
                go_wp2_with fail
                go_meet
                exact ⟨congrArg Value.bool ((decide_eq_false (p := 0 < t ∧ x < z) (fun h => by omega)).symm.trans HBB.out), _, rfl⟩
          case rest =>
            obtain ⟨rfl, q2, hwc⟩ := hcut
            have hB4 : Builds w wc 3 1 A n c (ints out) := by rw [hwc]; exact hB2.drewN q2
            have HWC := Lib.hid hwc
            clear hwc hB2 ci2
            cases BB
            · have hP := of_decide_eq_false HBB.out
              have hnl := HO.out.2
              have HZ := Lib.hid (show ItemsN fr (i + 1) (out.take t ++ (i : Int) :: out.drop t) from HO.out.1.put hil (by rw [HX.out]; exact h0) (by omega) (fun h1 => by rw [HX.out]; omega) HU.out)
              have HZl := Lib.hid (show n + 1 = (out.take t ++ (i : Int) :: out.drop t).length by simp; omega)
              have hTk : Rd wc A (ints (out.take t)) := by have := hB4.rd.take t; rw [show (ints out).take t = ints (out.take t) by simp [ints]] at this; exact this
              have hlt1 : (ints (out.take t)).length = t * 1 := by rw [ints_length, List.length_take]; omega
              have hlt2 : (ints (out.drop t)).length = (n - t) * 1 := by rw [ints_length, List.length_drop]; omega
              have HAp := Lib.hid (show ints (out.take t ++ [(i : Int)]) ++ ints (out.drop t) = ints (out.take t ++ (i : Int) :: out.drop t) by rw [← ints_append, List.append_assoc]; rfl)
              clear hP HU HBB
              have hways : (n = 0 ∧ c = t) ∨ (n = 0 ∧ ¬ c = t) ∨ (0 < n ∧ n = t ∧ c = t) ∨ (0 < n ∧ n = t ∧ ¬ c = t) ∨ (0 < n ∧ t < n) := by omega
              have HTl : Hid (∀ g, A = some ⟨g, 0, none⟩ → Rd wc (some ⟨g, t, none⟩) (ints (out.drop t))) := Lib.hid (fun g hg => by
                have h := hB4.rd
                rw [hg] at h
                have := h.tail t
                rw [show (ints out).drop t = ints (out.drop t) by simp [ints]] at this
                exact this)
              have HDe : Hid (n = t → out.drop t = []) := Lib.hid (fun h => List.drop_eq_nil_of_le (by omega))
              clear hnl
              rcases hways with ⟨y1, y2⟩ | ⟨y1, y2⟩ | ⟨y1, y2, y3⟩ | ⟨y1, y2, y3⟩ | ⟨y1, y2⟩
              · have HY1 := Lib.hid y1
                clear y1
                go_wp2_with (first
                  | (at_builtin; refine grow elem_num rfl (.tmp 39) (.tmp 42) rfl rfl (Builds.nil_ wc _ _) rfl hTk hlt1 (ints_one _) t (by omega) (ints (out.take t)) (by simp) (by omega) (by omega) ?_; intro A5 c5 w5 hB5 hg5)
                  | (at_builtin; have hh := hB5; clear hh; refine grow elem_num rfl (.tmp 44) (.tmp 46) rfl rfl (hB5.alloc _) rfl (Rd.new' _ _ _ (ints [(i : Int)]) _ (by simp) rfl) rfl (ints_one _) (t + 1) rfl (ints (out.take t ++ [(i : Int)])) (ints_append _ _).symm (by omega) (by omega) ?_; intro A6 c6 w6 hB6 hg6)
                  | (at_builtin; have hh := hB6; clear hh; refine grow elem_num rfl (.tmp 48) (.tmp 51) rfl rfl hB6 rfl (by rw [HDe.out (by have := HY1.out; omega)]; exact Rd.empty _ _) hlt2 (ints_one _) (n + 1) (by omega) (ints (out.take t ++ (i : Int) :: out.drop t)) HAp.out (by omega) (by omega) ?_; intro A7 c7 w7 hB7 hg7))
                go_roundg (nf - (i + 1))
                case measure => have := HG.out; omega
                case rel => exact ⟨A7, c7, i + 1, n + 1, _, by omega, rfl, by go_num, rfl, hB7.rebase hB4.1, by omega, Lib.hid ⟨HZ.out, HZl.out⟩⟩
              · have HY1 := Lib.hid y1
                clear y1
                go_wp2_with (first
                  | (at_builtin; refine grow elem_num rfl (.tmp 39) (.tmp 42) rfl rfl (Builds.nil_ wc _ _) rfl hTk hlt1 (ints_one _) t (by omega) (ints (out.take t)) (by simp) (by omega) (by omega) ?_; intro A5 c5 w5 hB5 hg5)
                  | (at_builtin; have hh := hB5; clear hh; refine grow elem_num rfl (.tmp 44) (.tmp 46) rfl rfl (hB5.alloc _) rfl (Rd.new' _ _ _ (ints [(i : Int)]) _ (by simp) rfl) rfl (ints_one _) (t + 1) rfl (ints (out.take t ++ [(i : Int)])) (ints_append _ _).symm (by omega) (by omega) ?_; intro A6 c6 w6 hB6 hg6)
                  | (at_builtin; have hh := hB6; clear hh; refine grow elem_num rfl (.tmp 48) (.tmp 51) rfl rfl hB6 rfl (by rw [HDe.out (by have := HY1.out; omega)]; exact Rd.empty _ _) hlt2 (ints_one _) (n + 1) (by omega) (ints (out.take t ++ (i : Int) :: out.drop t)) HAp.out (by omega) (by omega) ?_; intro A7 c7 w7 hB7 hg7))
                go_roundg (nf - (i + 1))
                case measure => have := HG.out; omega
                case rel => exact ⟨A7, c7, i + 1, n + 1, _, by omega, rfl, by go_num, rfl, hB7.rebase hB4.1, by omega, Lib.hid ⟨HZ.out, HZl.out⟩⟩
              · obtain ⟨g, rfl, hg1, hg2⟩ := hB4.at_ y1
                have HY1 := Lib.hid y2
                clear y2
                go_wp2_with (first
                  | (at_builtin; refine grow elem_num rfl (.tmp 39) (.tmp 42) rfl rfl (Builds.nil_ wc _ _) rfl hTk hlt1 (ints_one _) t (by omega) (ints (out.take t)) (by simp) (by omega) (by omega) ?_; intro A5 c5 w5 hB5 hg5)
                  | (at_builtin; have hh := hB5; clear hh; refine grow elem_num rfl (.tmp 44) (.tmp 46) rfl rfl (hB5.alloc _) rfl (Rd.new' _ _ _ (ints [(i : Int)]) _ (by simp) rfl) rfl (ints_one _) (t + 1) rfl (ints (out.take t ++ [(i : Int)])) (ints_append _ _).symm (by omega) (by omega) ?_; intro A6 c6 w6 hB6 hg6)
                  | (at_builtin; have hh := hB6; clear hh; refine grow elem_num rfl (.tmp 48) (.tmp 51) rfl rfl hB6 rfl (by rw [HDe.out (by have := HY1.out; omega)]; exact Rd.empty _ _) hlt2 (ints_one _) (n + 1) (by omega) (ints (out.take t ++ (i : Int) :: out.drop t)) HAp.out (by omega) (by omega) ?_; intro A7 c7 w7 hB7 hg7))
                go_roundg (nf - (i + 1))
                case measure => have := HG.out; omega
                case rel => exact ⟨A7, c7, i + 1, n + 1, _, by omega, rfl, by go_num, rfl, hB7.rebase hB4.1, by omega, Lib.hid ⟨HZ.out, HZl.out⟩⟩
              · obtain ⟨g, rfl, hg1, hg2⟩ := hB4.at_ y1
                have HY1 := Lib.hid y2
                clear y2
                go_wp2_with (first
                  | (at_builtin; refine grow elem_num rfl (.tmp 39) (.tmp 42) rfl rfl (Builds.nil_ wc _ _) rfl hTk hlt1 (ints_one _) t (by omega) (ints (out.take t)) (by simp) (by omega) (by omega) ?_; intro A5 c5 w5 hB5 hg5)
                  | (at_builtin; have hh := hB5; clear hh; refine grow elem_num rfl (.tmp 44) (.tmp 46) rfl rfl (hB5.alloc _) rfl (Rd.new' _ _ _ (ints [(i : Int)]) _ (by simp) rfl) rfl (ints_one _) (t + 1) rfl (ints (out.take t ++ [(i : Int)])) (ints_append _ _).symm (by omega) (by omega) ?_; intro A6 c6 w6 hB6 hg6)
                  | (at_builtin; have hh := hB6; clear hh; refine grow elem_num rfl (.tmp 48) (.tmp 51) rfl rfl hB6 rfl (by rw [HDe.out (by have := HY1.out; omega)]; exact Rd.empty _ _) hlt2 (ints_one _) (n + 1) (by omega) (ints (out.take t ++ (i : Int) :: out.drop t)) HAp.out (by omega) (by omega) ?_; intro A7 c7 w7 hB7 hg7))
                go_roundg (nf - (i + 1))
                case measure => have := HG.out; omega
                case rel => exact ⟨A7, c7, i + 1, n + 1, _, by omega, rfl, by go_num, rfl, hB7.rebase hB4.1, by omega, Lib.hid ⟨HZ.out, HZl.out⟩⟩
              · obtain ⟨g, rfl, hg1, hg2⟩ := hB4.at_ y1
                have hct : ¬ c = t := by omega
                go_wp2_with (first
                  | (at_builtin; refine grow elem_num rfl (.tmp 39) (.tmp 42) rfl rfl (Builds.nil_ wc _ _) rfl hTk hlt1 (ints_one _) t (by omega) (ints (out.take t)) (by simp) (by omega) (by omega) ?_; intro A5 c5 w5 hB5 hg5)
                  | (at_builtin; have hh := hB5; clear hh; refine grow elem_num rfl (.tmp 44) (.tmp 46) rfl rfl (hB5.alloc _) rfl (Rd.new' _ _ _ (ints [(i : Int)]) _ (by simp) rfl) rfl (ints_one _) (t + 1) rfl (ints (out.take t ++ [(i : Int)])) (ints_append _ _).symm (by omega) (by omega) ?_; intro A6 c6 w6 hB6 hg6)
                  | (at_builtin; have hh := hB6; clear hh; refine grow elem_num rfl (.tmp 48) (.tmp 51) rfl rfl hB6 rfl ((HTl.out g rfl).below hB6.1) hlt2 (ints_one _) (n + 1) (by omega) (ints (out.take t ++ (i : Int) :: out.drop t)) HAp.out (by omega) (by omega) ?_; intro A7 c7 w7 hB7 hg7))
                go_roundg (nf - (i + 1))
                case measure => have := HG.out; omega
                case rel => exact ⟨A7, c7, i + 1, n + 1, _, by omega, rfl, by go_num, rfl, hB7.rebase hB4.1, by omega, Lib.hid ⟨HZ.out, HZl.out⟩⟩
            · have hP := of_decide_eq_true HBB.out
              obtain ⟨u, hu⟩ : ∃ u, t = u + 1 := ⟨t - 1, by omega⟩
              have eu : (t : Int) - 1 = (u : Int) := by omega
              have HU2 := Lib.hid (show ∀ v, u ≤ v → v < out.length → nthI fr i < nthI fr (nthI out v).toNat from fun v h1 h2 => by
                by_cases e : v = u
                · subst e; rw [HX.out]; have := hP.2; rw [hu] at this; exact this
                · exact HU.out v (by omega) h2)
              clear hP HU HBB
              go_wp2_with fail
              go_roundg u
              case measure => have := HG2.out; omega
              case rel => exact ⟨u, by omega, rfl, by go_num, ⟨q + q2, by rw [HWC.out, HWQ.out, World.drewN_drewN]⟩, HU2⟩
      · have e3 : decide (x ≤ 0) = true := decide_eq_true (by omega)
        have HO2 := Lib.hid (And.intro (HO.out.1.skip (by rw [HX.out]; exact h0)) HO.out.2)
        go_wp2_with fail
        go_roundg (nf - (i + 1))
        case measure => have := HG.out; omega
        case rel => exact ⟨A, c, i + 1, n, out, by omega, rfl, by go_num, rfl, hB, by omega, HO2⟩
    · obtain rfl : nf = i := by omega
      have hlt' : ¬ (nf : Int) < (nf : Int) := by omega
      go_wp2_with fail
      go_ret
      obtain ⟨o1, o2⟩ := HO.out
      subst o2
      refine ⟨A, c, out, rfl, hB, ?_⟩
      rw [HN.out] at o1
      exact o1.full
end Go.Proofs.YtfcefhaaphieeaaGreat

/-
  Walks: the document's first, pairs, merged.
-/
namespace Go.Proofs.YtfcefhaaphieeaaGreat
open Go.RowKit

theorem elem_par : Elem Tryz.prog 165 170 2 32 := Elem.mk' Tryz.underlying165 (z := .agg #[.int .i64 0, .slice none 0 0]) (by kernel_rfl) rfl (by omega)
/-- A parcel: its tree, where its counts lie. -/
abbrev Pc := Tr × Nat × Nat
/-- How often each item is in a tree. -/
def ofV (n : Nat) (t : Tr) : List Int := (List.range n).map fun k => ((ofT k t : Nat) : Int)
theorem ofV_length (n : Nat) (t : Tr) : (ofV n t).length = n := by simp [ofV]
theorem ofV_nth (n : Nat) (t : Tr) (k : Nat) (h : k < n) : nthI (ofV n t) k = (ofT k t : Nat) := by simp [ofV, nthI, h]
/-- Parcels' cells. -/
def pcC (f : Nat → Nat) (n : Nat) (xs : List Pc) : List Value := prs (fun x : Pc => Value.int .i64 ((wtT f x.1 : Nat) : Int)) (fun x => Value.slice (some ⟨x.2.1, 0, none⟩) n x.2.2) xs
theorem pcC_length (f : Nat → Nat) (n : Nat) (xs : List Pc) : (pcC f n xs).length = xs.length * 2 := prs_length xs
theorem pcC_append (f : Nat → Nat) (n : Nat) (a b : List Pc) : pcC f n (a ++ b) = pcC f n a ++ pcC f n b := prs_append a b
theorem pcC_one (f : Nat → Nat) (n : Nat) (xs : List Pc) : ∀ u ∈ pcC f n xs, u.oneCell' = true := prs_one (fun _ => rfl) (fun _ => rfl) xs
theorem pcC_get (f : Nat → Nat) (n : Nat) (xs : List Pc) (i : Nat) (x : Pc) (h : xs[i]? = some x) : (pcC f n xs)[2 * i]? = some (.int .i64 ((wtT f x.1 : Nat) : Int)) ∧ (pcC f n xs)[2 * i + 1]? = some (.slice (some ⟨x.2.1, 0, none⟩) n x.2.2) := prs_get xs i x h
/-- The counts lie there. -/
def PcOk (n : Nat) (w : World) (xs : List Pc) : Prop := ∀ x ∈ xs, Arr w x.2.1 3 n (fun k => .int .i64 ((ofT k x.1 : Nat) : Int)) ∧ n ≤ x.2.2
theorem PcOk.below {n : Nat} {w w' : World} {xs : List Pc} (h : PcOk n w xs) (hb : Below w.heap.size w w') : PcOk n w' xs := fun x hx => ⟨Arr.below (h x hx).1 hb (Blk.lt (h x hx).1), (h x hx).2⟩
theorem PcOk.alloc {n : Nat} {w : World} {xs : List Pc} (h : PcOk n w xs) (o : Obj) : PcOk n (w.alloc o) xs := fun x hx => ⟨Arr.alloc (h x hx).1 o, (h x hx).2⟩
theorem PcOk.drew {n : Nat} {w : World} {xs : List Pc} (h : PcOk n w xs) : PcOk n w.drew xs := h
theorem PcOk.app {n : Nat} {w : World} {xs ys : List Pc} (h : PcOk n w xs) (k : PcOk n w ys) : PcOk n w (xs ++ ys) := fun x hx => (List.mem_append.1 hx).elim (h x) (k x)
theorem PcOk.nil_ (n : Nat) (w : World) : PcOk n w [] := fun x hx => by cases hx
/-- An append to parcels turns no counts. -/
theorem PcOk.grown {n : Nat} {W w w' : World} {xs : List Pc} {A : Option Addr} {k c : Nat} {vs : List Value} (h : PcOk n w xs) (hB : Builds W w 170 2 A k c vs) (hg : w.grownBy w' (Value.slice A k c).ownBlock) : PcOk n w' xs := fun x hx =>
  ⟨Blk.grown (h x hx).1 hg (fun e => own_blk_ne hB.2 (h x hx).1 (by decide) e.symm), (h x hx).2⟩
theorem arr_of {n g : Nat} {W w : World} {t : Tr} (h : Builds W w 3 1 (some ⟨g, 0, none⟩) n n (ints (ofV n t))) : Arr w g 3 n (fun k => .int .i64 ((ofT k t : Nat) : Int)) :=
  h.arr.congr fun k hk => by
    rw [ints_get _ _ (by rw [ofV_length]; exact hk), ofV_nth _ _ _ hk]; rfl
def trees (xs : List Pc) : List Tr := xs.map (·.1)
theorem ofV_leaf (n k : Nat) (hk : k < n) : (List.replicate n (Value.int .i64 0)).set k (.int .i64 1) = ints (ofV n (.leaf k)) := by
  apply List.ext_getElem
  · simp [ints, ofV]
  · intro i h1 h2
    simp only [List.length_set, List.length_replicate] at h1
    rw [List.getElem_set]
    simp only [ints, ofV, List.getElem_map, List.getElem_range, List.getElem_replicate]
    by_cases e : k = i
    · subst e; simp [ofT]
    · rw [if_neg e]
      have : ofT i (.leaf k) = 0 := by
        unfold ofT
        rw [if_neg]
        omega
      rw [this]; rfl
theorem zeros_ints (n : Nat) : (madeCells (Value.int .i64 0).cells (n * 1)).toList = List.replicate n (Value.int .i64 0) := by rw [Nat.mul_one, made_zeros _ rfl, zeros_list]

def ParRes (f : Nat → Nat) (n : Nat) (w w' : World) (e : Ending) (ts : List Tr) : Prop := ∃ A c xs, e = .returned (.slice A ts.length c) ∧ Builds w w' 170 2 A ts.length c (pcC f n xs) ∧ PcOk n w' xs ∧ trees xs = ts

set_option maxRecDepth 100000 in
set_option maxHeartbeats 4000000 in
theorem first_is (F : Option Addr) (nf cF : Nat) (fr : List Int) (I : Option Addr) (ni cI : Nat) (ys : List Int) (f : Nat → Nat) (w : World) (hF : Rd w F (ints fr)) (hI : Rd w I (ints ys)) (hn : nf = fr.length) (hni : ni = ys.length) (hs : ni ≤ 1000)
    (hit : ∀ k, k < ni → ∃ i : Nat, nthI ys k = (i : Int) ∧ i < nf ∧ nthI fr i = (f k : Int)) :
    Calls Tryz.prog 92 #[.slice F nf cF, .slice I ni cI] w fun e w' => ParRes f ni w w' e (itemsT ni) := by
  have HN := Lib.hid (And.intro hn hni)
  have HIt := Lib.hid hit
  clear hn hni hit
  go_enter Tryz.func92, Tryz.ntmps92
  go_wp2_with fail
  go_loopg [5, 6] ni (fun gk v5 v6 wr => ∃ (A : Option Addr) (c k : Nat) (xs : List Pc), k ≤ ni ∧ gk = ni - k ∧ v6 = .int .i64 (k : Int) ∧ v5 = .slice A k c ∧ Builds w wr 170 2 A k c (pcC f ni xs) ∧ Hid (PcOk ni wr xs ∧ trees xs = itemsT k))
  case atStart => exact ⟨none, 0, 0, [], by omega, rfl, rfl, rfl, Builds.nil_ _ _ _, Lib.hid ⟨PcOk.nil_ _ _, rfl⟩⟩
  case round =>
    obtain ⟨A, c, k, xs, hk, hgk, rfl, rfl, hB, HX⟩ := hrel
    have HG := Lib.hid hgk
    clear hgk
    by_cases hlt : k < ni
    · have hlt' : (k : Int) < (ni : Int) := by omega
      obtain ⟨it, hi1, hi2, hi3⟩ := HIt.out k hlt
      obtain ⟨b, off, rfl, hcell⟩ := hF.at_ (by rw [ints_length]; have := HN.out; omega)
      obtain ⟨b2, off2, rfl, hcell2⟩ := hI.at_ (by rw [ints_length]; have := HN.out; omega)
      have HCs := Lib.hid (fun (wx : World) (hb : Below wr.heap.size wr wx) => show wx.cell? ⟨b2, off2 + k, none⟩ = some (.int .i64 (it : Int)) ∧ wx.cell? ⟨b, off + it, none⟩ = some (.int .i64 (f k : Int)) from by
        have hbw := hB.1.trans (hb.mono hB.1.size)
        obtain ⟨_, _, e1, h1⟩ := (hF.below hbw).at_ (by rw [ints_length]; have := HN.out; omega)
        obtain ⟨_, _, e2, h2⟩ := (hI.below hbw).at_ (by rw [ints_length]; have := HN.out; omega)
        simp only [Option.some.injEq, Addr.mk.injEq, and_true] at e1 e2
        obtain ⟨rfl, rfl⟩ := e1
        obtain ⟨rfl, rfl⟩ := e2
        exact ⟨by rw [h2 k _ (ints_get ys k (by have := HN.out; omega)), hi1], by rw [h1 it _ (ints_get fr it (by have := HN.out; omega)), hi3]⟩)
      clear hcell hcell2 hi1 hi3
      go_upto_region 6 with (at_make; refine makes elem_num (z := .int .i64 0) (by kernel_rfl) rfl _ _ rfl ni rfl rfl rfl (by omega) (by omega) (List.replicate ni (.int .i64 0)) (zeros_ints ni) ?_; intro w5 hO)
      have co := Builds.cell hO k (by omega)
      rw [show (List.replicate ni (Value.int .i64 0))[k]? = some (.int .i64 0) by simp [hlt]] at co
      have fo := Builds.free hO k
      have hO2 := Builds.set hO k (by omega) (.int .i64 1)
      rw [ofV_leaf ni k hlt] at hO2
      go_upto_region 7 with (fail)
      generalize w5.setCell ⟨wr.heap.size, k, none⟩ (.int .i64 1) = w6 at *
      obtain ⟨c1, c2⟩ := HCs.out w6 hO2.1
      have hB6 := hB.below hO2.1
      have HY := Lib.hid (show PcOk ni w6 (xs ++ [(Tr.leaf k, wr.heap.size, ni)]) ∧ trees (xs ++ [(Tr.leaf k, wr.heap.size, ni)]) = itemsT (k + 1) from ⟨(HX.out.1.below hO2.1).app (fun x hx => by
          simp only [List.mem_cons, List.not_mem_nil, or_false] at hx
          subst hx
          exact ⟨arr_of hO2, Nat.le_refl _⟩), by unfold trees; rw [List.map_append, show xs.map (·.1) = itemsT k from HX.out.2]; simp [itemsT, List.range_succ]⟩)
      obtain ⟨GB, hGB⟩ : ∃ GB, wr.heap.size = GB := ⟨_, rfl⟩
      rw [hGB] at HY ⊢
      clear co fo hO hO2 HCs hGB HX
      obtain ⟨y, hy⟩ : ∃ y, f k = y := ⟨_, rfl⟩
      rw [hy] at c2
      have HNw := Lib.hid (show pcC f ni xs ++ [Value.int .i64 (y : Int), .slice (some ⟨GB, 0, none⟩) ni ni] = pcC f ni (xs ++ [(Tr.leaf k, GB, ni)]) by rw [pcC_append, ← hy]; rfl)
      clear hy
      go_wp2_with (at_builtin; refine grow elem_par rfl (.tmp 20) (.tmp 30) rfl rfl (hB6.alloc _) rfl (Rd.new' _ _ _ [Value.int .i64 (y : Int), .slice (some ⟨GB, 0, none⟩) ni ni] _ (by simp) rfl) rfl (by simp [Value.oneCell']) (k + 1) rfl (pcC f ni (xs ++ [(Tr.leaf k, GB, ni)])) HNw.out (by omega) (by omega) ?_; intro A2 c2' w7 hB7 hg7; have hK7 := (HY.out.1.alloc _).grown (hB6.alloc _) hg7)
      go_roundg (ni - (k + 1))
      case measure => have := HG.out; omega
      case rel => exact ⟨A2, c2', k + 1, _, by omega, rfl, by go_num, rfl, hB7, Lib.hid ⟨hK7, HY.out.2⟩⟩
    · obtain rfl : ni = k := by omega
      have hlt' : ¬ (ni : Int) < (ni : Int) := by omega
      have HL := Lib.hid (itemsT_length ni)
      go_wp2_with fail
      go_ret
      exact ⟨A, c, xs, by rw [HL.out]; rfl, by rw [HL.out]; exact hB, HX.out.1, HX.out.2⟩

/-- Two trees' counts, the first k of them. -/
def sV (n : Nat) (a b : Tr) (k : Nat) : List Int := (List.range n).map fun j => if j < k then ((ofT j a + ofT j b : Nat) : Int) else 0
theorem sV_length (n : Nat) (a b : Tr) (k : Nat) : (sV n a b k).length = n := by simp [sV]
theorem sV_zero (n : Nat) (a b : Tr) : List.replicate n (Value.int .i64 0) = ints (sV n a b 0) := by
  apply List.ext_getElem
  · simp [ints, sV]
  · intro i h1 h2; simp [ints, sV]
theorem sV_full (n : Nat) (a b : Tr) : sV n a b n = ofV n (.node a b) := by
  unfold sV ofV
  refine List.map_congr_left fun j hj => ?_
  rw [if_pos (List.mem_range.1 hj)]; rfl
theorem sV_step (n : Nat) (a b : Tr) (k : Nat) (v : Int) (hk : k < n) (hv : v = ((ofT k a + ofT k b : Nat) : Int)) : (ints (sV n a b k)).set k (.int .i64 v) = ints (sV n a b (k + 1)) := by
  subst hv
  apply List.ext_getElem
  · simp [ints, sV]
  · intro i h1 h2
    rw [List.getElem_set]
    simp only [ints, sV, List.getElem_map, List.getElem_range]
    by_cases e : k = i
    · subst e; rw [if_pos rfl, if_pos (by omega)]
    · rw [if_neg e]
      by_cases e2 : i < k
      · rw [if_pos e2, if_pos (by omega)]
      · rw [if_neg e2, if_neg (by omega)]
theorem trees_get {xs : List Pc} {i : Nat} (h : i < xs.length) : (trees xs)[i]? = some xs[i].1 := by simp [trees, h]
theorem trees_len (xs : List Pc) : (trees xs).length = xs.length := by simp [trees]

set_option maxRecDepth 100000 in
set_option maxHeartbeats 8000000 in
theorem pairs_is (R : Option Addr) (nr cR : Nat) (xs : List Pc) (f : Nat → Nat) (n : Nat) (w : World) (hR : Rd w R (pcC f n xs)) (hx : PcOk n w xs) (hnr : nr = xs.length) (hr : nr ≤ 1000) (hn : n ≤ 1000) (hM : ∀ x ∈ xs, wtT f x.1 ≤ 1000000000000000000 ∧ ∀ k, ofT k x.1 ≤ 1000000000000000000) :
    Calls Tryz.prog 94 #[.slice R nr cR] w fun e w' => ParRes f n w w' e (pairT (trees xs)) := by
  have HN := Lib.hid hnr
  have HX := Lib.hid hx
  have HM := Lib.hid hM
  clear hnr hx hM
  go_enter Tryz.func94, Tryz.ntmps94
  go_wp2_with fail
  go_loopg [3, 4] nr (fun gk v3 v4 wr => ∃ (A : Option Addr) (c m i : Nat) (zs : List Pc), i = 2 * m ∧ i ≤ nr ∧ gk = nr - i ∧ v4 = .int .i64 (i : Int) ∧ v3 = .slice A m c ∧ Builds w wr 170 2 A m c (pcC f n zs) ∧ Hid (PcOk n wr zs ∧ trees zs = (pairT (trees xs)).take m))
  case atStart => exact ⟨none, 0, 0, 0, [], rfl, by omega, rfl, rfl, rfl, Builds.nil_ _ _ _, Lib.hid ⟨PcOk.nil_ _ _, rfl⟩⟩
  case round =>
    obtain ⟨A, c, m, i, zs, him, hi, hgk, rfl, rfl, hB, HZ⟩ := hrel
    have HG := Lib.hid (And.intro hgk him)
    have hmi : m ≤ i := by omega
    clear hgk him
    by_cases hlt : i + 1 < nr
    · have hlt' : (i : Int) + 1 < (nr : Int) := by omega
      obtain ⟨i1, hi1⟩ : ∃ i1, i + 1 = i1 := ⟨_, rfl⟩
      obtain ⟨i2, hi2⟩ : ∃ i2, i + 2 = i2 := ⟨_, rfl⟩
      have ei1 : (i : Int) + 1 = (i1 : Int) := by omega
      have ei2 : (i : Int) + 2 = (i2 : Int) := by omega
      have hin : i < nr := by omega
      have hi1n : i1 < nr := by omega
      have hi2n : i2 ≤ 1001 := by omega
      have hil : i < xs.length := by have := HN.out; omega
      have hi1l : i1 < xs.length := by have := HN.out; omega
      obtain ⟨⟨ta, ga, ca⟩, hxa⟩ : ∃ x, xs[i] = x := ⟨_, rfl⟩
      obtain ⟨⟨tb, gb, cb⟩, hxb⟩ : ∃ x, xs[i1] = x := ⟨_, rfl⟩
      have oka := HX.out (ta, ga, ca) (by rw [← hxa]; exact List.getElem_mem hil)
      have okb := HX.out (tb, gb, cb) (by rw [← hxb]; exact List.getElem_mem hi1l)
      have ma := HM.out (ta, ga, ca) (by rw [← hxa]; exact List.getElem_mem hil)
      have mb := HM.out (tb, gb, cb) (by rw [← hxb]; exact List.getElem_mem hi1l)
      dsimp only at oka okb ma mb
      have hga := pcC_get f n xs i _ (by rw [List.getElem?_eq_getElem hil, hxa])
      have hgb := pcC_get f n xs i1 _ (by rw [List.getElem?_eq_getElem hi1l, hxb])
      dsimp only at hga hgb
      have hpg : (pairT (trees xs))[m]? = some (.node ta tb) := pairT_get _ m ta tb (by rw [← HG.out.2, trees_get hil, hxa]) (by rw [← HG.out.2, hi1, trees_get hi1l, hxb])
      obtain ⟨b, off, hRe, hcell⟩ := hR.at_ (by rw [pcC_length]; omega)
      subst hRe
      have HC := Lib.hid (fun (wx : World) (hb : Below w.heap.size w wx) => show wx.cell? ⟨b, off + i * 2, none⟩ = some (.int .i64 ((wtT f ta : Nat) : Int)) ∧ wx.cell? ⟨b, off + i * 2 + 1, none⟩ = some (.slice (some ⟨ga, 0, none⟩) n ca) ∧ wx.cell? ⟨b, off + i1 * 2, none⟩ = some (.int .i64 ((wtT f tb : Nat) : Int)) ∧ wx.cell? ⟨b, off + i1 * 2 + 1, none⟩ = some (.slice (some ⟨gb, 0, none⟩) n cb) ∧
          (∀ k, k < n → wx.cell? ⟨ga, k, none⟩ = some (.int .i64 ((ofT k ta : Nat) : Int)) ∧ wx.cell? ⟨gb, k, none⟩ = some (.int .i64 ((ofT k tb : Nat) : Int))) from by
        obtain ⟨_, _, e1, h1⟩ := (hR.below hb).at_ (by rw [pcC_length]; omega)
        simp only [Option.some.injEq, Addr.mk.injEq, and_true] at e1
        obtain ⟨rfl, rfl⟩ := e1
        refine ⟨?_, ?_, ?_, ?_, fun k hk => ⟨?_, ?_⟩⟩
        · have := h1 _ _ hga.1; rw [show off + 2 * i = off + i * 2 by omega] at this; exact this
        · have := h1 _ _ hga.2; rw [show off + (2 * i + 1) = off + i * 2 + 1 by omega] at this; exact this
        · have := h1 _ _ hgb.1; rw [show off + 2 * i1 = off + i1 * 2 by omega] at this; exact this
        · have := h1 _ _ hgb.2; rw [show off + (2 * i1 + 1) = off + i1 * 2 + 1 by omega] at this; exact this
        · exact Arr.cell (Arr.below oka.1 hb (Blk.lt oka.1)) k hk
        · exact Arr.cell (Arr.below okb.1 hb (Blk.lt okb.1)) k hk)
      obtain ⟨c1, c2, c3, c4, -⟩ := HC.out wr hB.1
      have hca := oka.2
      have hcb := okb.2
      have HP := Lib.hid hpg
      have hma := ma.1
      have hmb := mb.1
      have HMk := Lib.hid (And.intro ma.2 mb.2)
      have HI2 := Lib.hid (And.intro hi1 hi2)
      clear hcell hga hgb hpg hxa hxb oka okb ma mb hi1 hi2
      go_upto_region 6 with (at_make; refine makes elem_num (z := .int .i64 0) (by kernel_rfl) rfl _ _ rfl n rfl rfl rfl (by omega) (by omega) (List.replicate n (.int .i64 0)) (zeros_ints n) ?_; intro w5 hO)
      rw [sV_zero n ta tb] at hO
      obtain ⟨GB, hGB⟩ : ∃ GB, wr.heap.size = GB := ⟨_, rfl⟩
      rw [hGB] at hO ⊢
      have HGB := Lib.hid hGB
      clear hGB c1 c2 c3 c4
      generalize hWr : wr = WR at *
      clear hWr
      go_wp2_with fail
      go_loopg [6] n (fun gj v6 wr => ∃ k : Nat, k ≤ n ∧ gj = n - k ∧ v6 = .int .i64 (k : Int) ∧ Builds WR wr 3 1 (some ⟨GB, 0, none⟩) n n (ints (sV n ta tb k)))
      case atStart => exact ⟨0, by omega, rfl, rfl, hO⟩
      case round =>
        clear hO
        obtain ⟨k, hk, hgj, rfl, hO⟩ := hrel
        have HG2 := Lib.hid hgj
        clear hgj
        have hbw := hB.1.trans (hO.1.mono hB.1.size)
        by_cases hkn : k < n
        · have hkn' : (k : Int) < (n : Int) := by omega
          obtain ⟨c1, c2, c3, c4, hk5⟩ := HC.out wr hbw
          obtain ⟨c5, c6⟩ := hk5 k hkn
          have co := Builds.cell hO k (by omega)
          rw [ints_get _ _ (by rw [sV_length]; exact hkn)] at co
          have fo := Builds.free hO k
          have mk1 := HMk.out.1 k
          have mk2 := HMk.out.2 k
          have HSt := Lib.hid (fun (v : Int) (hv : v = ((ofT k ta + ofT k tb : Nat) : Int)) => show Builds WR (wr.setCell ⟨GB, k, none⟩ (.int .i64 v)).drew 3 1 (some ⟨GB, 0, none⟩) n n (ints (sV n ta tb (k + 1))) from by
            have := Builds.set hO k (by omega) (.int .i64 v)
            rw [sV_step n ta tb k v hkn hv] at this
            exact this.drew)
          obtain ⟨x1, hx1⟩ : ∃ x1, ofT k ta = x1 := ⟨_, rfl⟩
          obtain ⟨x2, hx2⟩ : ∃ x2, ofT k tb = x2 := ⟨_, rfl⟩
          rw [hx1, hx2] at HSt
          rw [hx1] at c5 mk1
          rw [hx2] at c6 mk2
          obtain ⟨x3, hx3⟩ : ∃ x3, x1 + x2 = x3 := ⟨_, rfl⟩
          have ex : (x1 : Int) + (x2 : Int) = (x3 : Int) := by omega
          have hx3l : x3 ≤ 2000000000000000000 := by omega
          rw [hx3] at HSt
          clear hx1 hx2 hx3 hk5 hO hbw
          generalize hw0 : wr = w0 at *
          clear hw0
          go_wp2_with fail
          go_region
          have hO2 := HSt.out _ rfl
          generalize (w0.setCell ⟨GB, k, none⟩ (.int .i64 (x3 : Int))).drew = w6 at *
          clear c1 c2 c3 c4 c5 c6 co fo HSt
          go_wp2_with fail
          go_roundg (n - (k + 1))
          case measure => have := HG2.out; omega
          case rel => exact ⟨k + 1, by omega, rfl, by go_num, hO2⟩
        · obtain rfl : n = k := by omega
          have hkn' : ¬ (n : Int) < (n : Int) := by omega
          rw [sV_full] at hO
          obtain ⟨c1, c2, c3, c4, -⟩ := HC.out wr hbw
          have hB5 := hB.below hO.1
          have HY := Lib.hid (show PcOk n wr (zs ++ [(Tr.node ta tb, GB, n)]) ∧ trees (zs ++ [(Tr.node ta tb, GB, n)]) = (pairT (trees xs)).take (m + 1) from ⟨(HZ.out.1.below hO.1).app (fun x hx => by
              simp only [List.mem_cons, List.not_mem_nil, or_false] at hx
              subst hx
              exact ⟨arr_of hO, Nat.le_refl _⟩), by
            rw [List.take_add_one, HP.out]
            unfold trees
            rw [List.map_append, show zs.map (·.1) = _ from HZ.out.2]; rfl⟩)
          obtain ⟨y1, hy1⟩ : ∃ y1, wtT f ta = y1 := ⟨_, rfl⟩
          obtain ⟨y2, hy2⟩ : ∃ y2, wtT f tb = y2 := ⟨_, rfl⟩
          obtain ⟨y3, hy3⟩ : ∃ y3, y1 + y2 = y3 := ⟨_, rfl⟩
          rw [hy1] at c1 hma
          rw [hy2] at c3 hmb
          have ey : (y1 : Int) + (y2 : Int) = (y3 : Int) := by omega
          have hy3l : y3 ≤ 2000000000000000000 := by omega
          have HNw := Lib.hid (show pcC f n zs ++ [Value.int .i64 (y3 : Int), .slice (some ⟨GB, 0, none⟩) n n] = pcC f n (zs ++ [(Tr.node ta tb, GB, n)]) by rw [pcC_append, ← hy3, ← hy1, ← hy2]; rfl)
          have HW1 := Lib.hid hy1
          have HW2 := Lib.hid hy2
          clear hy1 hy2 hy3 hO hbw hB
          generalize hw0 : wr = w0 at *
          clear hw0
          go_wp2_with fail
          have hwi : IntKind.i64.wrap ((i : Int) + 1) = (i1 : Int) := by rw [ei1]; exact IntWalk.i64_in _ (by omega)
          have hwi2 : IntKind.i64.wrap (i1 : Int) = (i1 : Int) := IntWalk.i64_in _ (by omega)
          have hwy : IntKind.i64.wrap ((y1 : Int) + (y2 : Int)) = (y3 : Int) := by rw [ey]; exact IntWalk.i64_in _ (by omega)
          have hwy2 : IntKind.i64.wrap (y3 : Int) = (y3 : Int) := IntWalk.i64_in _ (by omega)
          have hbi : (i1 : Int) < (nr : Int) := by omega
          have hbi0 : (i : Int) < (nr : Int) := by omega
          have hbn : (0 : Int) ≤ (i1 : Int) := by omega
          have s0 := And.intro c1 c3
          have HSA := Lib.hid (fun (o : Obj) => show (w0.drew.alloc o).cell? ⟨b, off + i * 2, none⟩ = some (.int .i64 (y1 : Int)) ∧ (w0.drew.alloc o).cell? ⟨b, off + i1 * 2, none⟩ = some (.int .i64 (y2 : Int)) from by
            obtain ⟨h1, _, h3, _, _⟩ := HC.out (w0.drew.alloc o) (hB5.drew.alloc o).1
            rw [HW1.out] at h1
            rw [HW2.out] at h3
            exact ⟨h1, h3⟩)
          have HSB := Lib.hid (fun (wx : World) (hb : Below w.heap.size w wx) => show wx.cell? ⟨b, off + i * 2, none⟩ = some (.int .i64 (y1 : Int)) ∧ wx.cell? ⟨b, off + i1 * 2, none⟩ = some (.int .i64 (y2 : Int)) from by
            obtain ⟨h1, _, h3, _, _⟩ := HC.out wx hb
            rw [HW1.out] at h1
            rw [HW2.out] at h3
            exact ⟨h1, h3⟩)
          clear c1 c2 c3 c4
          go_region_held3 (fun wx => wx.cell? ⟨b, off + i * 2, none⟩ = some (.int .i64 (y1 : Int)) ∧ wx.cell? ⟨b, off + i1 * 2, none⟩ = some (.int .i64 (y2 : Int))) (first | exact s0 | exact HSA.out _ | exact HSB.out _ hB7.1 | exact HSB.out _ (hB5.drew.alloc _).1 | exact HSB.out _ (hB5.alloc _).drew.1 | exact HSB.out _ (hB5.alloc _).1) (first
            | (refine step_grow elem_par rfl (.tmp 48) (.tmp 63) rfl rfl (by first | exact hB5.drew.alloc _ | exact (hB5.alloc _).drew | exact hB5.alloc _ | exact (hB5.drewN _).alloc _) rfl (Rd.new' _ _ _ [Value.int .i64 (y3 : Int), .slice (some ⟨GB, 0, none⟩) n n] _ (by simp) rfl) rfl (by simp [Value.oneCell']) (m + 1) rfl (pcC f n (zs ++ [(Tr.node ta tb, GB, n)])) HNw.out (by omega) (by omega) ?_; intro A2 c2' w7 hB7 hg7; have hK7 := PcOk.grown (by first | exact (PcOk.drew HY.out.1).alloc _ | exact (HY.out.1.alloc _) ) (by first | exact hB5.drew.alloc _ | exact hB5.alloc _) hg7))
          go_wp2_with fail
          go_roundg (nr - i2)
          case measure => have := HG.out; have := HI2.out; omega
          case rel => exact ⟨A2, c2', m + 1, i2, _, by have := HG.out.2; have := HI2.out.2; omega, by have := HI2.out; omega, rfl, by go_num, rfl, hB7, Lib.hid ⟨hK7, HY.out.2⟩⟩
    · have hlt' : ¬ (i : Int) + 1 < (nr : Int) := by omega
      have hml : (pairT (trees xs)).length = m := by rw [pairT_length, trees_len]; have := HG.out.2; have := HN.out; omega
      have HL := Lib.hid (And.intro hml (show trees zs = pairT (trees xs) by rw [HZ.out.2, List.take_of_length_le (by omega)]))
      clear hml
      go_wp2_with fail
      go_ret
      exact ⟨A, c, zs, by rw [HL.out.1]; rfl, by rw [HL.out.1]; exact hB, HZ.out.1, HL.out.2⟩
end Go.Proofs.YtfcefhaaphieeaaGreat

/-
  Walks: the document's merged.
-/
namespace Go.Proofs.YtfcefhaaphieeaaGreat
open Go.RowKit

/-- Parcels by weight. -/
def leC (f : Nat → Nat) (a b : Pc) : Bool := decide (wtT f a.1 ≤ wtT f b.1)
theorem trees_mrg (f : Nat → Nat) (xs ys : List Pc) : trees (mrg (leC f) xs ys) = mrg (leT f) (trees xs) (trees ys) := mrg_map (leC f) (leT f) (·.1) (fun _ _ => rfl) xs ys
theorem mrg_left {f : Nat → Nat} {xs ys : List Pc} {i k : Nat} (hi : i < xs.length) (h : k < ys.length → ∀ (hk : k < ys.length), wtT f xs[i].1 ≤ wtT f ys[k].1) (hk : k ≤ ys.length) : mrg (leC f) (xs.drop i) (ys.drop k) = xs[i] :: mrg (leC f) (xs.drop (i + 1)) (ys.drop k) := by
  rw [List.drop_eq_getElem_cons hi]
  rcases Nat.lt_or_ge k ys.length with h1 | h1
  · rw [List.drop_eq_getElem_cons h1, mrg_cons, if_pos (show leC f _ _ = true from decide_eq_true (h h1 h1))]
  · rw [List.drop_eq_nil_of_le h1, mrg_cons_nil]
theorem mrg_right {f : Nat → Nat} {xs ys : List Pc} {i k : Nat} (hk : k < ys.length) (h : ∀ (hi : i < xs.length), wtT f ys[k].1 < wtT f xs[i].1) (hi : i ≤ xs.length) : mrg (leC f) (xs.drop i) (ys.drop k) = ys[k] :: mrg (leC f) (xs.drop i) (ys.drop (k + 1)) := by
  rw [List.drop_eq_getElem_cons hk]
  rcases Nat.lt_or_ge i xs.length with h1 | h1
  · rw [List.drop_eq_getElem_cons h1, mrg_cons, if_neg]
    have := h h1
    simp only [leC, decide_eq_true_eq]; omega
  · rw [List.drop_eq_nil_of_le h1]; rfl
theorem mrg_done {f : Nat → Nat} {xs ys : List Pc} {i k : Nat} (hi : xs.length ≤ i) (hk : ys.length ≤ k) : mrg (leC f) (xs.drop i) (ys.drop k) = [] := by
  rw [List.drop_eq_nil_of_le hi, List.drop_eq_nil_of_le hk]; rfl

set_option maxRecDepth 100000 in
set_option maxHeartbeats 8000000 in
theorem merged_is (I : Option Addr) (ni cI : Nat) (xs : List Pc) (M : Option Addr) (nm cM : Nat) (ys : List Pc) (f : Nat → Nat) (n : Nat) (w : World) (hI : Rd w I (pcC f n xs)) (hx : PcOk n w xs) (hM : Rd w M (pcC f n ys)) (hy : PcOk n w ys) (hni : ni = xs.length) (hnm : nm = ys.length) (h1 : ni ≤ 1000) (h2 : nm ≤ 1000) :
    Calls Tryz.prog 93 #[.slice I ni cI, .slice M nm cM] w fun e w' => ParRes f n w w' e (mrg (leT f) (trees xs) (trees ys)) := by
  have HN := Lib.hid (And.intro hni hnm)
  have HX := Lib.hid (And.intro hx hy)
  have H0 : Hid (([] : List Pc) ++ mrg (leC f) (xs.drop 0) (ys.drop 0) = mrg (leC f) xs ys) := Lib.hid rfl
  clear hni hnm hx hy
  go_enter Tryz.func93, Tryz.ntmps93
  go_wp2_with fail
  go_loopg [5, 6, 7] (ni + nm) (fun gk v5 v6 v7 wr => ∃ (A : Option Addr) (c i k m : Nat) (zs : List Pc), i ≤ ni ∧ k ≤ nm ∧ gk = ni + nm - (i + k) ∧ v6 = .int .i64 (i : Int) ∧ v7 = .int .i64 (k : Int) ∧ v5 = .slice A m c ∧ Builds w wr 170 2 A m c (pcC f n zs) ∧ Hid (PcOk n wr zs ∧ zs ++ mrg (leC f) (xs.drop i) (ys.drop k) = mrg (leC f) xs ys ∧ m = i + k))
  case atStart => exact ⟨none, 0, 0, 0, 0, [], by omega, by omega, rfl, rfl, rfl, rfl, Builds.nil_ _ _ _, Lib.hid ⟨PcOk.nil_ _ _, H0.out, rfl⟩⟩
  case round =>
    clear H0
    obtain ⟨A, c, i, k, m, zs, hi, hk, hgk, rfl, rfl, rfl, hB, HZ⟩ := hrel
    have HG := Lib.hid hgk
    clear hgk
    have hml : m ≤ 2000 := by have := HZ.out.2.2; omega
    have HCi := Lib.hid (fun (wx : World) (hb : Below w.heap.size w wx) (hil : i < xs.length) => show ∃ b off, I = some ⟨b, off, none⟩ ∧ wx.cell? ⟨b, off + i * 2, none⟩ = some (.int .i64 ((wtT f xs[i].1 : Nat) : Int)) ∧ wx.cell? ⟨b, off + i * 2 + 1, none⟩ = some (.slice (some ⟨xs[i].2.1, 0, none⟩) n xs[i].2.2) from by
      obtain ⟨b, off, e1, h1⟩ := (hI.below hb).at_ (by rw [pcC_length]; omega)
      have hg := pcC_get f n xs i _ (List.getElem?_eq_getElem hil)
      refine ⟨b, off, e1, ?_, ?_⟩
      · have := h1 _ _ hg.1; rw [show off + 2 * i = off + i * 2 by omega] at this; exact this
      · have := h1 _ _ hg.2; rw [show off + (2 * i + 1) = off + i * 2 + 1 by omega] at this; exact this)
    have HCk := Lib.hid (fun (wx : World) (hb : Below w.heap.size w wx) (hkl : k < ys.length) => show ∃ b off, M = some ⟨b, off, none⟩ ∧ wx.cell? ⟨b, off + k * 2, none⟩ = some (.int .i64 ((wtT f ys[k].1 : Nat) : Int)) ∧ wx.cell? ⟨b, off + k * 2 + 1, none⟩ = some (.slice (some ⟨ys[k].2.1, 0, none⟩) n ys[k].2.2) from by
      obtain ⟨b, off, e1, h1⟩ := (hM.below hb).at_ (by rw [pcC_length]; omega)
      have hg := pcC_get f n ys k _ (List.getElem?_eq_getElem hkl)
      refine ⟨b, off, e1, ?_, ?_⟩
      · have := h1 _ _ hg.1; rw [show off + 2 * k = off + k * 2 by omega] at this; exact this
      · have := h1 _ _ hg.2; rw [show off + (2 * k + 1) = off + k * 2 + 1 by omega] at this; exact this)
    by_cases hdone : ni ≤ i ∧ nm ≤ k
    · obtain rfl : ni = i := by omega
      obtain rfl : nm = k := by omega
      have d1 : decide ((ni : Int) < (ni : Int)) = false := decide_eq_false (by omega)
      have d2 : decide ((nm : Int) < (nm : Int)) = false := decide_eq_false (by omega)
      have hl : (mrg (leT f) (trees xs) (trees ys)).length = m := by rw [mrg_length, trees_len, trees_len]; have := HZ.out.2.2; have := HN.out; omega
      have ht : trees zs = mrg (leT f) (trees xs) (trees ys) := by
        have := HZ.out.2.1
        rw [mrg_done (by have := HN.out.1; omega) (by have := HN.out.2; omega), List.append_nil] at this
        rw [this, trees_mrg]
      have HL := Lib.hid (And.intro hl ht)
      clear hl ht
      go_wp2_with fail
      go_ret
      exact ⟨A, c, zs, by rw [HL.out.1]; rfl, by rw [HL.out.1]; exact hB, HZ.out.1, HL.out.2⟩
    · -- which one comes next
      have hways : (i < ni ∧ k = nm) ∨ (i = ni ∧ k < nm) ∨ (i < ni ∧ k < nm) := by omega
      clear hdone
      rcases hways with ⟨y1, y2⟩ | ⟨y1, y2⟩ | ⟨y1, y2⟩
      · have t1 : decide ((i : Int) < (ni : Int)) = true := decide_eq_true (by omega)
        have t2 : ((k : Int) == (nm : Int)) = true := by rw [beq_iff_eq]; omega
        have hil : i < xs.length := by have := HN.out; omega
        have HNx := Lib.hid (mrg_left (f := f) (xs := xs) (ys := ys) (i := i) (k := k) hil (fun h => by have := HN.out; omega) (by have := HN.out; omega))
        obtain ⟨x, hx⟩ : ∃ x, xs[i] = x := ⟨_, rfl⟩
        have okx : PcOk n wr [x] := fun z hz => by
          simp only [List.mem_cons, List.not_mem_nil, or_false] at hz
          subst hz
          exact ⟨Arr.below (HX.out.1 _ (by rw [← hx]; exact List.getElem_mem hil)).1 hB.1 (Blk.lt (HX.out.1 _ (by rw [← hx]; exact List.getElem_mem hil)).1), (HX.out.1 _ (by rw [← hx]; exact List.getElem_mem hil)).2⟩
        obtain ⟨bi9, oi9, ei, ci1, ci2⟩ := HCi.out wr hB.1 hil
        first | subst ei | (simp only [Option.some.injEq, Addr.mk.injEq, and_true] at ei; obtain ⟨rfl, rfl⟩ := ei)
        rw [hx] at ci1 ci2 HNx
        obtain ⟨tx, gx, cx⟩ := x
        dsimp only at ci1 ci2
        obtain ⟨y, hy⟩ : ∃ y, wtT f tx = y := ⟨_, rfl⟩
        rw [hy] at ci1
        have HNw := Lib.hid (show pcC f n zs ++ [Value.int .i64 (y : Int), .slice (some ⟨gx, 0, none⟩) n cx] = pcC f n (zs ++ [(tx, gx, cx)]) by rw [pcC_append, ← hy]; rfl)
        have HY := Lib.hid (HZ.out.1.app okx)
        have HEq := Lib.hid (show (zs ++ [(tx, gx, cx)]) ++ mrg (leC f) (xs.drop (i + 1)) (ys.drop k) = mrg (leC f) xs ys by rw [← HZ.out.2.1, HNx.out, List.append_assoc]; rfl)
        have hm1 := HZ.out.2.2
        have HM1 := Lib.hid hm1
        clear hx hy okx HNx hm1
        go_wp2_with fail
        go_quiet (fail)
        have hB4 := hB.drewN nq
        have HY4 : Hid (PcOk n (wr.drewN nq) (zs ++ [(tx, gx, cx)])) := Lib.hid HY.out
        have d1 : (wr.drewN nq).cell? ⟨bi9, oi9 + i * 2, none⟩ = some (.int .i64 (y : Int)) := ci1
        have d2 : (wr.drewN nq).cell? ⟨bi9, oi9 + i * 2 + 1, none⟩ = some (.slice (some ⟨gx, 0, none⟩) n cx) := ci2
        clear hB HY HCi HCk ci1 ci2
        generalize wr.drewN nq = w4 at *
        go_wp2_with (at_builtin; refine grow elem_par rfl (.tmp 41) (.tmp 46) rfl rfl (hB4.alloc _) rfl (Rd.new' _ _ _ [Value.int .i64 (y : Int), .slice (some ⟨gx, 0, none⟩) n cx] _ (by simp) rfl) rfl (by simp [Value.oneCell']) (m + 1) rfl (pcC f n (zs ++ [(tx, gx, cx)])) HNw.out (by omega) (by omega) ?_; intro A2 c2 w7 hB7 hg7; have hK7 := (HY4.out.alloc _).grown (hB4.alloc _) hg7)
        go_roundg (ni + nm - (i + 1 + k))
        case measure => have := HG.out; omega
        case rel => exact ⟨A2, c2, i + 1, k, m + 1, _, by omega, by omega, rfl, by go_num, (by first | rfl | rw [y2]), rfl, hB7, Lib.hid ⟨hK7, HEq.out, by have := HM1.out; omega⟩⟩
      · have t1 : decide ((i : Int) < (ni : Int)) = false := decide_eq_false (by omega)
        have t3 : decide ((k : Int) < (nm : Int)) = true := decide_eq_true (by omega)
        have t2 : ((k : Int) == (nm : Int)) = false := by rw [beq_eq_false_iff_ne]; omega
        have hil : k < ys.length := by have := HN.out; omega
        have HNx := Lib.hid (mrg_right (f := f) (xs := xs) (ys := ys) (i := i) (k := k) hil (fun h => by have := HN.out; omega) (by have := HN.out; omega))
        obtain ⟨x, hx⟩ : ∃ x, ys[k] = x := ⟨_, rfl⟩
        have okx : PcOk n wr [x] := fun z hz => by
          simp only [List.mem_cons, List.not_mem_nil, or_false] at hz
          subst hz
          exact ⟨Arr.below (HX.out.2 _ (by rw [← hx]; exact List.getElem_mem hil)).1 hB.1 (Blk.lt (HX.out.2 _ (by rw [← hx]; exact List.getElem_mem hil)).1), (HX.out.2 _ (by rw [← hx]; exact List.getElem_mem hil)).2⟩
        obtain ⟨bk9, ok9, ek, ck1, ck2⟩ := HCk.out wr hB.1 hil
        first | subst ek | (simp only [Option.some.injEq, Addr.mk.injEq, and_true] at ek; obtain ⟨rfl, rfl⟩ := ek)
        rw [hx] at ck1 ck2 HNx
        obtain ⟨tx, gx, cx⟩ := x
        dsimp only at ck1 ck2
        obtain ⟨y, hy⟩ : ∃ y, wtT f tx = y := ⟨_, rfl⟩
        rw [hy] at ck1
        have HNw := Lib.hid (show pcC f n zs ++ [Value.int .i64 (y : Int), .slice (some ⟨gx, 0, none⟩) n cx] = pcC f n (zs ++ [(tx, gx, cx)]) by rw [pcC_append, ← hy]; rfl)
        have HY := Lib.hid (HZ.out.1.app okx)
        have HEq := Lib.hid (show (zs ++ [(tx, gx, cx)]) ++ mrg (leC f) (xs.drop i) (ys.drop (k + 1)) = mrg (leC f) xs ys by rw [← HZ.out.2.1, HNx.out, List.append_assoc]; rfl)
        have hm1 := HZ.out.2.2
        have HM1 := Lib.hid hm1
        clear hx hy okx HNx hm1
        go_wp2_with fail
        go_quiet (fail)
        have hB4 := hB.drewN nq
        have HY4 : Hid (PcOk n (wr.drewN nq) (zs ++ [(tx, gx, cx)])) := Lib.hid HY.out
        have d1 : (wr.drewN nq).cell? ⟨bk9, ok9 + k * 2, none⟩ = some (.int .i64 (y : Int)) := ck1
        have d2 : (wr.drewN nq).cell? ⟨bk9, ok9 + k * 2 + 1, none⟩ = some (.slice (some ⟨gx, 0, none⟩) n cx) := ck2
        clear hB HY HCi HCk ck1 ck2
        generalize wr.drewN nq = w4 at *
        go_wp2_with (at_builtin; refine grow elem_par rfl (.tmp 50) (.tmp 55) rfl rfl (hB4.alloc _) rfl (Rd.new' _ _ _ [Value.int .i64 (y : Int), .slice (some ⟨gx, 0, none⟩) n cx] _ (by simp) rfl) rfl (by simp [Value.oneCell']) (m + 1) rfl (pcC f n (zs ++ [(tx, gx, cx)])) HNw.out (by omega) (by omega) ?_; intro A2 c2 w7 hB7 hg7; have hK7 := (HY4.out.alloc _).grown (hB4.alloc _) hg7)
        go_roundg (ni + nm - (i + (k + 1)))
        case measure => have := HG.out; omega
        case rel => exact ⟨A2, c2, i, k + 1, m + 1, _, by omega, by omega, rfl, (by first | rfl | rw [y1]), by go_num, rfl, hB7, Lib.hid ⟨hK7, HEq.out, by have := HM1.out; omega⟩⟩
      · have hil0 : i < xs.length := by have := HN.out; omega
        have hkl0 : k < ys.length := by have := HN.out; omega
        obtain ⟨bi, oi, ei0, ci0, -⟩ := HCi.out wr hB.1 hil0
        obtain ⟨bk, ok, ek0, ck0, -⟩ := HCk.out wr hB.1 hkl0
        subst ei0
        subst ek0
        obtain ⟨u, hu⟩ : ∃ u, wtT f xs[i].1 = u := ⟨_, rfl⟩
        obtain ⟨v, hv⟩ : ∃ v, wtT f ys[k].1 = v := ⟨_, rfl⟩
        rw [hu] at ci0
        rw [hv] at ck0
        have t1 : decide ((i : Int) < (ni : Int)) = true := decide_eq_true (by omega)
        have t2 : ((k : Int) == (nm : Int)) = false := by rw [beq_eq_false_iff_ne]; omega
        by_cases hle : u ≤ v
        · have t3 : decide ((u : Int) ≤ (v : Int)) = true := decide_eq_true (by omega)
          have hil : i < xs.length := by have := HN.out; omega
          have HNx := Lib.hid (mrg_left (f := f) (xs := xs) (ys := ys) (i := i) (k := k) hil (fun _ _ => by rw [hu, hv]; exact hle) (by have := HN.out; omega))
          obtain ⟨x, hx⟩ : ∃ x, xs[i] = x := ⟨_, rfl⟩
          have okx : PcOk n wr [x] := fun z hz => by
            simp only [List.mem_cons, List.not_mem_nil, or_false] at hz
            subst hz
            exact ⟨Arr.below (HX.out.1 _ (by rw [← hx]; exact List.getElem_mem hil)).1 hB.1 (Blk.lt (HX.out.1 _ (by rw [← hx]; exact List.getElem_mem hil)).1), (HX.out.1 _ (by rw [← hx]; exact List.getElem_mem hil)).2⟩
          obtain ⟨bi9, oi9, ei, ci1, ci2⟩ := HCi.out wr hB.1 hil
          first | subst ei | (simp only [Option.some.injEq, Addr.mk.injEq, and_true] at ei; obtain ⟨rfl, rfl⟩ := ei)
          rw [hx] at ci1 ci2 HNx
          clear hu hv
          obtain ⟨tx, gx, cx⟩ := x
          dsimp only at ci1 ci2
          obtain ⟨y, hy⟩ : ∃ y, wtT f tx = y := ⟨_, rfl⟩
          rw [hy] at ci1
          have HNw := Lib.hid (show pcC f n zs ++ [Value.int .i64 (y : Int), .slice (some ⟨gx, 0, none⟩) n cx] = pcC f n (zs ++ [(tx, gx, cx)]) by rw [pcC_append, ← hy]; rfl)
          have HY := Lib.hid (HZ.out.1.app okx)
          have HEq := Lib.hid (show (zs ++ [(tx, gx, cx)]) ++ mrg (leC f) (xs.drop (i + 1)) (ys.drop k) = mrg (leC f) xs ys by rw [← HZ.out.2.1, HNx.out, List.append_assoc]; rfl)
          have hm1 := HZ.out.2.2
          have HM1 := Lib.hid hm1
          clear hx hy okx HNx hm1
          go_wp2_with fail
          go_quiet (fail)
          have hB4 := hB.drewN nq
          have HY4 : Hid (PcOk n (wr.drewN nq) (zs ++ [(tx, gx, cx)])) := Lib.hid HY.out
          have d1 : (wr.drewN nq).cell? ⟨bi, oi + i * 2, none⟩ = some (.int .i64 (y : Int)) := ci1
          have d2 : (wr.drewN nq).cell? ⟨bi, oi + i * 2 + 1, none⟩ = some (.slice (some ⟨gx, 0, none⟩) n cx) := ci2
          clear hB HY HCi HCk ci1 ci2
          generalize wr.drewN nq = w4 at *
          go_wp2_with (at_builtin; refine grow elem_par rfl (.tmp 41) (.tmp 46) rfl rfl (hB4.alloc _) rfl (Rd.new' _ _ _ [Value.int .i64 (y : Int), .slice (some ⟨gx, 0, none⟩) n cx] _ (by simp) rfl) rfl (by simp [Value.oneCell']) (m + 1) rfl (pcC f n (zs ++ [(tx, gx, cx)])) HNw.out (by omega) (by omega) ?_; intro A2 c2 w7 hB7 hg7; have hK7 := (HY4.out.alloc _).grown (hB4.alloc _) hg7)
          go_roundg (ni + nm - (i + 1 + k))
          case measure => have := HG.out; omega
          case rel => exact ⟨A2, c2, i + 1, k, m + 1, _, by omega, by omega, rfl, by go_num, (by first | rfl | rw [y2]), rfl, hB7, Lib.hid ⟨hK7, HEq.out, by have := HM1.out; omega⟩⟩
        · have t3 : decide ((u : Int) ≤ (v : Int)) = false := decide_eq_false (by omega)
          have hil : k < ys.length := by have := HN.out; omega
          have HNx := Lib.hid (mrg_right (f := f) (xs := xs) (ys := ys) (i := i) (k := k) hil (fun _ => by rw [hu, hv]; omega) (by have := HN.out; omega))
          obtain ⟨x, hx⟩ : ∃ x, ys[k] = x := ⟨_, rfl⟩
          have okx : PcOk n wr [x] := fun z hz => by
            simp only [List.mem_cons, List.not_mem_nil, or_false] at hz
            subst hz
            exact ⟨Arr.below (HX.out.2 _ (by rw [← hx]; exact List.getElem_mem hil)).1 hB.1 (Blk.lt (HX.out.2 _ (by rw [← hx]; exact List.getElem_mem hil)).1), (HX.out.2 _ (by rw [← hx]; exact List.getElem_mem hil)).2⟩
          obtain ⟨bk9, ok9, ek, ck1, ck2⟩ := HCk.out wr hB.1 hil
          first | subst ek | (simp only [Option.some.injEq, Addr.mk.injEq, and_true] at ek; obtain ⟨rfl, rfl⟩ := ek)
          rw [hx] at ck1 ck2 HNx
          clear hu hv
          obtain ⟨tx, gx, cx⟩ := x
          dsimp only at ck1 ck2
          obtain ⟨y, hy⟩ : ∃ y, wtT f tx = y := ⟨_, rfl⟩
          rw [hy] at ck1
          have HNw := Lib.hid (show pcC f n zs ++ [Value.int .i64 (y : Int), .slice (some ⟨gx, 0, none⟩) n cx] = pcC f n (zs ++ [(tx, gx, cx)]) by rw [pcC_append, ← hy]; rfl)
          have HY := Lib.hid (HZ.out.1.app okx)
          have HEq := Lib.hid (show (zs ++ [(tx, gx, cx)]) ++ mrg (leC f) (xs.drop i) (ys.drop (k + 1)) = mrg (leC f) xs ys by rw [← HZ.out.2.1, HNx.out, List.append_assoc]; rfl)
          have hm1 := HZ.out.2.2
          have HM1 := Lib.hid hm1
          clear hx hy okx HNx hm1
          go_wp2_with fail
          go_quiet (fail)
          have hB4 := hB.drewN nq
          have HY4 : Hid (PcOk n (wr.drewN nq) (zs ++ [(tx, gx, cx)])) := Lib.hid HY.out
          have d1 : (wr.drewN nq).cell? ⟨bk, ok + k * 2, none⟩ = some (.int .i64 (y : Int)) := ck1
          have d2 : (wr.drewN nq).cell? ⟨bk, ok + k * 2 + 1, none⟩ = some (.slice (some ⟨gx, 0, none⟩) n cx) := ck2
          clear hB HY HCi HCk ck1 ck2
          generalize wr.drewN nq = w4 at *
          go_wp2_with (at_builtin; refine grow elem_par rfl (.tmp 50) (.tmp 55) rfl rfl (hB4.alloc _) rfl (Rd.new' _ _ _ [Value.int .i64 (y : Int), .slice (some ⟨gx, 0, none⟩) n cx] _ (by simp) rfl) rfl (by simp [Value.oneCell']) (m + 1) rfl (pcC f n (zs ++ [(tx, gx, cx)])) HNw.out (by omega) (by omega) ?_; intro A2 c2 w7 hB7 hg7; have hK7 := (HY4.out.alloc _).grown (hB4.alloc _) hg7)
          go_roundg (ni + nm - (i + (k + 1)))
          case measure => have := HG.out; omega
          case rel => exact ⟨A2, c2, i, k + 1, m + 1, _, by omega, by omega, rfl, (by first | rfl | rw [y1]), by go_num, rfl, hB7, Lib.hid ⟨hK7, HEq.out, by have := HM1.out; omega⟩⟩
end Go.Proofs.YtfcefhaaphieeaaGreat

/-
  Walks: the document's least.
-/
namespace Go.Proofs.YtfcefhaaphieeaaGreat
open Go.RowKit

theorem pairT_add {g : Tr → Nat} {M : Nat} (hg : ∀ a b, g (.node a b) = g a + g b) : ∀ (l : List Tr), (∀ x ∈ l, g x ≤ M) → ∀ x ∈ pairT l, g x ≤ 2 * M
  | [], _, x, hx => by simp [pairT] at hx
  | [_], _, x, hx => by simp [pairT] at hx
  | a :: b :: r, h, x, hx => by
    rw [pairT, List.mem_cons] at hx
    rcases hx with rfl | hx
    · have h1 := h a (by simp)
      have h2 := h b (by simp)
      rw [hg]; omega
    · exact pairT_add hg r (fun y hy => h y (by simp [hy])) x hx
theorem row_add {g : Tr → Nat} {B : Nat} (f : Nat → Nat) (n : Nat) (hg : ∀ a b, g (.node a b) = g a + g b) (hl : ∀ k, k < n → g (.leaf k) ≤ B) : ∀ t, ∀ x ∈ rowTr f n t, g x ≤ B * 2 ^ t
  | 0, x, hx => by
    rw [rowTr] at hx
    unfold itemsT at hx
    simp only [List.mem_map, List.mem_range] at hx
    obtain ⟨k, hk, rfl⟩ := hx
    simpa using hl k hk
  | t + 1, x, hx => by
    rw [rowTr, mrg_mem] at hx
    rcases hx with hx | hx
    · unfold itemsT at hx
      simp only [List.mem_map, List.mem_range] at hx
      obtain ⟨k, hk, rfl⟩ := hx
      have h1 := hl k hk
      have h2 : B * 1 ≤ B * 2 ^ (t + 1) := Nat.mul_le_mul_left _ (Nat.one_le_two_pow)
      omega
    · have := pairT_add hg _ (row_add f n hg hl t) x hx
      rw [Nat.pow_succ]
      have e : B * (2 ^ t * 2) = 2 * (B * 2 ^ t) := by rw [← Nat.mul_assoc, Nat.mul_comm]
      omega
theorem row_bounds (f : Nat → Nat) (n t : Nat) (ht : t ≤ 15) (hf : ∀ k, k < n → f k ≤ 1073741824) : ∀ x ∈ rowTr f n t, wtT f x ≤ 1000000000000000000 ∧ ∀ k, ofT k x ≤ 1000000000000000000 := fun x hx => by
  have h15 : 2 ^ t ≤ 32768 := Nat.le_trans (Nat.pow_le_pow_right (n := 2) (by omega) ht) (by decide)
  constructor
  · have h1 := row_add (g := wtT f) (B := 1073741824) f n (fun _ _ => rfl) hf t x hx
    have h2 : 1073741824 * 2 ^ t ≤ 1073741824 * 32768 := Nat.mul_le_mul_left _ h15
    omega
  · intro k
    have h1 := row_add (g := ofT k) (B := 1) f n (fun _ _ => rfl) (fun j _ => by unfold ofT; split <;> omega) t x hx
    omega

/-- More for one item. -/
theorem outE_add {fr ys : List Int} (h : Items fr ys) (e : Nat → Nat) {q : Nat} (v : Nat) (hq : q < ys.length) (i : Nat) : outE ys (fun k => if k = q then e k + v else e k) i = if i = itF ys q then outE ys e i + v else outE ys e i := by
  by_cases hi : i = itF ys q
  · subst hi
    rw [if_pos rfl, outE_at h _ hq, outE_at h _ hq, if_pos rfl]
  · rw [if_neg hi]
    unfold outE
    refine sumN_congr fun k hk => ?_
    by_cases e1 : itF ys k = i
    · rw [if_pos e1, if_pos e1]
      exact if_neg fun e2 => hi (by rw [← e2]; exact e1.symm)
    · rw [if_neg e1, if_neg e1]
/-- What the first i of the row, and the first q counts of the next one, have given. -/
def eR (row : List Tr) (i q k : Nat) : Nat := sumT (ofT k) (row.take i) + if k < q then (match row[i]? with | some t => ofT k t | none => 0) else 0
theorem eR_zero (row : List Tr) (i : Nat) : eR row i 0 = fun k => sumT (ofT k) (row.take i) := by funext k; simp [eR]
theorem eR_step {row : List Tr} {i q : Nat} {t : Tr} (h : row[i]? = some t) : eR row i (q + 1) = fun k => if k = q then eR row i q k + ofT q t else eR row i q k := by
  funext k
  unfold eR
  rw [h]
  dsimp only
  by_cases e : k = q
  · subst e; rw [if_pos (by omega), if_pos rfl, if_neg (by omega)]; omega
  · rw [if_neg e]
    by_cases e2 : k < q
    · rw [if_pos (by omega), if_pos e2]
    · rw [if_neg (by omega), if_neg e2]
theorem eR_full {row : List Tr} {i n : Nat} {t : Tr} (h : row[i]? = some t) (k : Nat) (hk : k < n) : eR row i n k = eR row (i + 1) 0 k := by
  rw [eR_zero]
  unfold eR
  rw [if_pos hk, h, List.take_add_one, h]
  dsimp only
  rw [Option.toList_some, sumT_append]
  simp [sumT]
theorem sumT_take_le (g : Tr → Nat) (row : List Tr) : ∀ i j, i ≤ j → sumT g (row.take i) ≤ sumT g (row.take j) := fun i j h => by
  have : row.take i = (row.take j).take i := by rw [List.take_take, Nat.min_eq_left h]
  rw [this]
  generalize row.take j = l
  conv => rhs; rw [← List.take_append_drop i l]
  rw [sumT_append]; omega
theorem eR_le (row : List Tr) {i m q k : Nat} (hi : i < m) (hm : m ≤ row.length) : eR row i q k ≤ sumT (ofT k) (row.take m) := by
  have h1 := sumT_take_le (ofT k) row (i + 1) m (by omega)
  have h2 : sumT (ofT k) (row.take (i + 1)) = sumT (ofT k) (row.take i) + ofT k (row[i]'(by omega)) := by
    rw [List.take_add_one, List.getElem?_eq_getElem (by omega : i < row.length), Option.toList_some, sumT_append]; simp [sumT]
  unfold eR
  rw [List.getElem?_eq_getElem (by omega : i < row.length)]
  dsimp only
  split <;> omega
theorem made_bytes2 (n : Nat) : (madeCells (Value.int .u8 0).cells (n * 1)).toList = u8s (List.replicate n 0) := by rw [Nat.mul_one, made_zeros _ rfl, zeros_list, u8s_zeros]

set_option maxRecDepth 100000 in
set_option maxHeartbeats 8000000 in
theorem least_is (F : Option Addr) (nf cF : Nat) (fr : List Int) (I : Option Addr) (ni cI : Nat) (ys : List Int) (L : Nat) (w : World) (hF : Rd w F (ints fr)) (hI : Rd w I (ints ys)) (hn : nf = fr.length) (hni : ni = ys.length) (hIt : Items fr ys) (hL1 : 1 ≤ L) (hL15 : L ≤ 15) (h2 : 2 ≤ ni) (hnL : ni ≤ 2 ^ L) (hnf : nf ≤ 320) (hinf : ni ≤ nf)
    (hfr : ∀ i, i < fr.length → 0 ≤ nthI fr i ∧ nthI fr i ≤ 1073741824) :
    Calls Tryz.prog 81 #[.slice F nf cF, .slice I ni cI, .int .i64 (L : Int)] w fun e w' => ∃ A c, e = .returned (.slice A nf c) ∧ Builds w w' 5 1 A nf c (u8s (outL fr ys L)) := by
  obtain ⟨f, hf⟩ : ∃ f, wtF fr ys = f := ⟨_, rfl⟩
  have hit : ∀ k, k < ni → ∃ i : Nat, nthI ys k = (i : Int) ∧ i < nf ∧ nthI fr i = (f k : Int) ∧ itF ys k = i ∧ f k ≤ 1073741824 := fun k hk => by
    obtain ⟨y1, y2, y3⟩ := hIt.rng (nthI ys k) (by rw [nthI_el (by omega)]; exact List.getElem_mem _)
    have e : itF ys k = (nthI ys k).toNat := rfl
    have a4' := hfr (itF ys k) (by omega)
    have e5 : f k = (nthI fr (itF ys k)).toNat := by rw [← hf]; rfl
    exact ⟨itF ys k, by omega, by omega, by rw [← e] at y3; omega, rfl, by omega⟩
  have HF1 := Lib.hid (first_is F nf cF fr I ni cI ys f w hF hI hn hni (by omega) (fun k hk => by obtain ⟨i, h1, h2, h3, _⟩ := hit k hk; exact ⟨i, h1, h2, h3⟩))
  have HN := Lib.hid (And.intro hn (And.intro hni (And.intro hIt hf)))
  have HIt := Lib.hid hit
  have HB := Lib.hid (fun t (ht : t ≤ 15) => row_bounds f ni t ht (fun k hk => by obtain ⟨_, _, _, _, _, h⟩ := hit k hk; exact h))
  clear hn hni hIt hf hit hfr
  go_enter Tryz.func81, Tryz.ntmps81
  go_wp2_with fail
  refine (HF1.out).mono ?_
  rintro e w1 ⟨A1, c1, xs1, rfl, hB1, hP1, hT1⟩
  rw [itemsT_length] at hB1 ⊢
  have hl1 : xs1.length = ni := by rw [← trees_len, hT1, itemsT_length]
  have hR1 := hB1.rd
  have HT1 := Lib.hid (And.intro hT1 hl1)
  have hb1 := hB1.1
  have HP1 := Lib.hid hP1
  clear hT1 hl1 hB1 HF1 hP1
  go_wp2_with fail
  go_loopg [8, 9] (L - 1) (fun gk v8 v9 wr => ∃ (A : Option Addr) (c k nr : Nat) (xs : List Pc), 1 ≤ k ∧ k ≤ L ∧ gk = L - k ∧ v9 = .int .i64 (k : Int) ∧ v8 = .slice A nr c ∧ nr ≤ 640 ∧ Rd wr A (pcC f ni xs) ∧ Below w1.heap.size w1 wr ∧ Hid (PcOk ni wr xs ∧ trees xs = rowTr f ni (k - 1) ∧ nr = xs.length))
  case atStart => exact ⟨A1, c1, 1, ni, xs1, by omega, hL1, rfl, rfl, rfl, by omega, hR1, Below.refl _ _, Lib.hid ⟨HP1.out, HT1.out.1, HT1.out.2.symm⟩⟩
  case round =>
    obtain ⟨A, c, k, nr, xs, hk1, hk2, hgk, rfl, rfl, hnr, hR, hbw, HX⟩ := hrel
    have HG := Lib.hid hgk
    clear hgk
    by_cases hlt : k < L
    · have hlt' : (k : Int) < (L : Int) := by omega
      have HPr := Lib.hid (pairs_is A nr c xs f ni wr hR HX.out.1 HX.out.2.2 (by omega) (by omega) (fun x hx => HB.out (k - 1) (by omega) x.1 (by rw [← HX.out.2.1]; exact List.mem_map_of_mem hx)))
      go_wp2_with fail
      refine (HPr.out).mono ?_
      rintro e w2 ⟨A2, c2, xs2, rfl, hB2, hP2, hT2⟩
      have hrow : trees xs = rowTr f ni (k - 1) := HX.out.2.1
      rw [hrow] at hB2 hT2 ⊢
      obtain ⟨n2, hn2⟩ : ∃ n2, (pairT (rowTr f ni (k - 1))).length = n2 := ⟨_, rfl⟩
      rw [hn2] at hB2 ⊢
      have hn2l : n2 ≤ 640 := by rw [← hn2, pairT_length]; have := row_le f ni (k - 1); omega
      have hx2l : n2 = xs2.length := by rw [← hn2, ← hT2, trees_len]
      have hR12 := (hR1.below hbw).below hB2.1
      have HMg := Lib.hid (merged_is A1 ni c1 xs1 A2 n2 c2 xs2 f ni w2 hR12 ((HP1.out.below hbw).below hB2.1) hB2.rd hP2 HT1.out.2.symm hx2l (by omega) (by omega))
      have hbw2 := hbw.trans (hB2.1.mono hbw.size)
      have HRw := Lib.hid (show mrg (leT f) (trees xs1) (trees xs2) = rowTr f ni k by
        obtain ⟨j, hj⟩ : ∃ j, k = j + 1 := ⟨k - 1, by omega⟩
        rw [HT1.out.1, hT2, hj]; rfl)
      clear hB2 hP2 hT2 hrow hn2 hx2l hR12 hR HX HPr
      go_wp2_with fail
      refine (HMg.out).mono ?_
      rintro e w3 ⟨A3, c3, xs3, rfl, hB3, hP3, hT3⟩
      rw [HRw.out] at hB3 hT3 ⊢
      obtain ⟨n3, hn3⟩ : ∃ n3, (rowTr f ni k).length = n3 := ⟨_, rfl⟩
      rw [hn3] at hB3 ⊢
      have hn3l : n3 ≤ 640 := by rw [← hn3]; have := row_le f ni k; omega
      have hR3 := hB3.rd
      have HX3 := Lib.hid (And.intro hP3 (And.intro hT3 (show n3 = xs3.length by rw [← hn3, ← hT3, trees_len])))
      have hbw3 := hbw2.trans (hB3.1.mono hbw2.size)
      clear hP3 hT3 hn3 hB3 hbw2 HMg
      go_wp2_with fail
      go_roundg (L - (k + 1))
      case measure => have := HG.out; omega
      case rel => exact ⟨A3, c3, k + 1, n3, xs3, by omega, by omega, rfl, by go_num, rfl, hn3l, hR3, hbw3, Lib.hid ⟨HX3.out.1, by rw [Nat.add_sub_cancel]; exact HX3.out.2.1, HX3.out.2.2⟩⟩
    · obtain rfl : L = k := by omega
      have hlt' : ¬ (L : Int) < (L : Int) := by omega
      have hbW := hb1.trans (hbw.mono hb1.size)
      have hFw := hF.below hbW
      have hIw := hI.below hbW
      clear hlt hk2 HG hbw hb1 hF hI hR1 HP1 HT1
      obtain ⟨row, hrow⟩ : ∃ row, rowTr f ni (L - 1) = row := ⟨_, rfl⟩
      have hrl : row.length = nr := by rw [← hrow, ← HX.out.2.1, trees_len]; exact HX.out.2.2.symm
      obtain ⟨m, hm⟩ : ∃ m, 2 * ni - 2 = m := ⟨_, rfl⟩
      have hml : m ≤ nr := by
        have := row_enough (f := f) (n := ni) (L - 1) (by rw [show L - 1 + 1 = L by omega]; exact hnL)
        rw [hrow] at this; omega
      have HLen := Lib.hid (fun k => show sumT (ofT k) (row.take m) = lenT f ni (L - 1) (2 * ni - 2) k from by rw [← hrow, ← hm]; exact of_len f ni k (L - 1) _ (by rw [hrow]; omega))
      have HLe := Lib.hid (fun i q k (hi : i < m) => show eR row i q k ≤ 15 from by
        have h1 := eR_le row (q := q) (k := k) hi (by omega)
        rw [HLen.out] at h1
        have h2 := len_le (f := f) (n := ni) (L - 1) (2 * ni - 2) k
        omega)
      have HRow := Lib.hid (And.intro hrow hrl)
      obtain ⟨d2, hd2⟩ : ∃ d2, 2 * ni = d2 := ⟨_, rfl⟩
      have ed2 : (2 : Int) * (ni : Int) = (d2 : Int) := by omega
      have em : (d2 : Int) - 2 = (m : Int) := by omega
      have hd2l : d2 ≤ 1000 := by omega
      have HM := Lib.hid hm
      clear hrow hrl hm hd2
      go_upto_region 8 with (at_make; refine makes elem_u8 (z := .int .u8 0) (by kernel_rfl) rfl _ _ rfl nf rfl rfl rfl (by omega) (by omega) (u8s (List.replicate nf 0)) (made_bytes2 nf) ?_; intro w5 hO)
      obtain ⟨GO, hGO⟩ : ∃ GO, wr.heap.size = GO := ⟨_, rfl⟩
      rw [hGO] at hO ⊢
      have hz0 : List.replicate nf 0 = (List.range nf).map (outE ys (eR row 0 0)) := by
        refine (List.eq_replicate_iff.2 ⟨by simp, fun x hx => ?_⟩).symm
        obtain ⟨i, _, rfl⟩ := List.mem_map.1 hx
        rw [eR_zero]
        exact outE_zero ys i
      rw [hz0] at hO
      have HGO := Lib.hid hGO
      clear hz0 hGO
      generalize hWR : wr = WR at *
      clear hWR
      go_wp2_with fail
      go_loopg [11] m (fun gk v11 wr => ∃ i : Nat, i ≤ m ∧ gk = m - i ∧ v11 = .int .i64 (i : Int) ∧ Builds WR wr 5 1 (some ⟨GO, 0, none⟩) nf nf (u8s ((List.range nf).map (outE ys (eR row i 0)))))
      case atStart => exact ⟨0, by omega, rfl, rfl, hO⟩
      case round =>
        clear hO
        obtain ⟨i, hi, hgk, rfl, hO⟩ := hrel
        have HG := Lib.hid hgk
        clear hgk
        by_cases hlt : i < m
        · have hlt' : (i : Int) < (m : Int) := by omega
          have hil : i < xs.length := by have := HX.out.2.2; omega
          obtain ⟨⟨tx, gx, cx⟩, hxi⟩ : ∃ x, xs[i] = x := ⟨_, rfl⟩
          have okx := HX.out.1 (tx, gx, cx) (by rw [← hxi]; exact List.getElem_mem hil)
          have hri : row[i]? = some tx := by rw [← HRow.out.1, ← HX.out.2.1, trees_get hil, hxi]
          have hg := (pcC_get f ni xs i _ (by rw [List.getElem?_eq_getElem hil, hxi])).2
          dsimp only at okx hg
          obtain ⟨b, off, hRe, hcell⟩ := hR.at_ (by rw [pcC_length]; omega)
          subst hRe
          have HCs := Lib.hid (fun (wx : World) (hb : Below WR.heap.size WR wx) (q : Nat) (hq : q < ni) => show wx.cell? ⟨b, off + i * 2 + 1, none⟩ = some (.slice (some ⟨gx, 0, none⟩) ni cx) ∧ wx.cell? ⟨gx, q, none⟩ = some (.int .i64 ((ofT q tx : Nat) : Int)) from by
            obtain ⟨_, _, e1, h1⟩ := (hR.below hb).at_ (by rw [pcC_length]; omega)
            simp only [Option.some.injEq, Addr.mk.injEq, and_true] at e1
            obtain ⟨rfl, rfl⟩ := e1
            refine ⟨?_, Arr.cell (Arr.below okx.1 hb (Blk.lt okx.1)) q hq⟩
            have := h1 _ _ hg; rw [show off + (2 * i + 1) = off + i * 2 + 1 by omega] at this; exact this)
          have hcx := okx.2
          have HRi := Lib.hid hri
          have hinr : i < nr := by omega
          clear hcell hg hxi hri okx
          go_wp2_with fail
          go_loopg [12] ni (fun gq v12 wr => ∃ q : Nat, q ≤ ni ∧ gq = ni - q ∧ v12 = .int .i64 (q : Int) ∧ Builds WR wr 5 1 (some ⟨GO, 0, none⟩) nf nf (u8s ((List.range nf).map (outE ys (eR row i q)))))
          case atStart => exact ⟨0, by omega, rfl, rfl, hO⟩
          case round =>
            clear hO
            obtain ⟨q, hq, hgq, rfl, hO⟩ := hrel
            have HG2 := Lib.hid hgq
            clear hgq
            by_cases hltq : q < ni
            · have hltq' : (q : Int) < (ni : Int) := by omega
              obtain ⟨it, i1, i2, i3, i4, i5⟩ := HIt.out q hltq
              obtain ⟨c3, c4⟩ := HCs.out wr hO.1 q hltq
              obtain ⟨b2, off2, hIe, hcell2⟩ := (hIw.below hO.1).at_ (by rw [ints_length]; have := HN.out.2.1; omega)
              have c5 := hcell2 q _ (ints_get ys q (by have := HN.out.2.1; omega))
              rw [i1] at c5
              have co := Builds.cell hO it (by omega)
              rw [u8s_get _ _ (by simpa using i2)] at co
              have fo := Builds.free hO it
              have hval : nth ((List.range nf).map (outE ys (eR row i q))) it = eR row i q q := by
                have := outE_at HN.out.2.2.1 (eR row i q) (k := q) (by have := HN.out.2.1; omega)
                rw [i4] at this
                simp [nth, i2, this]
              rw [hval] at co
              have hst := eR_step (q := q) HRi.out
              have hle1 := HLe.out i (q + 1) q hlt
              have hle1' : eR row i (q + 1) q = eR row i q q + ofT q tx := by rw [hst]; exact if_pos rfl
              obtain ⟨x, hx⟩ : ∃ x, eR row i q q = x := ⟨_, rfl⟩
              obtain ⟨y, hy⟩ : ∃ y, ofT q tx = y := ⟨_, rfl⟩
              rw [hx] at co hle1'
              rw [hy] at c4 hle1'
              have hxy : x ≤ 15 ∧ y ≤ 15 ∧ x + y ≤ 15 := by omega
              obtain ⟨z, hz⟩ : ∃ z, x + y = z := ⟨_, rfl⟩
              have ez : (x : Int) + (y : Int) = (z : Int) := by omega
              have hzl : z ≤ 15 := by omega
              have HSt := Lib.hid (show Builds WR (wr.setCell ⟨GO, it, none⟩ (.int .u8 (z : Int))).drew 5 1 (some ⟨GO, 0, none⟩) nf nf (u8s ((List.range nf).map (outE ys (eR row i (q + 1))))) from by
                have := Builds.set hO it (by omega) (.int .u8 (z : Int))
                rw [show (u8s ((List.range nf).map (outE ys (eR row i q)))).set it (.int .u8 (z : Int)) = u8s (((List.range nf).map (outE ys (eR row i q))).set it z) by simp [u8s, List.map_set]] at this
                rw [show ((List.range nf).map (outE ys (eR row i q))).set it z = (List.range nf).map (outE ys (eR row i (q + 1))) from by
                  apply List.ext_getElem
                  · simp
                  · intro j h1 h2
                    simp only [List.length_set, List.length_map, List.length_range] at h1
                    have hs := outE_add HN.out.2.2.1 (eR row i q) (q := q) y (by have := HN.out.2.1; omega) j
                    rw [← hy, ← hst, i4] at hs
                    rw [List.getElem_set, List.getElem_map, List.getElem_map, List.getElem_range, hs]
                    by_cases e : it = j
                    · subst e
                      rw [if_pos rfl, if_pos rfl]
                      have := outE_at HN.out.2.2.1 (eR row i q) (k := q) (by have := HN.out.2.1; omega)
                      rw [i4, hx] at this
                      omega
                    · rw [if_neg e, if_neg (fun e' => e e'.symm)]] at this
                exact this.drew)
              subst hIe
              clear hcell2 hst hle1 hle1' hx hy hz hval i1 i3 i4 i5 hO
              generalize hw0 : wr = w0 at *
              clear hw0
              go_wp2_with fail
              go_region
              have hO2 := HSt.out
              generalize (w0.setCell ⟨GO, it, none⟩ (.int .u8 (z : Int))).drew = w6 at *
              clear c3 c4 c5 co fo HSt
              go_wp2_with fail
              go_roundg (ni - (q + 1))
              case measure => have := HG2.out; omega
              case rel => exact ⟨q + 1, by omega, rfl, by go_num, hO2⟩
            · obtain rfl : ni = q := by omega
              have hltq' : ¬ (ni : Int) < (ni : Int) := by omega
              have hfull : (List.range nf).map (outE ys (eR row i ni)) = (List.range nf).map (outE ys (eR row (i + 1) 0)) := by
                refine List.map_congr_left fun j _ => ?_
                exact outE_congr (fun k hk => eR_full HRi.out k (by have := HN.out.2.1; omega)) j
              rw [hfull] at hO
              clear hfull
              go_wp2_with fail
              go_roundg (m - (i + 1))
              case measure => have := HG.out; omega
              case rel => exact ⟨i + 1, by omega, rfl, by go_num, hO⟩
        · obtain rfl : m = i := by omega
          have hlt' : ¬ (m : Int) < (m : Int) := by omega
          have hfin : (List.range nf).map (outE ys (eR row m 0)) = outL fr ys L := by
            have hn := HN.out.1
            subst hn
            unfold outL
            refine List.map_congr_left fun j _ => ?_
            unfold outF
            refine sumN_congr fun k _ => ?_
            rw [eR_zero]
            show (if itF ys k = j then sumT (ofT k) (row.take m) else 0) = _
            rw [HLen.out, blF, if_neg (show ¬ ys.length = 1 by have := HN.out.2.1; omega), HN.out.2.2.2, ← HN.out.2.1]
          rw [hfin] at hO
          clear hfin
          have hO9 := hO.rebase hbW
          go_wp2_with fail
          go_ret
          exact ⟨_, nf, rfl, hO9⟩
end Go.Proofs.YtfcefhaaphieeaaGreat
