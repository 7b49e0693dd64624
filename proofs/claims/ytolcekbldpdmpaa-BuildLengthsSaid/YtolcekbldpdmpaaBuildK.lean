/-
  Walks: the document's Made, Lengths; the law BuildLengths.
-/
import Derived.Test.YtolcekbldpdmpaaBuildJ
import Derived.Test.YtolcekbldpdmpaaOpenI
namespace Go.Proofs.Ytolcekbldpdmpaa
open Go.RowKit

theorem items_len {fr ys : List Int} (h : Items fr ys) : ys.length = (posL fr fr.length).length := by
  have hp := posL_ok fr fr.length (Nat.le_refl _)
  have d1 : ys.Nodup := h.asc.imp (fun {a b} hab e => by subst e; exact LX.irr hab)
  have d2 : (posL fr fr.length).Nodup := hp.up.imp (fun {a b} hab e => by omega)
  refine ((List.perm_ext_iff_of_nodup d1 d2).2 fun x => ?_).length_eq
  constructor
  · intro hx
    obtain ⟨r1, r2, r3⟩ := h.rng x hx
    have := (hp.mem x.toNat (by omega) (by omega)).1 r3
    rwa [Int.toNat_of_nonneg r1] at this
  · intro hx
    obtain ⟨r1, _, r2, r3⟩ := hp.rng x hx
    have := (h.mem x.toNat (by omega)).1 r3
    rwa [Int.toNat_of_nonneg r1] at this

set_option maxRecDepth 100000 in
set_option maxHeartbeats 4000000 in
theorem made_is (F : Option Addr) (nf cF : Nat) (fr : List Int) (L : Nat) (w : World) (hF : Rd w F (ints fr)) (hn : nf = fr.length) (hE : askE fr L = 0) :
    Calls Try.prog 19 #[.slice F nf cF, .int .i64 (L : Int)] w fun e w' => ∃ A c ys, e = .returned (.slice A nf c) ∧ Builds w w' 5 1 A nf c (u8s (outL fr ys L)) ∧ Items fr ys := by
  obtain ⟨a1, a2, a3, a4, a5⟩ := askE_ok hE
  rw [Int.toNat_natCast] at a5
  have HI := Lib.hid (ritems_is F nf cF fr w hF hn (by omega))
  have HN := Lib.hid (And.intro hn (And.intro a4 a5))
  have hnf : nf ≤ 320 := by omega
  have hL : 1 ≤ L ∧ L ≤ 15 := by omega
  have HP := Lib.hid (posL_len fr fr.length)
  clear hn hE a1 a2 a3 a4 a5
  go_enter Try.func19, Try.ntmps19
  go_wp2_with fail
  refine (HI.out).mono ?_
  rintro e w1 ⟨I, cI, ys, rfl, hB, hI⟩
  obtain ⟨ni, hni⟩ : ∃ ni, ys.length = ni := ⟨_, rfl⟩
  rw [hni] at hB ⊢
  have hlen := items_len hI
  have hnif : ni ≤ nf := by have := HP.out; have := HN.out.1; omega
  have hnL : ni ≤ 2 ^ L := by have := HN.out.2.2; omega
  have HY := Lib.hid (And.intro hI hni)
  have hF1 := hF.below hB.1
  clear hI hni hlen HI HP
  by_cases h2 : 2 ≤ ni
  · have e1 : decide ((ni : Int) ≥ 2) = true := decide_eq_true (by omega)
    have HL := Lib.hid (least_is F nf cF fr I ni cI ys L w1 hF1 hB.rd HN.out.1 HY.out.2.symm HY.out.1 hL.1 hL.2 h2 hnL hnf hnif HN.out.2.1)
    have e2 : (2 : Int) ≤ (ni : Int) := by omega
    clear hnL
    go_wp2_with fail
    refine (HL.out).mono ?_
    rintro e w2 ⟨A, c, rfl, hO⟩
    go_wp2_with fail
    go_ret
    exact ⟨A, c, ys, rfl, hO.rebase hB.1, HY.out.1⟩
  · have e1 : decide ((ni : Int) ≥ 2) = false := decide_eq_false (by omega)
    have e2 : ¬ (2 : Int) ≤ (ni : Int) := by omega
    clear hnL
    go_upto_region 5 with (at_make; refine makes elem_u8 (z := .int .u8 0) (by kernel_rfl) rfl _ _ rfl nf rfl rfl rfl (by omega) (by omega) (u8s (List.replicate nf 0)) (made_bytes2 nf) ?_; intro w5 hO)
    have hB5 := hB.below hO.1
    obtain ⟨GO, hGO⟩ : ∃ GO, w1.heap.size = GO := ⟨_, rfl⟩
    rw [hGO] at hO ⊢
    clear hGO
    by_cases h1 : ni = 1
    · subst h1
      obtain ⟨g, rfl, hg1, hg2⟩ := hB5.at_ (by omega)
      have hy0 := HY.out.1.rng (nthI ys 0) (by rw [nthI_el (by have := HY.out.2; omega)]; exact List.getElem_mem _)
      have ci := Builds.cell hB5 0 (by omega)
      rw [ints_get ys 0 (by have := HY.out.2; omega)] at ci
      obtain ⟨i0, hi0⟩ : ∃ i0 : Nat, nthI ys 0 = (i0 : Int) := ⟨(nthI ys 0).toNat, by omega⟩
      rw [hi0] at ci hy0
      have hi0n : i0 < nf := by have := HN.out.1; omega
      have co := Builds.cell hO i0 (by omega)
      rw [u8s_get _ _ (by simpa using hi0n)] at co
      have fo := Builds.free hO i0
      have hO2 := Builds.set hO i0 (by omega) (.int .u8 1)
      have HI0 := Lib.hid hi0
      clear hi0 hy0
      go_wp2_with fail
      go_ret
      refine ⟨_, nf, ys, rfl, ?_, HY.out.1⟩
      rw [outL_one HY.out.2, ← HN.out.1, show itF ys 0 = i0 by unfold itF; rw [HI0.out]; rfl]
      rw [show (u8s (List.replicate nf 0)).set i0 (.int .u8 1) = u8s ((List.replicate nf 0).set i0 1) by simp [u8s, List.map_set]] at hO2
      exact hO2.rebase hB.1
    · have h0 : ni = 0 := by omega
      have e3 : ((ni : Int) == 1) = false := by rw [beq_eq_false_iff_ne]; omega
      go_wp2_with fail
      go_ret
      refine ⟨_, nf, ys, rfl, ?_, HY.out.1⟩
      rw [outL_none (by rw [HY.out.2]; exact h0), ← HN.out.1]
      exact hO.rebase hB.1

set_option maxRecDepth 100000 in
set_option maxHeartbeats 2000000 in
theorem rlengths_is (F : Option Addr) (nf cF : Nat) (fr : List Int) (most : Int) (w : World) (hF : Rd w F (ints fr)) (hn : nf = fr.length) (hs : nf ≤ 1000000) (h1 : -9223372036854775808 ≤ most) (h2 : most ≤ 9223372036854775807) :
    Calls Try.prog 12 #[.slice F nf cF, .int .i64 most] w fun e w' => LenRes w w' e fr most := by
  have HA := Lib.hid (rasked_is F nf cF fr most w hF hn hs h1 h2)
  have HN := Lib.hid hn
  by_cases hE : askE fr most = 0
  · obtain ⟨a1, a2, _⟩ := askE_ok hE
    obtain ⟨L, rfl⟩ : ∃ L : Nat, most = (L : Int) := ⟨most.toNat, by omega⟩
    have HM := Lib.hid (made_is F nf cF fr L w hF hn hE)
    have HE := Lib.hid hE
    rw [hE] at HA
    clear hE hn a1 a2
    go_enter Try.func12, Try.ntmps12
    go_wp2_with fail
    refine (HA.out).mono ?_
    rintro e w1 ⟨rfl, rfl⟩
    go_wp2_with fail
    refine (HM.out).mono ?_
    rintro e w2 ⟨A, c, ys, rfl, hB, hI⟩
    go_wp2_with fail
    go_returns
    refine .inr ⟨HE.out, A, c, ys, hI, items_len hI, by rw [← HN.out]; rfl, ?_⟩
    rw [← HN.out, Int.toNat_natCast]
    exact hB
  · have hne : (((askE fr most : Nat) : Int) != 0) = true := by rw [bne_iff_ne]; omega
    have HR := Lib.hid (fun e (he : e = Ending.returned (.tuple #[.slice none 0 0, .int .i64 (askE fr most : Nat)])) => show LenRes w w e fr most from .inl ⟨hE, he, Below.refl _ _⟩)
    clear hn hE
    generalize askE fr most = E at *
    go_enter Try.func12, Try.ntmps12
    go_wp2_with fail
    refine (HA.out).mono ?_
    rintro e w1 ⟨rfl, rfl⟩
    go_wp2_with fail
    go_returns
    exact HR.out _ rfl

/-- What is common to both ways. -/
theorem LenRes.shape {w w' : World} {e : Ending} {fr : List Int} {most : Int} (h : LenRes w w' e fr most) : ∃ X n c o, e = .returned (.tuple #[.slice X n c, .int .i64 (askE fr most : Nat)]) ∧ Bs w' X o ∧ (X = none → o = []) ∧ n = o.length ∧ Below w.heap.size w w' ∧ ((askE fr most ≠ 0 ∧ o = []) ∨ (askE fr most = 0 ∧ ∃ ys, Items fr ys ∧ o = outL fr ys most.toNat)) := by
  rcases h with ⟨hE, he, hb⟩ | ⟨hE, A, c, ys, hI, hl, he, hB⟩
  · exact ⟨none, 0, 0, [], he, Bs.nil_, fun _ => rfl, rfl, hb, .inl ⟨hE, rfl⟩⟩
  · obtain ⟨a1, a2, a3, a4, a5⟩ := askE_ok hE
    obtain ⟨L, rfl⟩ : ∃ L : Nat, most = (L : Int) := ⟨most.toNat, by omega⟩
    rw [Int.toNat_natCast] at hB a5
    have hlb : ∀ x ∈ outL fr ys L, x < 256 := fun x hx => by
      obtain ⟨i, hi, rfl⟩ := List.mem_map.1 hx
      have := out_le (L := L) hI (by omega) (by omega) i (by simpa using hi)
      omega
    refine ⟨A, fr.length, c, outL fr ys L, by rw [hE]; exact he, rd_u8 hB.rd hlb, fun e => by have := hB.rd.2 e; simpa [u8s] using this, outL_length.symm, hB.1, .inr ⟨hE, ys, hI, by rw [Int.toNat_natCast]⟩⟩
theorem shape_same {fr : List Int} {most : Int} {o p : List Nat} (h : (askE fr most ≠ 0 ∧ o = []) ∨ (askE fr most = 0 ∧ ∃ ys, Items fr ys ∧ o = outL fr ys most.toNat)) (k : (askE fr most ≠ 0 ∧ p = []) ∨ (askE fr most = 0 ∧ ∃ ys, Items fr ys ∧ p = outL fr ys most.toNat)) : p = o := by
  rcases h with ⟨h, h2⟩ | ⟨h, ys, h1, h2⟩
  · rcases k with ⟨_, k2⟩ | ⟨k, _⟩
    · rw [h2, k2]
    · exact absurd k h
  · rcases k with ⟨k, _⟩ | ⟨_, zs, k1, k2⟩
    · exact absurd h k
    · rw [h2, k2, k1.uniq h1]

set_option maxRecDepth 100000 in
set_option maxHeartbeats 4000000 in
theorem law_blengths' (F : Option Addr) (fr : List Int) (cF : Nat) (most : Int) (w : World) (nl : Nat) (hnl : nl = fr.length) (hF : Rd w F (ints fr)) (hlm : nl ≤ maxLen) (h1 : -9223372036854775808 ≤ most) (h2 : most ≤ 9223372036854775807) :
    Calls Try.prog 4 #[.slice F nl cF, .int .i64 most] w fun e w' => e = .returned (.bool true) ∧ Below w.heap.size w w' := by
  unfold maxLen at hlm
  have HN := Lib.hid hnl
  by_cases hbig : 1000 < nl
  · have d1 : decide ((nl : Int) > 1000) = true := decide_eq_true (by omega)
    clear hnl
    go_enter Try.func4, Try.ntmps4
    go_wp2_with fail
    go_ret
    exact ⟨rfl, Below.refl _ _⟩
  · have d1 : decide ((nl : Int) > 1000) = false := decide_eq_false (by omega)
    have g1 : nl ≤ 1000 := by omega
    have HA := Lib.hid (fun wx (h : Rd wx F (ints fr)) => rasked_is F nl cF fr most wx h hnl (by omega) h1 h2)
    have HR := Lib.hid (fun wx (h : Rd wx F (ints fr)) => rlengths_is F nl cF fr most wx h hnl (by omega) h1 h2)
    have HL := Lib.hid (fun O cO wx (h : Rd wx O (ints fr)) => lengths_is O nl cO fr most wx h hnl (by omega) h1 h2)
    clear hbig hnl
    go_enter Try.func4, Try.ntmps4
    go_wp2_with fail
    go_loopg [5, 6] nl (fun gk v5 v6 wr => ∃ i n : Nat, i ≤ nl ∧ gk = nl - i ∧ v6 = .int .i64 (i : Int) ∧ v5 = .int .i64 (n : Int) ∧ n ≤ i ∧ wr = w)
    case atStart => exact ⟨0, 0, by omega, rfl, rfl, rfl, Nat.le_refl _, rfl⟩
    case round =>
      obtain ⟨i, n, hi, hgk, rfl, rfl, hni, rfl⟩ := hrel
      have HG := Lib.hid hgk
      clear hgk
      by_cases hlt : i < nl
      · have hlt' : (i : Int) < (nl : Int) := by omega
        obtain ⟨b, off, rfl, hcell⟩ := hF.at_ (by rw [ints_length]; have := HN.out; omega)
        have ci := hcell i _ (ints_get fr i (by have := HN.out; omega))
        generalize nthI fr i = x at *
        clear hcell
        by_cases hx : 0 < x
        · have e1 : decide (x > 0) = true := decide_eq_true hx
          go_wp2_with fail
          go_roundg (nl - (i + 1))
          case measure => have := HG.out; omega
          case rel => exact ⟨i + 1, n + 1, by omega, rfl, by go_num, by go_num, by omega, rfl⟩
        · have e1 : decide (x > 0) = false := decide_eq_false hx
          go_wp2_with fail
          go_roundg (nl - (i + 1))
          case measure => have := HG.out; omega
          case rel => exact ⟨i + 1, n, by omega, rfl, by go_num, rfl, by omega, rfl⟩
      · obtain rfl : nl = i := by omega
        have hlt' : ¬ (nl : Int) < (nl : Int) := by omega
        clear hlt hi HG
        have HOw := Lib.hid (show ([] : List Value) ++ ints fr = ints fr from rfl)
        by_cases hsk : 100 < n ∧ askE fr most = 0
        · have e1 : decide ((n : Int) > 100) = true := decide_eq_true (by omega)
          have HA2 := Lib.hid (HA.out wr hF)
          rw [hsk.2] at HA2
          clear hsk
          go_wp2_with fail
          refine (HA2.out).mono ?_
          rintro e w1 ⟨rfl, rfl⟩
          go_wp2_with fail
          go_ret
          exact ⟨rfl, Below.refl _ _⟩
        · have hways : n ≤ 100 ∨ (100 < n ∧ askE fr most ≠ 0) := by omega
          have hgl : (ints fr).length = nl * 1 := by rw [ints_length]; have := HN.out; omega
          clear hsk hni
          rcases hways with y | ⟨y, y2⟩
          case' inl =>
            have e1 : decide ((n : Int) > 100) = false := decide_eq_false (by omega)
            clear y
          case' inr =>
            have e1 : decide ((n : Int) > 100) = true := decide_eq_true (by omega)
            have e0 : (((askE fr most : Nat) : Int) == 0) = false := by rw [beq_eq_false_iff_ne]; omega
            have HA2 := Lib.hid (HA.out wr hF)
            clear y y2
            go_wp2_with fail
            refine (HA2.out).mono ?_
            rintro e w1 ⟨rfl, rfl⟩
          all_goals
            go_wp2_with (at_builtin; refine grow elem_num rfl (.const (.slice none 0 0)) (.tmp 37) rfl rfl (Builds.nil_ _ _ _) rfl hF hgl (ints_one _) nl (by omega) (ints fr) HOw.out (by omega) (by omega) ?_; intro O cO w5 hO hg5)
            refine (HL.out O cO w5 hO.rd).mono ?_
            rintro e w6 h6
            obtain ⟨X, nx, cx, o, rfl, hX, hX0, hnx, hb6, hs6⟩ := h6.shape
            have hF5 := hF.below hO.1
            have hF6 := hF5.below hb6
            have hO6 := hO.below hb6
            have HS6 := Lib.hid hs6
            have HX := Lib.hid (And.intro hX0 hnx)
            clear h6 hs6 hO hF5 hX0 hnx
            go_wp2_with fail
            refine (HR.out w6 hF6).mono ?_
            rintro e w7 h7
            obtain ⟨Y, ny, cy, p, rfl, hY, hY0, hny, hb7, hs7⟩ := h7.shape
            obtain rfl := shape_same HS6.out hs7
            have hF7 := hF6.below hb7
            have hO7 := hO6.below hb7
            have hX7 := hX.below hb7
            have hee : (((askE fr most : Nat) : Int) == ((askE fr most : Nat) : Int)) = true := by rw [beq_iff_eq]
            have HCv := Lib.hid (fun q => And.intro
              (show (convert 24 9 (.slice X nx cx)).run Try.prog (w7.drewN q) = .ok (.string (str p)) (w7.drewN q) from by
                rw [HX.out.2]; exact conv_bytes (P := Try.prog) (w7.drewN q) 24 5 Try.underlying24 Try.underlying5 9 Try.underlying9 X p cx ⟨hX7.1, hX7.2⟩ HX.out.1)
              (show (convert 24 9 (.slice Y ny cy)).run Try.prog (w7.drewN q) = .ok (.string (str p)) (w7.drewN q) from by
                rw [hny]; exact conv_bytes (P := Try.prog) (w7.drewN q) 24 5 Try.underlying24 Try.underlying5 9 Try.underlying9 Y p cy ⟨hY.1, hY.2⟩ hY0))
            clear hX hX7 hY hY0 hny hs7 h7 hF6 hO6 HL HR HA
            go_wp2_with fail
            go_loopg [12] nl (fun gk v12 wr2 => ∃ k : Nat, k ≤ nl ∧ gk = nl - k ∧ v12 = .int .i64 (k : Int) ∧ ∃ q, wr2 = w7.drewN q)
            case atStart => exact ⟨0, by omega, rfl, rfl, 0, rfl⟩
            case round =>
              obtain ⟨k, hk, hgk, rfl, q, rfl⟩ := hrel
              have HG := Lib.hid hgk
              clear hgk
              by_cases hlt : k < nl
              · have hlt' : (k : Int) < (nl : Int) := by omega
                obtain ⟨b, off, hFe, hcell⟩ := hF7.at_ (by rw [ints_length]; have := HN.out; omega)
                obtain ⟨g, hOe, hg1, hg2⟩ := hO7.at_ (by omega)
                subst hFe
                subst hOe
                have c1 : (w7.drewN q).cell? ⟨b, off + k, none⟩ = some (.int .i64 (nthI fr k)) := hcell k _ (ints_get fr k (by have := HN.out; omega))
                have c2 : (w7.drewN q).cell? ⟨g, k, none⟩ = some (.int .i64 (nthI fr k)) := by
                  have := Builds.cell hO7 k (by omega)
                  rw [ints_get fr k (by have := HN.out; omega)] at this
                  exact this
                have hx : (nthI fr k != nthI fr k) = false := by simp
                generalize nthI fr k = x at *
                clear hcell
                generalize hw0 : w7.drewN q = w0 at *
                have HW0 := Lib.hid hw0
                clear hw0
                go_wp2_with fail
                go_quiet (fail)
                go_wp2_with fail
                go_roundg (nl - (k + 1))
                case measure => have := HG.out; omega
                case rel => exact ⟨k + 1, by omega, rfl, by go_num, q + nq, by rw [← HW0.out, World.drewN_drewN]⟩
              · obtain rfl : nl = k := by omega
                have hlt' : ¬ (nl : Int) < (nl : Int) := by omega
                obtain ⟨v1, v2⟩ := HCv.out q
                have hbf := below_drewN' (hO7.1) q
                go_wp2_with fail
                go_ret
                exact ⟨rfl, hbf⟩

theorem law_blengths (F : Option Addr) (fr : List Int) (cF : Nat) (most : Int) (w : World) (hF : InIs w F cF fr) (h1 : -9223372036854775808 ≤ most) (h2 : most ≤ 9223372036854775807) :
    Calls Try.prog 4 #[.slice F fr.length cF, .int .i64 most] w fun e w' => e = .returned (.bool true) ∧ Below w.heap.size w w' :=
  law_blengths' F fr cF most w _ rfl hF.rd hF.len h1 h2
end Go.Proofs.Ytolcekbldpdmpaa
