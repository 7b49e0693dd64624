/-
  Walks: the law BuildLeast.
-/
import Derived.Test.YtolcekbldpdmpaaBuildF
import Derived.Test.YtolcekbldpdmpaaCanonA
namespace Go.Proofs.Ytolcekbldpdmpaa
open Go.RowKit

theorem may_out {fr ys : List Int} {L : Nat} (hI : Items fr ys) (hL : 1 ≤ L) (hn : ys.length ≤ 2 ^ L) (hL15 : L ≤ 15) : MayP fr (outL fr ys L) L := by
  refine ⟨outL_length, fun i hi => ?_, ?_⟩
  · rw [outL_nth i hi]
    refine ⟨out_le hI hL hn i hi, fun h0 e => ?_⟩
    have := (out_pos hI hL hn hi).1 e
    omega
  · have h1 : mayS (outL fr ys L) fr.length = kraft (outL fr ys L) := by
      conv => rhs; unfold outL
      rw [map_range_kraft]
      unfold mayS
      exact sumN_congr fun i hi => by rw [outL_nth i hi]
    rw [h1, out_kraft hI hL hn hL15]
    split
    · omega
    · split <;> omega
theorem cost_out {fr ys : List Int} {L : Nat} (hI : Items fr ys) (hL : 1 ≤ L) (hn : ys.length ≤ 2 ^ L) (hL15 : L ≤ 15) {o : List Nat} (ho : MayP fr o L) : costL fr (outL fr ys L) fr.length ≤ costL fr o fr.length := by
  have h1 : costL fr (outL fr ys L) fr.length = sumN (fun i => (nthI fr i).toNat * outF fr ys L i) fr.length := sumN_congr fun i hi => by rw [outL_nth i hi]
  rw [h1]
  exact out_least hI hL hn hL15 o ho.2.1 ho.2.2

set_option maxRecDepth 100000 in
set_option maxHeartbeats 4000000 in
theorem law_bleast' (F : Option Addr) (fr : List Int) (cF : Nat) (most : Int) (O : Option Addr) (o : List Nat) (cO : Nat) (w : World) (nl no : Nat) (hnl : nl = fr.length) (hno : no = o.length) (hF : Rd w F (ints fr)) (hlm : nl ≤ maxLen) (h1 : -9223372036854775808 ≤ most) (h2 : most ≤ 9223372036854775807)
    (hO : Bs w O o) (hom : no ≤ maxLen) :
    Calls Try.prog 7 #[.slice F nl cF, .int .i64 most, .slice O no cO] w fun e w' => e = .returned (.bool true) ∧ Below w.heap.size w w' := by
  unfold maxLen at hlm hom
  have HV := Lib.hid balive_any
  have HN := Lib.hid (And.intro hnl hno)
  clear hnl hno
  by_cases hbig : 400 < nl
  · have d1 : decide ((nl : Int) > 400) = true := decide_eq_true (by omega)
    go_enter Try.func7, Try.ntmps7
    go_wp2_with fail
    refine (HV.out _).mono ?_
    rintro e w1 ⟨rfl, b1⟩
    go_wp2_with fail
    go_ret
    exact ⟨rfl, b1⟩
  · have d1 : decide ((nl : Int) > 400) = false := decide_eq_false (by omega)
    have g1 : nl ≤ 400 := by omega
    have HQ := Lib.hid (fun wx (h : Rd wx F (ints fr)) => lengths_is F nl cF fr most wx h HN.out.1 (by omega) h1 h2)
    clear hbig
    go_enter Try.func7, Try.ntmps7
    go_wp2_with fail
    refine (HV.out _).mono ?_
    rintro e w1 ⟨rfl, b1⟩
    have hF1 := hF.below b1
    have hO1 := hO.below b1
    go_wp2_with fail
    refine (HQ.out _ hF1).mono ?_
    rintro e w2 (⟨hE, rfl, b2⟩ | ⟨hE, A, c, ys, hI, hyl, rfl, hB⟩)
    · have hne : (((askE fr most : Nat) : Int) != 0) = true := by rw [bne_iff_ne]; omega
      have hb2 := b1.trans (b2.mono b1.size)
      generalize askE fr most = E at *
      go_wp2_with fail
      go_ret
      exact ⟨rfl, hb2⟩
    · have hb2 := b1.trans (hB.1.mono b1.size)
      have hF2 := hF1.below hB.1
      have hO2 := hO1.below hB.1
      rw [← HN.out.1] at hB ⊢
      obtain ⟨a1, a2, a3, a4, a5⟩ := askE_ok hE
      obtain ⟨L, rfl⟩ : ∃ L : Nat, most = (L : Int) := ⟨most.toNat, by omega⟩
      rw [Int.toNat_natCast] at hB a5
      have hL1 : 1 ≤ L := by omega
      have hL15 : L ≤ 15 := by omega
      have hn2 : ys.length ≤ 2 ^ L := by omega
      have hm1 := may_out hI hL1 hn2 hL15
      have hcan := out_can hI hL1 hn2 hL15 (by omega)
      have HC := Lib.hid (fun (ho : MayP fr o L) => cost_out hI hL1 hn2 hL15 ho)
      have hlb : ∀ x ∈ outL fr ys L, x < 256 := fun x hx => by
        obtain ⟨i, hi, rfl⟩ := List.mem_map.1 hx
        have := out_le hI hL1 hn2 i (by simpa using hi)
        omega
      have hln : nl = (outL fr ys L).length := by rw [outL_length]; exact HN.out.1
      have hBs := rd_u8 hB.rd hlb
      obtain ⟨o1, ho1⟩ : ∃ o1, outL fr ys L = o1 := ⟨_, rfl⟩
      rw [ho1] at hm1 hcan HC hBs hln
      have HM1 := Lib.hid (may_is F nl cF fr A nl c o1 L w2 hF2 hBs HN.out.1 hln (by omega) hL15 (by omega) a4)
      have HM2 := Lib.hid (may_is F nl cF fr O no cO o L w2 hF2 hO2 HN.out.1 HN.out.2 (by omega) hL15 (by omega) a4)
      have HCk := Lib.hid (check_any A c o1 L w2 hBs (by omega) (by omega) (by omega))
      rw [hcan, ← hln] at HCk
      have HCo1 := Lib.hid (fun q => cost_is F nl cF fr A c o1 (w2.drewN q) (hF2.drewN q) ⟨hBs.1, hBs.2⟩ HN.out.1 hln (by omega) a4)
      have HCo2 := Lib.hid (fun q (h : nl = o.length) => cost_is F nl cF fr O cO o (w2.drewN q) (hF2.drewN q) ⟨hO2.1, hO2.2⟩ HN.out.1 h (by omega) a4)
      have HM := Lib.hid hm1
      clear hm1 hcan hBs hlb hI hyl hE ho1 a1 a2 a3 a4 a5 hB HQ HV hF1 hF hO1 hO hF2 hO2 hln h1 h2 hn2
      go_wp2_with fail
      refine (HM1.out).mono ?_
      rintro e w3 ⟨bb, rfl, hbb, rfl⟩
      obtain rfl : bb = true := hbb.2 HM.out
      go_wp2_with fail
      refine (HCk.out).mono ?_
      rintro e w4 ⟨rfl, rfl⟩
      go_wp2_with fail
      refine (HM2.out).mono ?_
      rintro e w5 ⟨b2, rfl, hb5, rfl⟩
      cases b2
      · go_wp2_with fail
        go_ret
        exact ⟨rfl, hb2⟩
      · have hmo := hb5.1 rfl
        have hlo : no = nl := by have := hmo.1; have := HN.out.1; have := HN.out.2; omega
        have hle := HC.out hmo
        rw [← HN.out.1] at hle
        have HCa := HCo1.out 0
        have HCb := fun q => HCo2.out q (by have := HN.out.2; omega)
        rw [hlo]
        generalize costL fr o1 nl = s1 at *
        generalize costL fr o nl = s2 at *
        have hd : decide ((s1 : Int) ≤ (s2 : Int)) = true := decide_eq_true (by omega)
        have HA := Lib.hid HCa
        have HB2 := Lib.hid HCb
        clear HCa HCb hb5 hmo HC HCo1 HCo2 HM1 HM2
        go_wp2_with fail
        refine (HA.out).mono ?_
        rintro e w6 ⟨rfl, q, rfl⟩
        go_wp2_with fail
        refine (HB2.out _).mono ?_
        rintro e w7 ⟨rfl, q2, rfl⟩
        go_wp2_with fail
        go_ret
        exact ⟨rfl, below_drewN' hb2 _⟩

theorem law_bleast (F : Option Addr) (fr : List Int) (cF : Nat) (most : Int) (O : Option Addr) (o : List Nat) (cO : Nat) (w : World) (hF : InIs w F cF fr) (h1 : -9223372036854775808 ≤ most) (h2 : most ≤ 9223372036854775807) (hO : InBs w O o) :
    Calls Try.prog 7 #[.slice F fr.length cF, .int .i64 most, .slice O o.length cO] w fun e w' => e = .returned (.bool true) ∧ Below w.heap.size w w' :=
  law_bleast' F fr cF most O o cO w _ _ rfl rfl hF.rd hF.len h1 h2 hO.1 hO.2.2
end Go.Proofs.Ytolcekbldpdmpaa
