/-
  Walks: the document's Made, Lengths; the law BuildLengths.
-/
import Derived.Test.YtfcefhaaphieeaaGreatG39
import Derived.Test.YtfcefhaaphieeaaGreatGOpenI
namespace Go.Proofs.YtfcefhaaphieeaaGreat
open Go.RowKit

theorem items_len {fr ys : List Int} (h : Items fr ys) : ys.length = (posL fr fr.length).length := by
  have hp := posL_ok fr fr.length (Nat.le_refl _)
  have d1 : ys.Nodup := h.asc.imp (fun {a b} hab e => by subst e; exact LX.irr hab)
  have d2 : (posL fr fr.length).Nodup := hp.up.imp (fun {a b} hab e => by omega)
  refine ((List.perm_ext_iff_of_nodup d1 d2).2 fun x => ?_).length_eq
  constructor
  · intro hx
    obtain ⟨r1, r2, r3⟩ := h.rng x hx
    have := (hp.mem x.toNat (by omega) (by omega)).1 r3
    rwa [Int.toNat_of_nonneg r1] at this
  · intro hx
    obtain ⟨r1, _, r2, r3⟩ := hp.rng x hx
    have := (h.mem x.toNat (by omega)).1 r3
    rwa [Int.toNat_of_nonneg r1] at this

set_option maxRecDepth 100000 in
set_option maxHeartbeats 4000000 in
theorem made_is (F : Option Addr) (nf cF : Nat) (fr : List Int) (L : Nat) (w : World) (hF : Rd w F (ints fr)) (hn : nf = fr.length) (hE : askE fr L = 0) :
    Calls Tryz.prog 57 #[.slice F nf cF, .int .i64 (L : Int)] w fun e w' => ∃ A c ys, e = .returned (.slice A nf c) ∧ Builds w w' 5 1 A nf c (u8s (outL fr ys L)) ∧ Items fr ys := by
  obtain ⟨a1, a2, a3, a4, a5⟩ := askE_ok hE
  rw [Int.toNat_natCast] at a5
  have HI := Lib.hid (ritems_is F nf cF fr w hF hn (by omega))
  have HN := Lib.hid (And.intro hn (And.intro a4 a5))
  have hnf : nf ≤ 320 := by omega
  have hL : 1 ≤ L ∧ L ≤ 15 := by omega
  have HP := Lib.hid (posL_len fr fr.length)
  clear hn hE a1 a2 a3 a4 a5
  go_enter Tryz.func57, Tryz.ntmps57
  go_wp2_with fail
  refine (HI.out).mono ?_
  rintro e w1 ⟨I, cI, ys, rfl, hB, hI⟩
  obtain ⟨ni, hni⟩ : ∃ ni, ys.length = ni := ⟨_, rfl⟩
  rw [hni] at hB ⊢
  have hlen := items_len hI
  have hnif : ni ≤ nf := by have := HP.out; have := HN.out.1; omega
  have hnL : ni ≤ 2 ^ L := by have := HN.out.2.2; omega
  have HY := Lib.hid (And.intro hI hni)
  have hF1 := hF.below hB.1
  clear hI hni hlen HI HP
  by_cases h2 : 2 ≤ ni
  · have e1 : decide ((ni : Int) ≥ 2) = true := decide_eq_true (by omega)
    have HL := Lib.hid (least_is F nf cF fr I ni cI ys L w1 hF1 hB.rd HN.out.1 HY.out.2.symm HY.out.1 hL.1 hL.2 h2 hnL hnf hnif HN.out.2.1)
    have e2 : (2 : Int) ≤ (ni : Int) := by omega
    clear hnL
    go_wp2_with fail
    refine (HL.out).mono ?_
    rintro e w2 ⟨A, c, rfl, hO⟩
    go_wp2_with fail
    go_ret
    exact ⟨A, c, ys, rfl, hO.rebase hB.1, HY.out.1⟩
  · have e1 : decide ((ni : Int) ≥ 2) = false := decide_eq_false (by omega)
    have e2 : ¬ (2 : Int) ≤ (ni : Int) := by omega
    clear hnL
    go_upto_region 5 with (at_make; refine makes elem_u8 (z := .int .u8 0) (by kernel_rfl) rfl _ _ rfl nf rfl rfl rfl (by omega) (by omega) (u8s (List.replicate nf 0)) (made_bytes2 nf) ?_; intro w5 hO)
    have hB5 := hB.below hO.1
    obtain ⟨GO, hGO⟩ : ∃ GO, w1.heap.size = GO := ⟨_, rfl⟩
    rw [hGO] at hO ⊢
    clear hGO
    by_cases h1 : ni = 1
    · subst h1
      obtain ⟨g, rfl, hg1, hg2⟩ := hB5.at_ (by omega)
      have hy0 := HY.out.1.rng (nthI ys 0) (by rw [nthI_el (by have := HY.out.2; omega)]; exact List.getElem_mem _)
      have ci := Builds.cell hB5 0 (by omega)
      rw [ints_get ys 0 (by have := HY.out.2; omega)] at ci
      obtain ⟨i0, hi0⟩ : ∃ i0 : Nat, nthI ys 0 = (i0 : Int) := ⟨(nthI ys 0).toNat, by omega⟩
      rw [hi0] at ci hy0
      have hi0n : i0 < nf := by have := HN.out.1; omega
      have co := Builds.cell hO i0 (by omega)
      rw [u8s_get _ _ (by simpa using hi0n)] at co
      have fo := Builds.free hO i0
      have hO2 := Builds.set hO i0 (by omega) (.int .u8 1)
      have HI0 := Lib.hid hi0
      clear hi0 hy0
      go_wp2_with fail
      go_ret
      refine ⟨_, nf, ys, rfl, ?_, HY.out.1⟩
      rw [outL_one HY.out.2, ← HN.out.1, show itF ys 0 = i0 by unfold itF; rw [HI0.out]; rfl]
      rw [show (u8s (List.replicate nf 0)).set i0 (.int .u8 1) = u8s ((List.replicate nf 0).set i0 1) by simp [u8s, List.map_set]] at hO2
      exact hO2.rebase hB.1
    · have h0 : ni = 0 := by omega
      have e3 : ((ni : Int) == 1) = false := by rw [beq_eq_false_iff_ne]; omega
      go_wp2_with fail
      go_ret
      refine ⟨_, nf, ys, rfl, ?_, HY.out.1⟩
      rw [outL_none (by rw [HY.out.2]; exact h0), ← HN.out.1]
      exact hO.rebase hB.1

/-- What is common to both ways. -/
theorem LenRes.shape {w w' : World} {e : Ending} {fr : List Int} {most : Int} (h : LenRes w w' e fr most) : ∃ X n c o, e = .returned (.tuple #[.slice X n c, .int .i64 (askE fr most : Nat)]) ∧ Bs w' X o ∧ (X = none → o = []) ∧ n = o.length ∧ Below w.heap.size w w' ∧ ((askE fr most ≠ 0 ∧ o = []) ∨ (askE fr most = 0 ∧ ∃ ys, Items fr ys ∧ o = outL fr ys most.toNat)) := by
  rcases h with ⟨hE, he, hb⟩ | ⟨hE, A, c, ys, hI, hl, he, hB⟩
  · exact ⟨none, 0, 0, [], he, Bs.nil_, fun _ => rfl, rfl, hb, .inl ⟨hE, rfl⟩⟩
  · obtain ⟨a1, a2, a3, a4, a5⟩ := askE_ok hE
    obtain ⟨L, rfl⟩ : ∃ L : Nat, most = (L : Int) := ⟨most.toNat, by omega⟩
    rw [Int.toNat_natCast] at hB a5
    have hlb : ∀ x ∈ outL fr ys L, x < 256 := fun x hx => by
      obtain ⟨i, hi, rfl⟩ := List.mem_map.1 hx
      have := out_le (L := L) hI (by omega) (by omega) i (by simpa using hi)
      omega
    refine ⟨A, fr.length, c, outL fr ys L, by rw [hE]; exact he, rd_u8 hB.rd hlb, fun e => by have := hB.rd.2 e; simpa [u8s] using this, outL_length.symm, hB.1, .inr ⟨hE, ys, hI, by rw [Int.toNat_natCast]⟩⟩
theorem shape_same {fr : List Int} {most : Int} {o p : List Nat} (h : (askE fr most ≠ 0 ∧ o = []) ∨ (askE fr most = 0 ∧ ∃ ys, Items fr ys ∧ o = outL fr ys most.toNat)) (k : (askE fr most ≠ 0 ∧ p = []) ∨ (askE fr most = 0 ∧ ∃ ys, Items fr ys ∧ p = outL fr ys most.toNat)) : p = o := by
  rcases h with ⟨h, h2⟩ | ⟨h, ys, h1, h2⟩
  · rcases k with ⟨_, k2⟩ | ⟨k, _⟩
    · rw [h2, k2]
    · exact absurd k h
  · rcases k with ⟨k, _⟩ | ⟨_, zs, k1, k2⟩
    · exact absurd h k
    · rw [h2, k2, k1.uniq h1]

end Go.Proofs.YtfcefhaaphieeaaGreat
