/-
  Walks: BlockStored.
-/
import Derived.Test.YtfcefhaaphieeaaG39
import Derived.Test.YtfcefhaaphieeaaG40
import Derived.Test.YtfcefhaaphieeaaGExt
import Derived.Test.YtfcefhaaphieeaaGOpenK
namespace Go.Proofs.Ytfcefhaaphieeaa
open Go.RowKit

set_option maxRecDepth 100000 in
set_option maxHeartbeats 4000000 in
/-- Where nothing is asked. -/
theorem stored_out (A : Option Addr) (pn pc : Nat) (pb : Int) (R : Option Addr) (rn rc : Nat) (T : Option Addr) (n c : Nat) (w : World) (h : 500 < pn ∨ 500 < rn ∨ 200 < n) :
    Calls Try.prog 6 #[.agg #[.slice A pn pc, .int .i64 pb], .slice R rn rc, .slice T n c] w fun e w' => e = .returned (.bool true) ∧ Below w.heap.size w w' := by
  have hw : (500 < pn) ∨ (¬ 500 < pn ∧ 500 < rn) ∨ (¬ 500 < pn ∧ ¬ 500 < rn ∧ 200 < n) := by omega
  clear h
  rcases hw with h1 | ⟨h1, h2⟩ | ⟨h1, h2, h3⟩
  case' inl => have d1 : decide ((pn : Int) > 500) = true := decide_eq_true (by omega)
  case' inr.inl =>
    have d1 : decide ((pn : Int) > 500) = false := decide_eq_false (by omega)
    have d2 : decide ((rn : Int) > 500) = true := decide_eq_true (by omega)
  case' inr.inr =>
    have d1 : decide ((pn : Int) > 500) = false := decide_eq_false (by omega)
    have d2 : decide ((rn : Int) > 500) = false := decide_eq_false (by omega)
    have d3 : decide ((n : Int) > 200) = true := decide_eq_true (by omega)
  all_goals
    go_enter Try.func6, Try.ntmps6
    go_wp2_with fail
    refine (balive11_any _).mono ?_
    rintro e w1 ⟨rfl, hb1⟩
    obtain ⟨b1, z1, k1⟩ := box1 hb1
    have c1 := Blk.cells k1
    go_wp2_with fail
    go_ret
    exact ⟨rfl, b1⟩

set_option maxRecDepth 100000 in
set_option maxHeartbeats 4000000 in
/-- A pen that may not be. -/
theorem stored_bad (A : Option Addr) (pn pc : Nat) (pl : List Nat) (pb : Int) (R : Option Addr) (rn rc : Nat) (raw : List Nat) (T : Option Addr) (n c : Nat) (w : World) (hA : Rd w A (u8s pl)) (hR : Rd w R (u8s raw)) (h1 : pn ≤ 500) (h2 : rn ≤ 500) (h3 : n ≤ 200)
    (HC0 : ∀ wx, Rd wx A (u8s pl) → Calls Try.prog 21 #[.agg #[.slice A pn pc, .int .i64 pb]] wx fun e w' => e = .returned (.int .i64 8) ∧ Below wx.heap.size wx w')
    (HW0 : ∀ wx, Rd wx A (u8s pl) → Rd wx R (u8s raw) → Calls Try.prog 19 #[.agg #[.slice A pn pc, .int .i64 pb], .int .u8 0, .slice R rn rc, .slice none 0 0, .bool false] wx fun e w' => Below wx.heap.size wx w' ∧ ∃ X cx, e = .returned (.tuple #[.agg #[.slice X 0 cx, .int .i64 0], .int .i64 8])) :
    Calls Try.prog 6 #[.agg #[.slice A pn pc, .int .i64 pb], .slice R rn rc, .slice T n c] w fun e w' => e = .returned (.bool true) ∧ Below w.heap.size w w' := by
  have d1 : decide ((pn : Int) > 500) = false := decide_eq_false (by omega)
  have d2 : decide ((rn : Int) > 500) = false := decide_eq_false (by omega)
  have d3 : decide ((n : Int) > 200) = false := decide_eq_false (by omega)
  have HC := Lib.hid HC0
  have HW := Lib.hid HW0
  clear HC0 HW0
  go_enter Try.func6, Try.ntmps6
  go_wp2_with fail
  refine (balive11_any _).mono ?_
  rintro e w1 ⟨rfl, hb1⟩
  obtain ⟨b1, z1, k1⟩ := box1 hb1
  have c1 := Blk.cells k1
  clear hb1
  go_wp2_with fail
  refine (HW.out _ (hA.below b1) (hR.below b1)).mono ?_
  rintro e w2 ⟨hb2, X, cx, rfl⟩
  have k1 := Blk.below k1 hb2 z1
  have b2 := b1.trans (hb2.mono b1.size)
  have z1 := Blk.lt k1
  have c1 := Blk.cells k1
  clear hb2 b1
  go_wp2_with fail
  refine (HC.out _ ((hA.below b2).alloc _)).mono ?_
  rintro e w3 ⟨rfl, hb3⟩
  obtain ⟨b3, z3, k3⟩ := box1 hb3
  go_wp2_with fail
  go_ret
  exact ⟨rfl, b2.trans (b3.mono b2.size)⟩

set_option maxRecDepth 100000 in
set_option maxHeartbeats 8000000 in
/-- The walk, its callees' answers given. -/
theorem stored_walk (A : Option Addr) (pn pc : Nat) (pl : List Nat) (b : Nat) (R : Option Addr) (rn rc : Nat) (raw : List Nat) (T : Option Addr) (n c : Nat) (l : List Tk) (w : World) (hA : Rd w A (u8s pl)) (hR : Rd w R (u8s raw)) (hT : Rd w T (tkV l)) (h1 : pn ≤ 500) (h2 : rn ≤ 500) (h3 : n ≤ 200)
    (M : List Nat) (q NM : Nat) (a0 a1 a2 a3 : Nat) (bk E1 N2 E2 : Nat) (hb4 : b ≤ 4000) (hq : (b + 3 + 7) / 8 = q) (hNM : NM = 8 * (q + 4 + rn)) (hrn : rn = raw.length) (hrx : ∀ x ∈ raw, x < 256) (ha : a0 + 256 * a1 = rn) (ha2 : a0 + 256 * a1 + (a2 + 256 * a3) = 65535) (ha3 : a0 < 256 ∧ a1 < 256 ∧ a2 < 256 ∧ a3 < 256)
    (hd : M.drop q = a0 :: a1 :: a2 :: a3 :: raw) (hMl : M.length = q + 4 + rn) (hE : E1 ≠ 0 ∨ (E1 = 0 ∧ E2 = 0 ∧ N2 ≤ NM - b)) (hN2 : N2 ≤ 100000000)
    (HW0 : ∀ wx, Rd wx A (u8s pl) → Rd wx R (u8s raw) → Calls Try.prog 19 #[.agg #[.slice A pn pc, .int .i64 (b : Int)], .int .u8 0, .slice R rn rc, .slice none 0 0, .bool false] wx fun e w' => ∃ X cx, e = .returned (.tuple #[.agg #[.slice X (q + 4 + rn) cx, .int .i64 (NM : Int)], .int .i64 0]) ∧ Builds wx w' 5 1 X (q + 4 + rn) cx (u8s M))
    (HB0 : ∀ wx, Rd wx R (u8s raw) → Rd wx T (tkV l) → Calls Try.prog 11 #[.int .i64 ((b : Int) % 8), .slice R rn rc, .slice T n c] wx fun e w' => e = .returned (.tuple #[.int .u8 (bk : Int), .int .i64 (E1 : Int)]) ∧ Below wx.heap.size wx w')
    (HL0 : ∀ wx, Rd wx R (u8s raw) → Rd wx T (tkV l) → Calls Try.prog 9 #[.int .i64 ((b : Int) % 8), .int .u8 (bk : Int), .slice R rn rc, .slice T n c] wx fun e w' => e = .returned (.tuple #[.int .i64 (N2 : Int), .int .i64 (E2 : Int)]) ∧ Below wx.heap.size wx w') :
    Calls Try.prog 6 #[.agg #[.slice A pn pc, .int .i64 (b : Int)], .slice R rn rc, .slice T n c] w fun e w' => e = .returned (.bool true) ∧ Below w.heap.size w w' := by
  have d1 : decide ((pn : Int) > 500) = false := decide_eq_false (by omega)
  have d2 : decide ((rn : Int) > 500) = false := decide_eq_false (by omega)
  have d3 : decide ((n : Int) > 200) = false := decide_eq_false (by omega)
  have HW := Lib.hid HW0
  have HB := Lib.hid HB0
  have HL := Lib.hid HL0
  have hqi : ((b : Int) + 3 + 7) / 8 = (q : Int) := by omega
  have HD := Lib.hid hd
  have HMl := Lib.hid hMl
  have HRn := Lib.hid (And.intro hrn hrx)
  have HEE := Lib.hid hE
  have HNM := Lib.hid hNM
  have hNMb : NM ≤ 100000 := by omega
  obtain ⟨nM, hnM⟩ : ∃ nM, q + 4 + rn = nM := ⟨_, rfl⟩
  have HNm := Lib.hid hnM
  have hq5 : q ≤ 501 := by omega
  rw [hnM] at HW HMl
  clear HW0 HB0 HL0 hd hMl hrn hrx hE hq hnM hNM
  go_enter Try.func6, Try.ntmps6
  go_wp2_with fail
  refine (balive11_any _).mono ?_
  rintro e w1 ⟨rfl, hb1⟩
  obtain ⟨b1, z1, k1⟩ := box1 hb1
  have c1 := Blk.cells k1
  clear hb1
  go_wp2_with fail
  refine (HW.out _ (hA.below b1) (hR.below b1)).mono ?_
  rintro e w2 ⟨X, cx, rfl, hX⟩
  have k1 := Blk.below k1 hX.1 z1
  have b2 := b1.trans (hX.1.mono b1.size)
  have z1 := Blk.lt k1
  have c1 := Blk.cells k1
  have cap := hX.cap
  have rx := hX.rd
  clear hX b1
  go_wp2_with fail
  have k4 : Blk (w2.alloc (.cells #[.slice X nM cx, .int .i64 (NM : Int)] 45)) w2.heap.size 45 #[.slice X nM cx, .int .i64 (NM : Int)] := Blk.new _ _ _
  have k1 := k1.alloc (.cells #[.slice X nM cx, .int .i64 (NM : Int)] 45)
  have b3 : Below w.heap.size w (w2.alloc (.cells #[.slice X nM cx, .int .i64 (NM : Int)] 45)) := b2.alloc b2.size _
  have rx := rx.alloc (.cells #[.slice X nM cx, .int .i64 (NM : Int)] 45)
  generalize w2.alloc (.cells #[.slice X nM cx, .int .i64 (NM : Int)] 45) = w3 at *
  generalize w2.heap.size = g4 at *
  obtain ⟨k, hk⟩ : ∃ k, q + 4 = k := ⟨_, rfl⟩
  obtain ⟨g, off, rfl, hc⟩ := rx.at_ (by rw [u8s_length, HMl.out]; have := HNm.out; omega)
  have hnth : ∀ j, nth M (q + j) = nth (a0 :: a1 :: a2 :: a3 :: raw) j := fun j => by rw [← HD.out]; simp [nth]
  have hlen : ∀ j, j < 4 → q + j < M.length := fun j hj => by rw [HMl.out]; have := HNm.out; omega
  have m0 := hc (q + 0) _ (u8s_get M _ (hlen 0 (by omega)))
  have m1 := hc (q + 1) _ (u8s_get M _ (hlen 1 (by omega)))
  have m2 := hc (q + 2) _ (u8s_get M _ (hlen 2 (by omega)))
  have m3 := hc (q + 3) _ (u8s_get M _ (hlen 3 (by omega)))
  rw [hnth] at m0 m1 m2 m3
  have m0 : w3.cell? ⟨g, off + q, none⟩ = some (.int .u8 (a0 : Int)) := m0
  have m1 : w3.cell? ⟨g, off + (q + 1), none⟩ = some (.int .u8 (a1 : Int)) := m1
  have m2 : w3.cell? ⟨g, off + (q + 2), none⟩ = some (.int .u8 (a2 : Int)) := m2
  have m3 : w3.cell? ⟨g, off + (q + 3), none⟩ = some (.int .u8 (a3 : Int)) := m3
  have hlt : g < w3.heap.size := cell_lt m0
  have z1 := Blk.lt k1
  have c1 := Blk.cells k1
  have z4 := Blk.lt k4
  have c4 : ∀ x : Wx w3, ∀ i, x.w.cell? ⟨g4, i, none⟩ = #[Value.slice (some ⟨g, off, none⟩) nM cx, .int .i64 (NM : Int)][i]? := fun x => Blk.cells (Blk.below k4 x.b z4)
  have zz : ∀ x : Wx w3, g4 < x.w.heap.size := fun x => Nat.lt_of_lt_of_le z4 x.b.size
  have hdk : (u8s M).drop k = u8s raw := by
    unfold u8s
    rw [← List.map_drop, ← hk, ← List.drop_drop, HD.out]; rfl
  have rK := rx.drop k
  rw [hdk] at rK
  have hkn : k ≤ nM := by have := HNm.out; omega
  have hkr : nM - k = rn := by have := HNm.out; omega
  have hkc : (k : Int) ≤ (cx : Int) := by omega
  have rR := hR.below b3
  have hcvR : ∀ x : Wx w3, (convert 22 9 (.slice R rn rc)).run Try.prog x.w = .ok (.string (str raw)) x.w := fun x => by
    have := conv_bytes (P := Try.prog) x.w 22 5 Try.underlying22 Try.underlying5 9 Try.underlying9 R raw rc (rd_u8 (rR.below x.b) HRn.out.2) (fun h => by have := rR.2 h; simpa [u8s] using this)
    rw [← HRn.out.1] at this
    exact this
  have hcvX : ∀ B, Rd w3 B (u8s raw) → ∀ c' (x : Wx w3), (convert 22 9 (.slice B rn c')).run Try.prog x.w = .ok (.string (str raw)) x.w := fun B hB c' x => by
    have := conv_bytes (P := Try.prog) x.w 22 5 Try.underlying22 Try.underlying5 9 Try.underlying9 B raw c' (rd_u8 (hB.below x.b) HRn.out.2) (fun h => by have := hB.2 h; simpa [u8s] using this)
    rw [← HRn.out.1] at this
    exact this
  have HV := Lib.hid hcvX
  have HKN := Lib.hid (And.intro hk (And.intro hkn hkr))
  have k4h := Lib.hid k4
  have k1h := Lib.hid k1
  clear hc hnth hlen hdk k4 k1 hcvX
  have rK : Rd w3 (some ⟨g, off + k, none⟩) (u8s raw) := by have := rK; simpa [add_plain] using this
  have s1 : (q : Int) + 4 = (k : Int) := by omega
  have s2 : (k : Int) + (rn : Int) = (nM : Int) := by omega
  have s3 : 8 * (nM : Int) = (NM : Int) := by have := HNm.out; have := HNM.out; omega
  have HK0 := Lib.hid (And.intro hk hkr)
  have hqb : q ≤ 501 := hq5
  have t1 : (a0 : Int) + 256 * (a1 : Int) = (rn : Int) := by omega
  obtain ⟨r2, hr2⟩ : ∃ r2 : Nat, a2 + 256 * a3 = r2 := ⟨_, rfl⟩
  have t2 : (a2 : Int) + 256 * (a3 : Int) = (r2 : Int) := by omega
  have t3 : (rn : Int) + (r2 : Int) = 65535 := by omega
  obtain ⟨ha0, ha1, ha2', ha3'⟩ := ha3
  have TT := Lib.hid (And.intro t1 (And.intro t2 t3))
  clear hk hkr t1 t2 t3 ha ha2 hr2
  by_cases hcc : cx = k
  case' pos =>
    have hrn0 : rn = 0 := by have := HK0.out; omega
    have hraw : raw = [] := by have := HRn.out.1; exact List.eq_nil_of_length_eq_zero (by omega)
    have hcv2 : ∀ x : Wx w3, (convert 22 9 (.slice (some ⟨g, off, none⟩) (nM - k) (cx - k))).run Try.prog x.w = .ok (.string (str raw)) x.w := by
      rw [HK0.out.2]
      refine HV.out _ ?_ _
      rw [hraw]
      exact ⟨fun hn => by simp [u8s] at hn, fun h => by cases h⟩
    have hcv3 : ∀ x : Wx w3, (convert 22 9 (.slice (some ⟨g, off, none⟩) (nM - k) 0)).run Try.prog x.w = .ok (.string (str raw)) x.w := by
      have h := hcv2
      rw [show cx - k = 0 by omega] at h
      exact h
    have hcv4 : ∀ x : Wx w3, (convert 22 9 (.slice (some ⟨g, off, none⟩) 0 0)).run Try.prog x.w = .ok (.string (str raw)) x.w := by
      have h := hcv3
      rw [show nM - k = 0 by have := HK0.out; omega] at h
      exact h
    clear hrn0 hraw
  case' neg =>
    have hcv2 : ∀ x : Wx w3, (convert 22 9 (.slice (some ⟨g, off + k, none⟩) (nM - k) (cx - k))).run Try.prog x.w = .ok (.string (str raw)) x.w := by
      rw [HK0.out.2]; exact HV.out _ rK _
  all_goals
    refine wp_region_ext (by kernel_rfl) (by kernel_rfl) ?_
    repeat (go_big_quiet_step (fail))
    refine wpQuiet_nil ?_
    rintro w5 ⟨n5, hn5⟩
    have b5 : Below w3.heap.size w3 w5 := hn5 ▸ n5.b
    clear hn5 n5 hcv2 hcvR c4 zz
    have b6 := b3.trans (b5.mono b3.size)
    have e0 : ∀ x : Wx w5, x.w.cell? ⟨g, off + q, none⟩ = some (.int .u8 (a0 : Int)) := fun x => ((b5.trans (x.b.mono b5.size)).cell (by exact hlt)).trans m0
    have e1 : ∀ x : Wx w5, x.w.cell? ⟨g, off + (q + 1), none⟩ = some (.int .u8 (a1 : Int)) := fun x => ((b5.trans (x.b.mono b5.size)).cell (by exact hlt)).trans m1
    have e2 : ∀ x : Wx w5, x.w.cell? ⟨g, off + (q + 2), none⟩ = some (.int .u8 (a2 : Int)) := fun x => ((b5.trans (x.b.mono b5.size)).cell (by exact hlt)).trans m2
    have e3 : ∀ x : Wx w5, x.w.cell? ⟨g, off + (q + 3), none⟩ = some (.int .u8 (a3 : Int)) := fun x => ((b5.trans (x.b.mono b5.size)).cell (by exact hlt)).trans m3
    have k4' := Blk.below k4h.out b5 z4
    have z4' := Blk.lt k4'
    have c4 : ∀ x : Wx w5, ∀ i, x.w.cell? ⟨g4, i, none⟩ = #[Value.slice (some ⟨g, off, none⟩) nM cx, .int .i64 (NM : Int)][i]? := fun x => Blk.cells (Blk.below k4' x.b z4')
    have zz : ∀ x : Wx w5, g4 < x.w.heap.size := fun x => Nat.lt_of_lt_of_le z4' x.b.size
    have zg : ∀ x : Wx w5, g < x.w.heap.size := fun x => Nat.lt_of_lt_of_le hlt (b5.trans (x.b.mono b5.size)).size
    have l1 : (q : Int) + 1 < (nM : Int) := by omega
    have l0 : (q : Int) < (nM : Int) := by omega
    have l2 : (q : Int) + 2 < (nM : Int) := by omega
    have l3 : (q : Int) + 3 < (nM : Int) := by omega
    have l0' : q < nM := by omega
    clear m0 m1 m2 m3
    go_wp2_with fail
    refine wp_region_ext (by kernel_rfl) (by kernel_rfl) ?_
    repeat (go_big_quiet_step (fail))
    refine wpQuiet_nil ?_
    rintro w7 ⟨n7, hn7⟩
    have b7 : Below w5.heap.size w5 w7 := hn7 ▸ n7.b
    clear hn7 n7 e0 e1 e2 e3 c4 zz zg l0 l1 l2 l3 l0'
    have k4'' := Blk.below k4' b7 z4'
    have k1' := Blk.below (Blk.below k1h.out b5 z1) b7 (Blk.lt (Blk.below k1h.out b5 z1))
    have b8 := b6.trans (b7.mono b6.size)
    have z1' := Blk.lt k1'
    have c1' := Blk.cells k1'
    have z4'' := Blk.lt k4''
    clear k4' b7 b6 b5 z4' c1
    go_wp2_with fail
    refine (HB.out _ (hR.below b8) (hT.below b8)).mono ?_
    rintro e w8 ⟨rfl, hb8⟩
    have k4a := Blk.below k4'' hb8 z4''
    have k1a := Blk.below k1' hb8 z1'
    have z1a := Blk.lt k1a
    have c1a := Blk.cells k1a
    have z4a := Blk.lt k4a
    have b9 := b8.trans (hb8.mono b8.size)
    clear hb8 b8 k1' k4'' c1' z1' z4''
    go_wp2_with fail
    refine (HL.out _ (hR.below b9) (hT.below b9)).mono ?_
    rintro e w9 ⟨rfl, hb9⟩
    have k4b := Blk.below k4a hb9 z4a
    have k1b := Blk.below k1a hb9 z1a
    have z1b := Blk.lt k1b
    have c1b := Blk.cells k1b
    have z4b := Blk.lt k4b
    have c4b := Blk.cells k4b
    have b10 := b9.trans (hb9.mono b9.size)
    clear hb9 b9 k1a k4a c1a z1a z4a s1 s2 s3
    obtain ⟨t1, t2, t3⟩ := TT.out
    have u1 : ((a0 : Int) + 256 * (a1 : Int) == (rn : Int)) = true := by rw [beq_iff_eq]; exact t1
    have u2 : ((a0 : Int) + 256 * (a1 : Int) + ((a2 : Int) + 256 * (a3 : Int)) == 65535) = true := by rw [beq_iff_eq]; omega
    clear t1 t2 t3
    rcases HEE.out with hE | ⟨rfl, rfl, hle⟩
    · have hEi : ((E1 : Int) != 0) = true := by simp; omega
      clear hE
      go_wp2_with fail
      go_ret
      exact ⟨rfl, b10⟩
    · have u3 : decide ((N2 : Int) ≤ (NM : Int) - (b : Int)) = true := decide_eq_true (by have := HNM.out; have := HNm.out; omega)
      go_wp2_with fail
      go_ret
      exact ⟨rfl, b10⟩
end Go.Proofs.Ytfcefhaaphieeaa
