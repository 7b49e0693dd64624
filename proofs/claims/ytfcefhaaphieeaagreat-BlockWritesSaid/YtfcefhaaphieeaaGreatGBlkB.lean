/-
  Walks: told, code, long of a block's text.
-/
import Derived.Test.YtfcefhaaphieeaaGreatG10
import Derived.Test.YtfcefhaaphieeaaGreatGRunsD
namespace Go.Proofs.YtfcefhaaphieeaaGreat
open Go.RowKit

theorem Rd.nb {w : World} {A : Option Addr} {L : List (Nat × Nat)} (h : Rd w A (nbV L)) {i : Nat} (hi : i < L.length) :
    ∃ b off, A = some ⟨b, off, none⟩ ∧ w.cell? ⟨b, off + i * 2, none⟩ = some (.int .u32 (((L[i]'hi).1 : Nat) : Int)) ∧ w.cell? ⟨b, off + i * 2 + 1, none⟩ = some (.int .i64 (((L[i]'hi).2 : Nat) : Int)) := by
  obtain ⟨b, off, hA, hc⟩ := h.at_ (by rw [nbV_length]; omega)
  obtain ⟨h1, h2⟩ := nbV_at L i hi
  refine ⟨b, off, hA, hc _ _ h1, ?_⟩
  rw [Nat.add_assoc]; exact hc _ _ h2

set_option maxHeartbeats 1000000 in
/-- How many lengths are told. -/
theorem told_any (A : Option Addr) (c : Nat) (l : List Nat) (n : Nat) (least : Nat) (w : World) (hl : Bs w A l) (hn : n = l.length) (hm : l.length ≤ 1000000) (hle : least ≤ 1000000) :
    Calls Tryz.prog 44 #[.slice A n c, .int .i64 (least : Int)] w fun e w' => e = .returned (.int .i64 ((toldN l least : Nat) : Int)) ∧ w = w' := by
  have HN := Lib.hid hn
  clear hn
  go_enter Tryz.func44, Tryz.ntmps44
  go_wp2_with fail
  go_loopg [5] l.length (fun gk v5 wr => ∃ k : Nat, k ≤ l.length ∧ gk = k ∧ v5 = .int .i64 (k : Int) ∧ Hid (downN l least k = toldN l least) ∧ wr = w)
  case atStart => exact ⟨l.length, Nat.le_refl _, rfl, by rw [HN.out], Lib.hid rfl, rfl⟩
  case round =>
    obtain ⟨k, hk, hgk, rfl, HD, rfl⟩ := hrel
    have HG := Lib.hid hgk
    clear hgk
    by_cases hlt : least < k
    · obtain ⟨j, rfl⟩ : ∃ j, k = j + 1 := ⟨k - 1, by omega⟩
      have e1 : ((j + 1 : Nat) : Int) - 1 = (j : Int) := by omega
      have hgt : decide (((j + 1 : Nat) : Int) > (least : Int)) = true := decide_eq_true (by omega)
      obtain ⟨b, off, rfl, hc, hx⟩ := hl.at_ (i := j) (by omega)
      have hjn : j < n := by have := HN.out; omega
      obtain ⟨x, hxx⟩ : ∃ x, nth l j = x := ⟨_, rfl⟩
      rw [hxx] at hc hx
      have HX := Lib.hid hxx
      clear hxx
      by_cases h0 : x = 0
      · subst h0
        go_wp2_with fail
        go_roundg j
        case measure => have := HG.out; omega
        case rel =>
          refine ⟨j, by omega, rfl, by go_num, Lib.hid ?_, rfl⟩
          rw [← HD.out, downN, if_pos ⟨by omega, HX.out⟩]
      · have h0' : ¬ ((x : Int) = 0) := by omega
        go_wp2_with fail
        go_ret
        refine ⟨ret_int ?_, rfl⟩
        rw [← HD.out, downN, if_neg (fun h => h0 (by rw [← HX.out]; exact h.2))]
        omega
    · have hgt : decide ((k : Int) > (least : Int)) = false := decide_eq_false (by omega)
      go_wp2_with fail
      go_ret
      refine ⟨ret_int ?_, rfl⟩
      rw [← HD.out]
      cases k with
      | zero => rfl
      | succ j => rw [downN, if_neg (fun h => by omega)]

set_option maxHeartbeats 1000000 in
/-- How many bits there are. -/
theorem tlong_any (W : World) (g : Nat) (L : List (Nat × Nat)) (w : World) (h : TxAt W w g L) (hn : L.length ≤ 1000000) (hb : lenN L ≤ 100000000) :
    Calls Tryz.prog 12 #[.pointer (some ⟨g, 0, none⟩)] w fun e w' => e = .returned (.int .i64 ((lenN L : Nat) : Int)) ∧ Below w.heap.size w w' := by
  obtain ⟨A, c, h1, h2⟩ := h.rd
  have hc : w.cell? ⟨g, 0, none⟩ = some (.slice A L.length c) := h1.cell 0
  clear h h1
  obtain ⟨n, hLn⟩ : ∃ n, L.length = n := ⟨_, rfl⟩
  rw [hLn] at hc hn
  have HL := Lib.hid hLn
  clear hLn
  go_enter Tryz.func12, Tryz.ntmps12
  go_wp2_with fail
  clear hc
  go_loopg [2, 10] n (fun gk v2 v10 wr => ∃ k : Nat, k ≤ n ∧ gk = n - k ∧ v10 = .int .i64 (k : Int) ∧ v2 = .int .i64 ((lenN (L.take k) : Nat) : Int) ∧ Below w.heap.size w wr)
  case atStart => exact ⟨0, by omega, rfl, rfl, rfl, Below.refl _ _⟩
  case round =>
    obtain ⟨k, hk, hgk, rfl, rfl, hbel⟩ := hrel
    have HG := Lib.hid hgk
    clear hgk
    by_cases hlt : k < n
    · have hkL : k < L.length := by have := HL.out; omega
      have hr := h2.below hbel
      obtain ⟨b, off, rfl, hc1, hc2⟩ := hr.nb hkL
      have hlt1 := cell_lt hc1
      have hle := lenN_take_le L k
      have hle2 := lenN_take_le L (k + 1)
      have hs := lenN_take_succ L k hkL
      obtain ⟨u, hu⟩ : ∃ u, lenN (L.take k) = u := ⟨_, rfl⟩
      obtain ⟨u2, hu2⟩ : ∃ u, lenN (L.take (k + 1)) = u := ⟨_, rfl⟩
      rw [hu] at hle hs
      rw [hu2] at hle2 hs
      rw [hu]
      generalize L[k] = x at *
      obtain ⟨x1, x2⟩ := x
      dsimp only at *
      have HS := Lib.hid hs
      have HU := Lib.hid hu2
      clear hs hu hu2 hr
      have hx2 : x2 ≤ 100000000 := by have := HS.out; omega
      go_wp2_with fail
      go_roundg (n - (k + 1))
      case measure => have := HG.out; omega
      case rel => exact ⟨k + 1, by omega, rfl, by go_num, by have h1 := HS.out; have h2 := HU.out; rw [h2]; subst h1; go_num, hbel.alloc hbel.size _⟩
    · obtain rfl : k = n := by omega
      have e : L.take k = L := by have := HL.out; rw [List.take_of_length_le (by omega)]
      have HE := Lib.hid e
      go_wp2_with fail
      go_ret
      exact ⟨ret_int (by rw [HE.out]), hbel⟩

set_option maxHeartbeats 1000000 in
/-- A symbol's code put behind, and an extra. -/
theorem code_put (W : World) (g : Nat) (L : List (Nat × Nat)) (C : Option Addr) (d n : Nat) (l : List Nat) (m : Int) (sym k x : Nat) (w : World) (h : TxAt W w g L) (hC : Rd w C (codV (codesL l))) (hn : n = l.length) (hE : canE l m = 0) (hs : sym < l.length) (hk : k ≤ 32) (hx : x < 4294967296) (hL : L.length ≤ 900000) :
    Calls Tryz.prog 49 #[.pointer (some ⟨g, 0, none⟩), .slice C n d, .int .i64 (sym : Int), .int .i64 (k : Int), .int .i64 (x : Int)] w fun e w' =>
      e = .returned (.tuple #[]) ∧ TxAt W w' g (L ++ [codeN (nthC (codesL l) sym), (x, k)]) ∧ Kt w w' := by
  have HN := Lib.hid hn
  have hcl : (codesL l).length = l.length := codesL_length l
  obtain ⟨b, off, rfl, hc1, hc2⟩ := hC.cod (i := sym) (by omega)
  have hlt1 := cell_lt hc1
  obtain ⟨q1, q2⟩ := code_ok_of hE sym
  have e : (codesL l)[sym]'(by omega) = nthC (codesL l) sym := by unfold nthC; rw [List.getElem?_eq_getElem (by omega)]; rfl
  rw [e] at hc1 hc2
  have hsn : sym < n := by omega
  have hl320 : n ≤ 320 := by obtain ⟨_, _, a, _⟩ := canE_ok hE; omega
  clear e hn hcl hs
  generalize nthC (codesL l) sym = r at *
  obtain ⟨v, j⟩ := r
  dsimp only at *
  have hv : v < 4294967296 := by have := Nat.pow_le_pow_right (n := 2) (by omega) (show j ≤ 32 by omega); omega
  have ht := fun wx => turn_any v (j : Int) wx hv (by omega) (by omega)
  have ef : fitsB v (j : Int) = true := by unfold fitsB; rw [decide_eq_true_iff]; exact ⟨by omega, by omega, by simpa using q1⟩
  have e1 : turnV v (j : Int) = rev v j := by unfold turnV; rw [if_pos ef]; rfl
  have e2 : turnE v (j : Int) = 0 := by unfold turnE; rw [if_pos ef]
  rw [e1, e2] at ht
  have hrv : rev v j < 4294967296 := by have := rev_lt v j; have := Nat.pow_le_pow_right (n := 2) (by omega) (show j ≤ 32 by omega); omega
  have HT := Lib.hid ht
  have HQ := Lib.hid q1
  have hmx : (x : Int) % 4294967296 = (x : Int) := by omega
  have HA := Lib.hid (fun (B : Option Addr) (wx : World) (hh : TxAt W wx g L) (hB : Rd wx B (nbV [codeN (v, j), (x, k)])) => add_any W g L [codeN (v, j), (x, k)] B 2 2 wx hh hB rfl (by simp only [List.length_cons, List.length_nil]; omega))
  clear q1 ef e1 e2 ht hC hE
  go_enter Tryz.func49, Tryz.ntmps49
  go_wp2_with fail
  refine (HT.out _).mono ?_
  rintro e w1 ⟨rfl, rfl⟩
  go_wp2_with fail
  refine (HA.out _ _ ?_ ?_).mono ?_
  · exact (h.alloc _).alloc _
  · exact Rd.new' _ _ _ (nbV [codeN (v, j), (x, k)]) _ (by simp) rfl
  rintro e w2 ⟨rfl, ht2, hk2⟩
  go_wp2_with fail
  go_end0
  refine ⟨rfl, ht2, (Kt.below ?_).trans hk2⟩
  exact ((Below.refl _ _).alloc (Nat.le_refl _) _).alloc (by simp) _
end Go.Proofs.YtfcefhaaphieeaaGreat
