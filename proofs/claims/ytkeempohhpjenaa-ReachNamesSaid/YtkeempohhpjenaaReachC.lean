/-
  Walks: fars, tell, symbol, number.
-/
import Derived.Test.YtkeempohhpjenaaReachB
namespace Go.Proofs.Ytkeempohhpjenaa
open Go.RowKit

set_option maxHeartbeats 400000 in
set_option maxRecDepth 100000 in
theorem fars_any (w : World) :
    Calls Try.prog 26 #[] w fun e w' => 
      ∃ A' c', e = .returned (.agg #[.int .i64 0, .slice A' 30 c']) ∧ w'.ownsRow w.heap.size 51 3 (.slice A' 30 c') 30 (symCells farT) ∧ Below w.heap.size w w' := by
  go_enter Try.func26, Try.ntmps26
  go_wp2_with fail
  refine (of_fars _ _ _ (Sl.new' _ _ _ _ _ (by simp) rfl)).mono ?_
  rintro e w1 ⟨A1, c1, rfl, hown, hbel⟩
  have hblk : Blk w1 w.heap.size 41 #[.int .i64 0, .slice none 0 0] := ((Blk.new w _ _).alloc _).below hbel (by simp; omega)
  have hb : Below w.heap.size w w1 := (((Below.refl _ _).alloc (Nat.le_refl _) _).alloc (by simp) _).trans (hbel.mono (by simp; omega))
  have hown1 := own_far_base (base' := w.heap.size) hown (by simp; omega)
  have r30 : w1.cell? ⟨w.heap.size, 0, none⟩ = some (.int .i64 0) := hblk.cell 0
  have r31 : w1.cell? ⟨w.heap.size, 1, none⟩ = some (.slice none 0 0) := hblk.cell 1
  have q30 := hblk.frozen 0
  have q31 := hblk.frozen 1
  have N := Lib.hid (own_blk_ne hown1 hblk (by decide))
  clear hown hbel hblk
  go_wp2_with fail
  refine bodyPost_ret (v := .agg #[.int .i64 0, .slice A1 30 c1]) (by simp [results, Try.results26, go_sem, r30, r31]) rfl ⟨A1, c1, rfl, ?_, ?_⟩
  · exact own_far (own_far hown1 N.out _) N.out _
  · exact (hb.setCell (by simp) _).setCell (by simp) _

/-- A number's symbol, extra bits, extra and error, by a table. -/
def tellT (f : Nat) : List (Nat × Nat × Nat) → Int → Nat × Nat × Int × Nat
  | [], _ => (0, 0, 0, 2)
  | s :: t, n => if (s.2.1 : Int) ≤ n ∧ n < s.2.1 + s.2.2 then (f, s.1, n - s.2.1, 0) else tellT (f + 1) t n

/-- A table's row, or noughts. -/
def rowT (t : List (Nat × Nat × Nat)) (i : Nat) : Nat × Nat × Nat := t[i]?.getD (0, 0, 0)

theorem symCells_at (t : List (Nat × Nat × Nat)) (i : Nat) (hi : i < t.length) :
    (symCells t)[i * 3]? = some (.int .i64 ((rowT t i).1 : Int)) ∧ (symCells t)[i * 3 + 1]? = some (.int .i64 ((rowT t i).2.1 : Int)) ∧ (symCells t)[i * 3 + 2]? = some (.int .i64 ((rowT t i).2.2 : Int)) := by
  induction t generalizing i with
  | nil => simp at hi
  | cons s t ih =>
    have e : symCells (s :: t) = .int .i64 (s.1 : Int) :: .int .i64 (s.2.1 : Int) :: .int .i64 (s.2.2 : Int) :: symCells t := rfl
    cases i with
    | zero => simp [e, rowT]
    | succ i =>
      have := ih i (by simpa using hi)
      rw [e]
      have h1 : (i + 1) * 3 = i * 3 + 1 + 1 + 1 := by omega
      rw [h1]
      simpa [rowT] using this

theorem tell_drop (f : Nat) (t : List (Nat × Nat × Nat)) (i : Nat) (hi : i < t.length) (n : Int) :
    tellT (f + i) (t.drop i) n = if ((rowT t i).2.1 : Int) ≤ n ∧ n < (rowT t i).2.1 + (rowT t i).2.2 then (f + i, (rowT t i).1, n - (rowT t i).2.1, 0) else tellT (f + (i + 1)) (t.drop (i + 1)) n := by
  rw [List.drop_eq_getElem_cons hi]
  simp [tellT, rowT, List.getElem?_eq_getElem hi, Nat.add_assoc]

def TellRel (w : World) (f : Nat) (t : List (Nat × Nat × Nat)) (n : Int) (A : Option Addr) (c : Nat) (k : Nat) (vi : Value) (wr : World) : Prop :=
  ∃ i, i ≤ t.length ∧ k = t.length - i ∧ vi = .int .i64 (i : Nat) ∧ tellT (f + i) (t.drop i) n = tellT f t n ∧ Blk wr w.heap.size 41 #[.int .i64 (f : Int), .slice A t.length c] ∧ Below w.heap.size w wr

set_option maxHeartbeats 400000 in
theorem tell_any (f : Nat) (t : List (Nat × Nat × Nat)) (n : Int) (A : Option Addr) (c : Nat) (w : World) (hs : Sl w A (symCells t)) (ht : t.length ≤ 100) (hf : f ≤ 1000) (hb : ∀ s ∈ t, s.1 ≤ 100 ∧ s.2.1 ≤ 100000 ∧ s.2.2 ≤ 100000)
    (h1 : -9223372036854775808 ≤ n) (h2 : n ≤ 9223372036854775807) :
    Calls Try.prog 24 #[.agg #[.int .i64 f, .slice A t.length c], .int .i64 n] w fun e w' => 
      e = .returned (.tuple #[.int .i64 (tellT f t n).1, .int .i64 (tellT f t n).2.1, .int .i64 (tellT f t n).2.2.1, .int .i64 (tellT f t n).2.2.2]) ∧ Below w.heap.size w w' := by
  go_enter Try.func24, Try.ntmps24
  go_wp2_with fail
  go_loopg [13] t.length (TellRel w f t n A c)
  case atStart => exact ⟨0, by omega, by omega, rfl, rfl, Blk.new _ _ _, (Below.refl _ _).alloc (Nat.le_refl _) _⟩
  case round =>
    obtain ⟨i, hi, hk, rfl, htl, hblk, hbel⟩ := hrel
    by_cases hlt : i < t.length
    · obtain ⟨b, off, rfl, hc⟩ := (hs.below hbel) (by rw [symCells_length]; omega)
      obtain ⟨k0, k1, k2⟩ := symCells_at t i hlt
      have c0 := hc _ _ k0
      have c1 : wr.cell? ⟨b, off + i * 3 + 1, none⟩ = _ := hc _ _ k1
      have c2 : wr.cell? ⟨b, off + i * 3 + 2, none⟩ = _ := hc _ _ k2
      have hrow : (rowT t i).1 ≤ 100 ∧ (rowT t i).2.1 ≤ 100000 ∧ (rowT t i).2.2 ≤ 100000 := by
        have : rowT t i ∈ t := by simp [rowT, List.getElem?_eq_getElem hlt]
        exact hb _ this
      rw [tell_drop f t i hlt n] at htl
      generalize hr : rowT t i = r at *
      obtain ⟨rb, rl, rm⟩ := r
      clear hr hc k0 k1 k2
      obtain ⟨hb1, hb2, hb3⟩ := hrow
      have b0 : wr.cell? ⟨w.heap.size, 0, none⟩ = some (.int .i64 (f : Int)) := hblk.cell 0
      have hbl := hblk.lt
      dsimp only at htl c0 c1 c2 hb1 hb2 hb3
      by_cases hit : (rl : Int) ≤ n ∧ n < rl + rm
      · rw [if_pos hit] at htl
        obtain ⟨hit1, hit2⟩ := hit
        have Htl := Lib.hid htl; clear htl
        go_wp2_with fail
        go_quiet (fail)
        go_wp2_with fail
        refine bodyPost_ret (v := .tuple #[.int .i64 ((f : Int) + i), .int .i64 rb, .int .i64 (n - rl), .int .i64 0]) (by simp [results, Try.results24, go_sem]) rfl ⟨?_, ?_⟩
        · rw [← Htl.out]; simp
        · exact below_drewN (hbel.alloc hbel.size _) _
      · rw [if_neg hit] at htl
        have Htl := Lib.hid htl; clear htl
        by_cases hit1 : (rl : Int) ≤ n
        · have hit2 : (rl : Int) + rm ≤ n := by omega
          clear hit
          go_wp2_with fail
          go_roundg (t.length - (i + 1))
          case measure => omega
          case rel => exact ⟨i + 1, by omega, by omega, by go_num, Htl.out, hblk.alloc _, hbel.alloc hbel.size _⟩
        · clear hit
          go_wp2_with fail
          go_roundg (t.length - (i + 1))
          case measure => omega
          case rel => exact ⟨i + 1, by omega, by omega, by go_num, Htl.out, hblk.alloc _, hbel.alloc hbel.size _⟩
    · obtain rfl : i = t.length := by omega
      rw [List.drop_length] at htl
      have Htl := Lib.hid htl; clear htl
      go_wp2_with fail
      refine bodyPost_ret (v := .tuple #[.int .i64 0, .int .i64 0, .int .i64 0, .int .i64 2]) (by simp [results, Try.results24, go_sem]) rfl ⟨?_, hbel⟩
      rw [← Htl.out]; simp [tellT]

/-- A symbol's row, by a table; is there one? -/
def hasSym (f : Nat) (t : List (Nat × Nat × Nat)) (sym : Int) : Bool := decide ((f : Int) ≤ sym ∧ sym < f + t.length)

set_option maxHeartbeats 400000 in
theorem symbol_no (f : Nat) (t : List (Nat × Nat × Nat)) (sym : Int) (A : Option Addr) (c : Nat) (w : World) (ht : t.length ≤ 100) (hf : f ≤ 1000) (h1 : -9223372036854775808 ≤ sym) (h2 : sym ≤ 9223372036854775807) (h : sym < f ∨ (f : Int) + t.length ≤ sym) :
    Calls Try.prog 30 #[.agg #[.int .i64 f, .slice A t.length c], .int .i64 sym] w fun e w' => 
      e = .returned (.tuple #[.agg #[.int .i64 0, .int .i64 0, .int .i64 0], .int .i64 90]) ∧ Below w.heap.size w w' := by
  by_cases ha : sym < f
  · clear h
    go_enter Try.func30, Try.ntmps30
    go_wp2_with fail
    refine bodyPost_ret (v := .tuple #[.agg #[.int .i64 0, .int .i64 0, .int .i64 0], .int .i64 90]) (by simp [results, Try.results30, go_sem]) rfl ⟨rfl, ?_⟩
    exact ((Below.refl _ _).alloc (Nat.le_refl _) _).alloc (by simp) _
  · have h3 : (f : Int) + t.length ≤ sym := by omega
    clear h
    go_enter Try.func30, Try.ntmps30
    go_wp2_with fail
    refine bodyPost_ret (v := .tuple #[.agg #[.int .i64 0, .int .i64 0, .int .i64 0], .int .i64 90]) (by simp [results, Try.results30, go_sem]) rfl ⟨rfl, ?_⟩
    exact ((Below.refl _ _).alloc (Nat.le_refl _) _).alloc (by simp) _

set_option maxHeartbeats 400000 in
theorem symbol_yes (f i : Nat) (t : List (Nat × Nat × Nat)) (A : Option Addr) (c : Nat) (w : World) (hs : Sl w A (symCells t)) (ht : t.length ≤ 100) (hf : f ≤ 1000) (hi : i < t.length) (sym : Int) (hsym : sym = f + i) :
    Calls Try.prog 30 #[.agg #[.int .i64 f, .slice A t.length c], .int .i64 sym] w fun e w' => 
      e = .returned (.tuple #[.agg #[.int .i64 (rowT t i).1, .int .i64 (rowT t i).2.1, .int .i64 (rowT t i).2.2], .int .i64 0]) ∧ Below w.heap.size w w' := by
  subst hsym
  obtain ⟨b, off, rfl, hc⟩ := hs (by rw [symCells_length]; omega)
  obtain ⟨k0, k1, k2⟩ := symCells_at t i hi
  have c0 := hc _ _ k0
  have c1 : w.cell? ⟨b, off + i * 3 + 1, none⟩ = _ := hc _ _ k1
  have c2 : w.cell? ⟨b, off + i * 3 + 2, none⟩ = _ := hc _ _ k2
  have e1 : ((f : Int) + i - f) = i := by omega
  have hbl := cell_lt c0
  clear hc hs k0 k1 k2
  generalize rowT t i = r at *
  go_enter Try.func30, Try.ntmps30
  go_wp2_with fail
  refine bodyPost_ret (v := .tuple #[.agg #[.int .i64 r.1, .int .i64 r.2.1, .int .i64 r.2.2], .int .i64 0]) (by simp [results, Try.results30, go_sem]) rfl ⟨rfl, ?_⟩
  exact ((Below.refl _ _).alloc (Nat.le_refl _) _).alloc (by simp) _

/-- A number of a symbol and its extra, by a table. -/
def numE (f : Nat) (t : List (Nat × Nat × Nat)) (sym extra : Int) : Nat :=
  if sym < f ∨ (f : Int) + t.length ≤ sym then 90
  else if extra < 0 ∨ ((2 ^ (rowT t (sym - f).toNat).1 : Nat) : Int) ≤ extra then 2
  else if ((rowT t (sym - f).toNat).2.2 : Int) ≤ extra then 90 else 0
def numV (f : Nat) (t : List (Nat × Nat × Nat)) (sym extra : Int) : Int :=
  if numE f t sym extra = 0 then (rowT t (sym - f).toNat).2.1 + extra else 0

set_option maxHeartbeats 400000 in
theorem number_any (f : Nat) (t : List (Nat × Nat × Nat)) (sym extra : Int) (A : Option Addr) (c : Nat) (w : World) (hs : Sl w A (symCells t)) (ht : t.length ≤ 100) (hf : f ≤ 1000) (hb : ∀ s ∈ t, s.1 ≤ 20 ∧ s.2.1 ≤ 100000 ∧ s.2.2 ≤ 100000)
    (h1 : -9223372036854775808 ≤ sym) (h2 : sym ≤ 9223372036854775807) (h3 : -9223372036854775808 ≤ extra) (h4 : extra ≤ 9223372036854775807) :
    Calls Try.prog 28 #[.agg #[.int .i64 f, .slice A t.length c], .int .i64 sym, .int .i64 extra] w fun e w' => 
      e = .returned (.tuple #[.int .i64 (numV f t sym extra), .int .i64 (numE f t sym extra)]) ∧ Below w.heap.size w w' := by
  by_cases h : sym < f ∨ (f : Int) + t.length ≤ sym
  · have hE : numE f t sym extra = 90 := by simp only [numE, if_pos h]
    have hV : numV f t sym extra = 0 := by simp [numV, hE]
    rw [hE, hV]
    clear hE hV
    have H := Lib.hid h; clear h
    go_enter Try.func28, Try.ntmps28
    go_wp2_with fail
    refine (symbol_no f t sym A c _ ht hf h1 h2 H.out).mono ?_
    rintro e w1 ⟨rfl, hb1⟩
    have hbel : Below w.heap.size w w1 := ((Below.refl _ _).alloc (Nat.le_refl _) _).trans (hb1.mono (by simp))
    clear hb1
    go_wp2_with fail
    go_ret2
    exact ⟨rfl, hbel.alloc hbel.size _⟩
  · obtain ⟨i, rfl⟩ : ∃ i : Nat, sym = f + i := ⟨(sym - f).toNat, by omega⟩
    have hi : i < t.length := by omega
    have ei : ((f : Int) + i - f).toNat = i := by omega
    have hrow : (rowT t i).1 ≤ 20 ∧ (rowT t i).2.1 ≤ 100000 ∧ (rowT t i).2.2 ≤ 100000 := by
      have : rowT t i ∈ t := by simp [rowT, List.getElem?_eq_getElem hi]
      exact hb _ this
    have hE : numE f t (f + i) extra = if extra < 0 ∨ ((2 ^ (rowT t i).1 : Nat) : Int) ≤ extra then 2 else if ((rowT t i).2.2 : Int) ≤ extra then 90 else 0 := by simp only [numE, if_neg h, ei]
    have hV : numV f t (f + i) extra = if numE f t (f + i) extra = 0 then (rowT t i).2.1 + extra else 0 := by simp only [numV, ei]
    have hp : 2 ^ (rowT t i).1 ≤ 2 ^ 20 := pow2_le _ _ hrow.1
    clear ei h
    have hsy := symbol_yes f i t A c (w.alloc (.cells #[.int .i64 (f : Int), .slice A t.length c] 41)) (hs.alloc _) ht hf hi _ rfl
    generalize rowT t i = r at *
    obtain ⟨rb, rl, rm⟩ := r
    dsimp only at hrow hp hsy hE hV
    obtain ⟨hr1, hr2, hr3⟩ := hrow
    obtain ⟨P, hP⟩ : ∃ P : Nat, (2 : Int) ^ rb = (P : Int) ∧ P = 2 ^ rb := ⟨2 ^ rb, by simp, rfl⟩
    rw [← hP.2] at hp hE
    have hP1 := hP.1
    have hw1 := IntWalk.i64_in (P : Int) (by omega)
    have HS := Lib.hid hsy
    clear hsy hP
    generalize numE f t (f + i) extra = E at *
    generalize numV f t (f + i) extra = V at *
    by_cases ha : extra < 0
    · obtain rfl : E = 2 := by rw [hE]; simp [ha]
      obtain rfl : V = 0 := by rw [hV]; simp
      clear hE hV
      go_enter Try.func28, Try.ntmps28
      go_wp2_with fail
      refine HS.out.mono ?_
      rintro e w1 ⟨rfl, hb1⟩
      have hbel : Below w.heap.size w w1 := ((Below.refl _ _).alloc (Nat.le_refl _) _).trans (hb1.mono (by simp))
      clear hb1
      go_wp2_with fail
      go_ret2
      exact ⟨rfl, hbel.alloc hbel.size _⟩
    · by_cases hb : (P : Int) ≤ extra
      · obtain rfl : E = 2 := by rw [hE]; simp [hb]
        obtain rfl : V = 0 := by rw [hV]; simp
        clear hE hV
        go_enter Try.func28, Try.ntmps28
        go_wp2_with fail
        refine HS.out.mono ?_
        rintro e w1 ⟨rfl, hb1⟩
        have hbel : Below w.heap.size w w1 := ((Below.refl _ _).alloc (Nat.le_refl _) _).trans (hb1.mono (by simp))
        clear hb1
        go_wp2_with fail
        go_ret2
        exact ⟨rfl, hbel.alloc hbel.size _⟩
      · by_cases hc : (rm : Int) ≤ extra
        · obtain rfl : E = 90 := by rw [hE]; simp [ha, hb, hc]
          obtain rfl : V = 0 := by rw [hV]; simp
          clear hE hV
          go_enter Try.func28, Try.ntmps28
          go_wp2_with fail
          refine HS.out.mono ?_
          rintro e w1 ⟨rfl, hb1⟩
          have hbel : Below w.heap.size w w1 := ((Below.refl _ _).alloc (Nat.le_refl _) _).trans (hb1.mono (by simp))
          clear hb1
          go_wp2_with fail
          go_ret2
          exact ⟨rfl, hbel.alloc hbel.size _⟩
        · obtain rfl : E = 0 := by rw [hE]; simp [ha, hb, hc]
          obtain rfl : V = rl + extra := by rw [hV]; simp
          clear hE hV
          go_enter Try.func28, Try.ntmps28
          go_wp2_with fail
          refine HS.out.mono ?_
          rintro e w1 ⟨rfl, hb1⟩
          have hbel : Below w.heap.size w w1 := ((Below.refl _ _).alloc (Nat.le_refl _) _).trans (hb1.mono (by simp))
          clear hb1
          go_wp2_with fail
          go_ret2
          exact ⟨rfl, hbel.alloc hbel.size _⟩
end Go.Proofs.Ytkeempohhpjenaa
