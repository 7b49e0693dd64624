/-
  Walks: how a kind of symbols is made.
-/
import Derived.Test.YtkeempohhpjenaaRows
import Derived.Test.YtkeempohhpjenaaMem
import Derived.Deep.QuietTactic
import Derived.BigQuiet
namespace Go.Proofs.Ytkeempohhpjenaa
open Go.RowKit

theorem info_sym : (Try.prog.info? 51).map (fun i => (i.zero, i.size, i.bytes)) = some (some (.agg #[.int .i64 0, .int .i64 0, .int .i64 0]), 3, 24) := by kernel_rfl

/-- Symbols of one number of extra bits. -/
def runSyms (b l n : Nat) : List (Nat × Nat × Nat) := (List.range n).map fun i => (b, l + i * 2 ^ b, 2 ^ b)
theorem runSyms_succ (b l n : Nat) : runSyms b l (n + 1) = runSyms b l n ++ [(b, l + n * 2 ^ b, 2 ^ b)] := by simp [runSyms, List.range_succ]
/-- What was made of the first j counts: the symbols, and the least number of the next one. -/
def madeSyms (l0 : Nat) (many : List Nat) : Nat → List (Nat × Nat × Nat) × Nat
  | 0 => ([], l0)
  | j + 1 => ((madeSyms l0 many j).1 ++ runSyms j (madeSyms l0 many j).2 (nth many j), (madeSyms l0 many j).2 + nth many j * 2 ^ j)

def symCells (l : List (Nat × Nat × Nat)) : List Value := l.flatMap fun s => [.int .i64 (s.1 : Int), .int .i64 (s.2.1 : Int), .int .i64 (s.2.2 : Int)]
theorem symCells_append (a b : List (Nat × Nat × Nat)) : symCells (a ++ b) = symCells a ++ symCells b := by simp [symCells]
theorem symCells_length (a : List (Nat × Nat × Nat)) : (symCells a).length = a.length * 3 := by
  induction a with
  | nil => rfl
  | cons x a ih => simp [symCells] at ih ⊢; omega

theorem madeSyms_le (l0 : Nat) (many : List Nat) (hm : ∀ x ∈ many, x ≤ 8) (j : Nat) : (madeSyms l0 many j).2 ≤ l0 + 8 * 2 ^ j ∧ (madeSyms l0 many j).1.length ≤ 8 * j := by
  induction j with
  | zero => simp [madeSyms]
  | succ j ih =>
    have h8 : nth many j < 9 := nth_lt (fun x hx => by have := hm x hx; omega) (by omega) j
    have h2 : nth many j * 2 ^ j ≤ 8 * 2 ^ j := Nat.mul_le_mul_right _ (by omega)
    simp only [madeSyms, List.length_append, Nat.pow_succ]
    refine ⟨by omega, ?_⟩
    simp [runSyms]; omega

/-- What holds of a kind that is being made, at a round's head. -/
def OfRel (w : World) (first l0 : Nat) (many : List Nat) (k : Nat) (vl vi : Value) (wr : World) : Prop :=
  ∃ j A c, j ≤ many.length ∧ k = many.length - j ∧ vi = .int .i64 (j : Nat) ∧ vl = .int .i64 ((madeSyms l0 many j).2 : Nat) ∧
    Blk wr w.heap.size 41 #[.int .i64 first, .slice A (madeSyms l0 many j).1.length c] ∧
    wr.ownsRow w.heap.size 51 3 (.slice A (madeSyms l0 many j).1.length c) (madeSyms l0 many j).1.length (symCells (madeSyms l0 many j).1) ∧ Below w.heap.size w wr
def OfIn (w : World) (first l0 : Nat) (many : List Nat) (j : Nat) (k : Nat) (vl vi : Value) (wr : World) : Prop :=
  ∃ i A c ss, i ≤ nth many j ∧ k = nth many j - i ∧ vi = .int .i64 (i : Nat) ∧ vl = .int .i64 (((madeSyms l0 many j).2 + i * 2 ^ j : Nat) : Int) ∧ ss = (madeSyms l0 many j).1 ++ runSyms j (madeSyms l0 many j).2 i ∧
    Blk wr w.heap.size 41 #[.int .i64 first, .slice A ss.length c] ∧
    wr.ownsRow w.heap.size 51 3 (.slice A ss.length c) ss.length (symCells ss) ∧ Below w.heap.size w wr

set_option maxHeartbeats 400000 in
theorem of_any (first least : Nat) (A : Option Addr) (c : Nat) (many : List Nat) (w : World) (hl : Sl w A (many.map fun (x : Nat) => Value.int .i64 (x : Int))) (hm : ∀ x ∈ many, x ≤ 8) (hn : many.length ≤ 16) (hf : first ≤ 1000) (hle : least ≤ 1000) :
    Calls Try.prog 31 #[.int .i64 first, .int .i64 least, .slice A many.length c] w fun e w' => 
      ∃ A' c', e = .returned (.agg #[.int .i64 first, .slice A' (madeSyms least many many.length).1.length c']) ∧ w'.ownsRow w.heap.size 51 3 (.slice A' (madeSyms least many many.length).1.length c') (madeSyms least many many.length).1.length (symCells (madeSyms least many many.length).1) ∧ Below w.heap.size w w' := by
  obtain ⟨i0, hi0, hz0, hz1, hz2⟩ := info_parts info_sym
  go_enter Try.func31, Try.ntmps31
  go_wp2_with fail
  go_loopg [1, 13] many.length (OfRel w first least many)
  case atStart => exact ⟨0, none, 0, by omega, by omega, rfl, rfl, Blk.new _ _ _, World.ownsRow_nil _ _ _ _, (Below.refl _ _).alloc (Nat.le_refl _) _⟩
  case round =>
    obtain ⟨j, A', c', hj, hk, rfl, rfl, hblk, hown, hbel⟩ := hrel
    have hj8 : nth many j < 9 := nth_lt (fun x hx => by have := hm x hx; omega) (by omega) j
    obtain ⟨hle2, hlen2⟩ := madeSyms_le least many hm j
    have hp : 2 ^ j ≤ 2 ^ 16 := pow2_le _ _ (by omega)
    have c0 : wr.cell? ⟨w.heap.size, 0, none⟩ = some (.int .i64 (first : Int)) := hblk.cell 0
    have c1 : wr.cell? ⟨w.heap.size, 1, none⟩ = some (.slice A' (madeSyms least many j).1.length c') := hblk.cell 1
    have f0 := hblk.frozen 0
    have f1 := hblk.frozen 1
    by_cases hlt : j < many.length
    · obtain ⟨b, off, rfl, hc⟩ := (hl.below hbel) (by simp; omega)
      have hcell : wr.cell? ⟨b, off + j, none⟩ = some (.int .i64 ((nth many j : Nat) : Int)) := hc j _ (by simp [nth, List.getElem?_eq_getElem hlt])
      clear hc
      go_wp2_with fail
      clear c0 c1 f0 f1
      obtain ⟨wo, rfl⟩ : ∃ wo : World, wo = wr := ⟨_, rfl⟩
      go_loopg [1, 19] (nth many j) (OfIn w first least many j)
      case atStart => exact ⟨0, A', c', (madeSyms least many j).1, by omega, by omega, rfl, by simp, by simp [runSyms], hblk, hown, hbel⟩
      case round =>
        obtain ⟨i, A2, c2, ss, hi, hk2, rfl, rfl, hss, hblk, hown, hbel⟩ := hrel
        have c0 : wr.cell? ⟨w.heap.size, 0, none⟩ = some (.int .i64 (first : Int)) := hblk.cell 0
        have c1 : wr.cell? ⟨w.heap.size, 1, none⟩ = some (.slice A2 ss.length c2) := hblk.cell 1
        have f0 := hblk.frozen 0
        have f1 := hblk.frozen 1
        have hssl : ss.length ≤ 8 * j + i := by rw [hss]; simp [runSyms]; omega
        have hp2 : i * 2 ^ j ≤ 8 * 2 ^ j := Nat.mul_le_mul_right _ (by omega)
        have Hss := Lib.hid hss
        by_cases hlt2 : i < nth many j
        · obtain ⟨P, hP, hP2⟩ : ∃ P : Nat, (2 : Int) ^ j = (P : Int) ∧ P = 2 ^ j := ⟨2 ^ j, by simp, rfl⟩
          have hPle : P ≤ 65536 := by omega
          have hw1 := IntWalk.i64_in (P : Int) (by omega)
          obtain ⟨L, hL⟩ : ∃ L : Nat, (madeSyms least many j).2 + i * 2 ^ j = L := ⟨_, rfl⟩
          have hLle : L ≤ 2000000 := by omega
          have hss3 : (ss ++ [(j, L, P)]).length = ss.length + 1 := by simp
          have hss2 : ss ++ [(j, L, P)] = (madeSyms least many j).1 ++ runSyms j (madeSyms least many j).2 (i + 1) := by rw [hss, runSyms_succ, hL, hP2]; simp
          have hL2 : (madeSyms least many j).2 + (i + 1) * 2 ^ j = L + P := by simp only [Nat.add_mul, Nat.one_mul, hP2, ← hL, Nat.add_assoc]
          have hB : w.heap.size ≤ wr.heap.size := hbel.size
          have hne : (Value.slice A2 ss.length c2).ownBlock ≠ some w.heap.size := own_blk_ne hown hblk (by decide)
          have hlt3 := hblk.lt
          rw [hL]
          have H := Lib.hid (And.intro hss (And.intro hP2 (And.intro hss2 (And.intro hL2 (And.intro hss3 hne)))))
          clear hss hP2 hss2 hL2 hss3 hL hp2 hp hle2 hlen2 hne
          go_wp2_with fail
          go_region_law (refine step_app _ rfl (.tmp 22) (.tmp 28) _ rfl w.heap.size 51 i0 _ 3 24 Try.underlying39 hi0 hz0 hz1 hz2 rfl (by omega) (.slice A2 ss.length c2) ss.length (symCells ss) (by simp [Act.eval, Act.put]) (by exact hown.alloc _) (some ⟨wr.heap.size, 0, none⟩) 1 1 [.int .i64 (j : Int), .int .i64 (L : Int), .int .i64 (P : Int)] (by simp [Act.eval, Act.put]) rfl (by exact Sl.new wr _ _ _ rfl) (by simp) (by simp [Value.oneCell']) (ss.length + 1) rfl (symCells (ss ++ [(j, L, P)])) (by simp [symCells]) (by simp only [maxLen]; omega) (by omega) (by simp; omega) ?_; intro A3 c3 w3 hown3 hg3 hat3; have hblk3 : Blk w3 w.heap.size 41 #[.int .i64 (first : Int), .slice A2 ss.length c2] := (hblk.alloc _).drew.grown hg3 (Ne.symm H.out.2.2.2.2.2); have c03 : w3.cell? ⟨w.heap.size, 0, none⟩ = some (.int .i64 (first : Int)) := hblk3.cell 0; have c13 : w3.cell? ⟨w.heap.size, 1, none⟩ = some (.slice A2 ss.length c2) := hblk3.cell 1; have f03 := hblk3.frozen 0; have f13 := hblk3.frozen 1)
          all_goals go_wp2_with fail
          all_goals go_roundg (nth many j - (i + 1))
          all_goals first
            | (case measure => omega)
            | skip
          all_goals
            obtain ⟨hss, hP2, hss2, hL2, hss3, hne⟩ := H.out
            have hne3 := own_ne hat3 hne (by simp; omega)
            rw [← hss3] at hown3
            refine ⟨i + 1, A3, c3, ss ++ [(j, L, P)], by omega, by omega, by go_num, by rw [hL2]; go_num, hss2, ?_, ?_, ?_⟩
            · rw [hss3]; exact hblk3.set_ 1 _
            · exact own_far hown3 (by rw [hss3]; exact hne3) _
            · exact (((hbel.alloc hB _).drew).grown hg3 (by simp; omega) (own_row_ge hown)).setCell (Nat.le_refl _) _
        · obtain rfl : i = nth many j := by omega
          go_wp2_with fail
          go_roundg (many.length - (j + 1))
          case measure => omega
          case rel =>
            obtain rfl := Hss.out
            exact ⟨j + 1, A2, c2, by omega, by omega, by go_num, rfl, hblk, hown, hbel⟩
    · obtain rfl : j = many.length := by omega
      go_wp2_with fail
      refine bodyPost_ret (v := .agg #[.int .i64 (first : Int), .slice A' (madeSyms least many many.length).1.length c']) (by simp [results, Try.results31, go_sem, c0, c1]) rfl ⟨A', c', rfl, ?_, (hbel.setCell (Nat.le_refl _) _).setCell (Nat.le_refl _) _⟩
      have hne : (Value.slice A' (madeSyms least many many.length).1.length c').ownBlock ≠ some w.heap.size := own_blk_ne hown hblk (by decide)
      exact own_far (own_far hown hne _) hne _

/-- The tables: extra bits, least number, how many. -/
def longT : List (Nat × Nat × Nat) := [(0, 3, 1), (0, 4, 1), (0, 5, 1), (0, 6, 1), (0, 7, 1), (0, 8, 1), (0, 9, 1), (0, 10, 1), (1, 11, 2), (1, 13, 2), (1, 15, 2), (1, 17, 2), (2, 19, 4), (2, 23, 4), (2, 27, 4), (2, 31, 4), (3, 35, 8), (3, 43, 8), (3, 51, 8), (3, 59, 8), (4, 67, 16), (4, 83, 16), (4, 99, 16), (4, 115, 16), (5, 131, 32), (5, 163, 32), (5, 195, 32), (5, 227, 31), (0, 258, 1)]
def farT : List (Nat × Nat × Nat) := [(0, 1, 1), (0, 2, 1), (0, 3, 1), (0, 4, 1), (1, 5, 2), (1, 7, 2), (2, 9, 4), (2, 13, 4), (3, 17, 8), (3, 25, 8), (4, 33, 16), (4, 49, 16), (5, 65, 32), (5, 97, 32), (6, 129, 64), (6, 193, 64), (7, 257, 128), (7, 385, 128), (8, 513, 256), (8, 769, 256), (9, 1025, 512), (9, 1537, 512), (10, 2049, 1024), (10, 3073, 1024), (11, 4097, 2048), (11, 6145, 2048), (12, 8193, 4096), (12, 12289, 4096), (13, 16385, 8192), (13, 24577, 8192)]
def long0 : List (Nat × Nat × Nat) := longT.take 27 ++ [(5, 227, 32)]
theorem made_long : (madeSyms 3 [8, 4, 4, 4, 4, 4] 6).1 = long0 := by decide
theorem made_far : (madeSyms 1 [4, 2, 2, 2, 2, 2, 2, 2, 2, 2, 2, 2, 2, 2] 14).1 = farT := by decide

theorem of_longs (w : World) (A : Option Addr) (c : Nat) (hl : Sl w A [.int .i64 8, .int .i64 4, .int .i64 4, .int .i64 4, .int .i64 4, .int .i64 4]) :
    Calls Try.prog 31 #[.int .i64 257, .int .i64 3, .slice A 6 c] w fun e w' => 
      ∃ A' c', e = .returned (.agg #[.int .i64 257, .slice A' 28 c']) ∧ w'.ownsRow w.heap.size 51 3 (.slice A' 28 c') 28 (symCells long0) ∧ Below w.heap.size w w' := by
  have h := of_any 257 3 A c [8, 4, 4, 4, 4, 4] w hl (by decide) (by decide) (by decide) (by decide)
  have e : [8, 4, 4, 4, 4, 4].length = 6 := rfl
  rw [e, made_long] at h
  exact h
theorem of_fars (w : World) (A : Option Addr) (c : Nat) (hl : Sl w A ([4, 2, 2, 2, 2, 2, 2, 2, 2, 2, 2, 2, 2, 2].map fun (x : Nat) => Value.int .i64 (x : Int))) :
    Calls Try.prog 31 #[.int .i64 0, .int .i64 1, .slice A 14 c] w fun e w' => 
      ∃ A' c', e = .returned (.agg #[.int .i64 0, .slice A' 30 c']) ∧ w'.ownsRow w.heap.size 51 3 (.slice A' 30 c') 30 (symCells farT) ∧ Below w.heap.size w w' := by
  have h := of_any 0 1 A c [4, 2, 2, 2, 2, 2, 2, 2, 2, 2, 2, 2, 2, 2] w hl (by decide) (by decide) (by decide) (by decide)
  have e : [4, 2, 2, 2, 2, 2, 2, 2, 2, 2, 2, 2, 2, 2].length = 14 := rfl
  rw [e, made_far] at h
  exact h

end Go.Proofs.Ytkeempohhpjenaa
