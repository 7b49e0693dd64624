/-
  Walks: how a kind of symbols is made.
-/
import Derived.BigQuiet
import Derived.Deep.QuietTactic
import Derived.Test.YtahboomghjdjhaaGreatGMem
import Derived.Test.YtahboomghjdjhaaGreatRows
namespace Go.Proofs.YtahboomghjdjhaaGreat
open Go.RowKit

theorem info_sym : (Tryz.prog.info? 170).map (fun i => (i.zero, i.size, i.bytes)) = some (some (.agg #[.int .i64 0, .int .i64 0, .int .i64 0]), 3, 24) := by kernel_rfl

/-- Symbols of one number of extra bits. -/
def runSyms (b l n : Nat) : List (Nat × Nat × Nat) := (List.range n).map fun i => (b, l + i * 2 ^ b, 2 ^ b)
theorem runSyms_succ (b l n : Nat) : runSyms b l (n + 1) = runSyms b l n ++ [(b, l + n * 2 ^ b, 2 ^ b)] := by simp [runSyms, List.range_succ]
/-- What was made of the first j counts: the symbols, and the least number of the next one. -/
def madeSyms (l0 : Nat) (many : List Nat) : Nat → List (Nat × Nat × Nat) × Nat
  | 0 => ([], l0)
  | j + 1 => ((madeSyms l0 many j).1 ++ runSyms j (madeSyms l0 many j).2 (nth many j), (madeSyms l0 many j).2 + nth many j * 2 ^ j)

def symCells (l : List (Nat × Nat × Nat)) : List Value := l.flatMap fun s => [.int .i64 (s.1 : Int), .int .i64 (s.2.1 : Int), .int .i64 (s.2.2 : Int)]
theorem symCells_length (a : List (Nat × Nat × Nat)) : (symCells a).length = a.length * 3 := by
  induction a with
  | nil => rfl
  | cons x a ih => simp [symCells] at ih ⊢; omega

theorem madeSyms_le (l0 : Nat) (many : List Nat) (hm : ∀ x ∈ many, x ≤ 8) (j : Nat) : (madeSyms l0 many j).2 ≤ l0 + 8 * 2 ^ j ∧ (madeSyms l0 many j).1.length ≤ 8 * j := by
  induction j with
  | zero => simp [madeSyms]
  | succ j ih =>
    have h8 : nth many j < 9 := nth_lt (fun x hx => by have := hm x hx; omega) (by omega) j
    have h2 : nth many j * 2 ^ j ≤ 8 * 2 ^ j := Nat.mul_le_mul_right _ (by omega)
    simp only [madeSyms, List.length_append, Nat.pow_succ]
    refine ⟨by omega, ?_⟩
    simp [runSyms]; omega

/-- What holds of a kind that is being made, at a round's head. -/
def OfRel (w : World) (first l0 : Nat) (many : List Nat) (k : Nat) (vl vi : Value) (wr : World) : Prop :=
  ∃ j A c, j ≤ many.length ∧ k = many.length - j ∧ vi = .int .i64 (j : Nat) ∧ vl = .int .i64 ((madeSyms l0 many j).2 : Nat) ∧
    Blk wr w.heap.size 174 #[.int .i64 first, .slice A (madeSyms l0 many j).1.length c] ∧
    wr.ownsRow w.heap.size 170 3 (.slice A (madeSyms l0 many j).1.length c) (madeSyms l0 many j).1.length (symCells (madeSyms l0 many j).1) ∧ Below w.heap.size w wr
def OfIn (w : World) (first l0 : Nat) (many : List Nat) (j : Nat) (k : Nat) (vl vi : Value) (wr : World) : Prop :=
  ∃ i A c ss, i ≤ nth many j ∧ k = nth many j - i ∧ vi = .int .i64 (i : Nat) ∧ vl = .int .i64 (((madeSyms l0 many j).2 + i * 2 ^ j : Nat) : Int) ∧ ss = (madeSyms l0 many j).1 ++ runSyms j (madeSyms l0 many j).2 i ∧
    Blk wr w.heap.size 174 #[.int .i64 first, .slice A ss.length c] ∧
    wr.ownsRow w.heap.size 170 3 (.slice A ss.length c) ss.length (symCells ss) ∧ Below w.heap.size w wr

set_option maxHeartbeats 400000 in
theorem reach_of_any (first least : Nat) (A : Option Addr) (c : Nat) (many : List Nat) (w : World) (hl : Sl w A (many.map fun (x : Nat) => Value.int .i64 (x : Int))) (hm : ∀ x ∈ many, x ≤ 8) (hn : many.length ≤ 16) (_hf : first ≤ 1000) (hle : least ≤ 1000) :
    Calls Tryz.prog 112 #[.int .i64 first, .int .i64 least, .slice A many.length c] w fun e w' => 
      ∃ A' c', e = .returned (.agg #[.int .i64 first, .slice A' (madeSyms least many many.length).1.length c']) ∧ w'.ownsRow w.heap.size 170 3 (.slice A' (madeSyms least many many.length).1.length c') (madeSyms least many many.length).1.length (symCells (madeSyms least many many.length).1) ∧ Below w.heap.size w w' := by
  obtain ⟨i0, hi0, hz0, hz1, hz2⟩ := info_parts info_sym
  go_enter Tryz.func112, Tryz.ntmps112
  go_wp2_with fail
  go_loopg [1, 13] many.length (OfRel w first least many)
  case atStart => exact ⟨0, none, 0, by omega, by omega, rfl, rfl, Blk.new _ _ _, World.ownsRow_nil _ _ _ _, (Below.refl _ _).alloc (Nat.le_refl _) _⟩
  case round =>
    obtain ⟨j, A', c', hj, hk, rfl, rfl, hblk, hown, hbel⟩ := hrel
    have hj8 : nth many j < 9 := nth_lt (fun x hx => by have := hm x hx; omega) (by omega) j
    obtain ⟨hle2, hlen2⟩ := madeSyms_le least many hm j
    have hp : 2 ^ j ≤ 2 ^ 16 := pow2_le _ _ (by omega)
    have c0 : wr.cell? ⟨w.heap.size, 0, none⟩ = some (.int .i64 (first : Int)) := hblk.cell 0
    have c1 : wr.cell? ⟨w.heap.size, 1, none⟩ = some (.slice A' (madeSyms least many j).1.length c') := hblk.cell 1
    have f0 := hblk.frozen 0
    have f1 := hblk.frozen 1
    by_cases hlt : j < many.length
    · obtain ⟨b, off, rfl, hc⟩ := (hl.below hbel) (by simp; omega)
      have hcell : wr.cell? ⟨b, off + j, none⟩ = some (.int .i64 ((nth many j : Nat) : Int)) := hc j _ (by simp [nth, List.getElem?_eq_getElem hlt])
      clear hc
      go_wp2_with fail
      clear c0 c1 f0 f1
      obtain ⟨wo, rfl⟩ : ∃ wo : World, wo = wr := ⟨_, rfl⟩
      go_loopg [1, 19] (nth many j) (OfIn w first least many j)
      case atStart => exact ⟨0, A', c', (madeSyms least many j).1, by omega, by omega, rfl, by simp, by simp [runSyms], hblk, hown, hbel⟩
      case round =>
        obtain ⟨i, A2, c2, ss, hi, hk2, rfl, rfl, hss, hblk, hown, hbel⟩ := hrel
        have c0 : wr.cell? ⟨w.heap.size, 0, none⟩ = some (.int .i64 (first : Int)) := hblk.cell 0
        have c1 : wr.cell? ⟨w.heap.size, 1, none⟩ = some (.slice A2 ss.length c2) := hblk.cell 1
        have f0 := hblk.frozen 0
        have f1 := hblk.frozen 1
        have hssl : ss.length ≤ 8 * j + i := by rw [hss]; simp [runSyms]; omega
        have hp2 : i * 2 ^ j ≤ 8 * 2 ^ j := Nat.mul_le_mul_right _ (by omega)
        have Hss := Lib.hid hss
        by_cases hlt2 : i < nth many j
        · obtain ⟨P, hP, hP2⟩ : ∃ P : Nat, (2 : Int) ^ j = (P : Int) ∧ P = 2 ^ j := ⟨2 ^ j, by simp, rfl⟩
          have hPle : P ≤ 65536 := by omega
          have hw1 := IntWalk.i64_in (P : Int) (by omega)
          obtain ⟨L, hL⟩ : ∃ L : Nat, (madeSyms least many j).2 + i * 2 ^ j = L := ⟨_, rfl⟩
          have hLle : L ≤ 2000000 := by omega
          have hss3 : (ss ++ [(j, L, P)]).length = ss.length + 1 := by simp
          have hss2 : ss ++ [(j, L, P)] = (madeSyms least many j).1 ++ runSyms j (madeSyms least many j).2 (i + 1) := by rw [hss, runSyms_succ, hL, hP2]; simp
          have hL2 : (madeSyms least many j).2 + (i + 1) * 2 ^ j = L + P := by simp only [Nat.add_mul, Nat.one_mul, hP2, ← hL, Nat.add_assoc]
          have hB : w.heap.size ≤ wr.heap.size := hbel.size
          have hne : (Value.slice A2 ss.length c2).ownBlock ≠ some w.heap.size := own_blk_ne hown hblk (by decide)
          have hlt3 := hblk.lt
          rw [hL]
          have H := Lib.hid (And.intro hss (And.intro hP2 (And.intro hss2 (And.intro hL2 (And.intro hss3 hne)))))
          clear hss hP2 hss2 hL2 hss3 hL hp2 hp hle2 hlen2 hne
          go_wp2_with fail
          go_region_law (refine step_app _ rfl (.tmp 22) (.tmp 28) _ rfl w.heap.size 170 i0 _ 3 24 Tryz.underlying172 hi0 hz0 hz1 hz2 rfl (by omega) (.slice A2 ss.length c2) ss.length (symCells ss) (by simp [Act.eval]) (by exact hown.alloc _) (some ⟨wr.heap.size, 0, none⟩) 1 1 [.int .i64 (j : Int), .int .i64 (L : Int), .int .i64 (P : Int)] (by simp [Act.eval]) rfl (by exact Sl.new wr _ _ _ rfl) (by simp) (by simp [Value.oneCell']) (ss.length + 1) rfl (symCells (ss ++ [(j, L, P)])) (by simp [symCells]) (by simp only [maxLen]; omega) (by omega) (by simp; omega) ?_; intro A3 c3 w3 hown3 hg3 hat3; have hblk3 : Blk w3 w.heap.size 174 #[.int .i64 (first : Int), .slice A2 ss.length c2] := (hblk.alloc _).drew.grown hg3 (Ne.symm H.out.2.2.2.2.2); have c03 : w3.cell? ⟨w.heap.size, 0, none⟩ = some (.int .i64 (first : Int)) := hblk3.cell 0; have c13 : w3.cell? ⟨w.heap.size, 1, none⟩ = some (.slice A2 ss.length c2) := hblk3.cell 1; have f03 := hblk3.frozen 0; have f13 := hblk3.frozen 1)
          all_goals go_wp2_with fail
          all_goals go_roundg (nth many j - (i + 1))
          all_goals first
            | (case measure => omega)
            | skip
          all_goals
            obtain ⟨hss, hP2, hss2, hL2, hss3, hne⟩ := H.out
            have hne3 := own_ne hat3 hne (by simp; omega)
            rw [← hss3] at hown3
            refine ⟨i + 1, A3, c3, ss ++ [(j, L, P)], by omega, by omega, by go_num, by rw [hL2]; go_num, hss2, ?_, ?_, ?_⟩
            · rw [hss3]; exact hblk3.set_ 1 _
            · exact own_far hown3 (by rw [hss3]; exact hne3) _
            · exact (((hbel.alloc hB _).drew).grown hg3 (by simp; omega) (own_row_ge hown)).setCell (Nat.le_refl _) _
        · obtain rfl : i = nth many j := by omega
          go_wp2_with fail
          go_roundg (many.length - (j + 1))
          case measure => omega
          case rel =>
            obtain rfl := Hss.out
            exact ⟨j + 1, A2, c2, by omega, by omega, by go_num, rfl, hblk, hown, hbel⟩
    · obtain rfl : j = many.length := by omega
      go_wp2_with fail
      refine bodyPost_ret (v := .agg #[.int .i64 (first : Int), .slice A' (madeSyms least many many.length).1.length c']) (by simp [results, Tryz.results112, go_sem, c0, c1]) rfl ⟨A', c', rfl, ?_, (hbel.setCell (Nat.le_refl _) _).setCell (Nat.le_refl _) _⟩
      have hne : (Value.slice A' (madeSyms least many many.length).1.length c').ownBlock ≠ some w.heap.size := own_blk_ne hown hblk (by decide)
      exact own_far (own_far hown hne _) hne _

/-- The tables: extra bits, least number, how many. -/
def longT : List (Nat × Nat × Nat) := [(0, 3, 1), (0, 4, 1), (0, 5, 1), (0, 6, 1), (0, 7, 1), (0, 8, 1), (0, 9, 1), (0, 10, 1), (1, 11, 2), (1, 13, 2), (1, 15, 2), (1, 17, 2), (2, 19, 4), (2, 23, 4), (2, 27, 4), (2, 31, 4), (3, 35, 8), (3, 43, 8), (3, 51, 8), (3, 59, 8), (4, 67, 16), (4, 83, 16), (4, 99, 16), (4, 115, 16), (5, 131, 32), (5, 163, 32), (5, 195, 32), (5, 227, 31), (0, 258, 1)]
def farT : List (Nat × Nat × Nat) := [(0, 1, 1), (0, 2, 1), (0, 3, 1), (0, 4, 1), (1, 5, 2), (1, 7, 2), (2, 9, 4), (2, 13, 4), (3, 17, 8), (3, 25, 8), (4, 33, 16), (4, 49, 16), (5, 65, 32), (5, 97, 32), (6, 129, 64), (6, 193, 64), (7, 257, 128), (7, 385, 128), (8, 513, 256), (8, 769, 256), (9, 1025, 512), (9, 1537, 512), (10, 2049, 1024), (10, 3073, 1024), (11, 4097, 2048), (11, 6145, 2048), (12, 8193, 4096), (12, 12289, 4096), (13, 16385, 8192), (13, 24577, 8192)]
def long0 : List (Nat × Nat × Nat) := longT.take 27 ++ [(5, 227, 32)]
theorem made_long : (madeSyms 3 [8, 4, 4, 4, 4, 4] 6).1 = long0 := by decide
theorem made_far : (madeSyms 1 [4, 2, 2, 2, 2, 2, 2, 2, 2, 2, 2, 2, 2, 2] 14).1 = farT := by decide

theorem of_longs (w : World) (A : Option Addr) (c : Nat) (hl : Sl w A [.int .i64 8, .int .i64 4, .int .i64 4, .int .i64 4, .int .i64 4, .int .i64 4]) :
    Calls Tryz.prog 112 #[.int .i64 257, .int .i64 3, .slice A 6 c] w fun e w' => 
      ∃ A' c', e = .returned (.agg #[.int .i64 257, .slice A' 28 c']) ∧ w'.ownsRow w.heap.size 170 3 (.slice A' 28 c') 28 (symCells long0) ∧ Below w.heap.size w w' := by
  have h := reach_of_any 257 3 A c [8, 4, 4, 4, 4, 4] w hl (by decide) (by decide) (by decide) (by decide)
  have e : [8, 4, 4, 4, 4, 4].length = 6 := rfl
  rw [e, made_long] at h
  exact h
theorem of_fars (w : World) (A : Option Addr) (c : Nat) (hl : Sl w A ([4, 2, 2, 2, 2, 2, 2, 2, 2, 2, 2, 2, 2, 2].map fun (x : Nat) => Value.int .i64 (x : Int))) :
    Calls Tryz.prog 112 #[.int .i64 0, .int .i64 1, .slice A 14 c] w fun e w' => 
      ∃ A' c', e = .returned (.agg #[.int .i64 0, .slice A' 30 c']) ∧ w'.ownsRow w.heap.size 170 3 (.slice A' 30 c') 30 (symCells farT) ∧ Below w.heap.size w w' := by
  have h := reach_of_any 0 1 A c [4, 2, 2, 2, 2, 2, 2, 2, 2, 2, 2, 2, 2, 2] w hl (by decide) (by decide) (by decide) (by decide)
  have e : [4, 2, 2, 2, 2, 2, 2, 2, 2, 2, 2, 2, 2, 2].length = 14 := rfl
  rw [e, made_far] at h
  exact h

end Go.Proofs.YtahboomghjdjhaaGreat

/-
  Walks: the kinds of lengths and distances.
-/
namespace Go.Proofs.YtahboomghjdjhaaGreat
open Go.RowKit

set_option maxHeartbeats 400000 in
set_option maxRecDepth 100000 in
theorem longs_any (w : World) :
    Calls Tryz.prog 103 #[] w fun e w' => 
      ∃ A' c', e = .returned (.agg #[.int .i64 257, .slice A' 29 c']) ∧ w'.ownsRow w.heap.size 170 3 (.slice A' 29 c') 29 (symCells longT) ∧ Below w.heap.size w w' := by
  obtain ⟨i0, hi0, hz0, hz1, hz2⟩ := info_parts info_sym
  go_enter Tryz.func103, Tryz.ntmps103
  go_wp2_with fail
  refine (of_longs _ _ _ (Sl.new' _ _ _ _ _ (by simp) rfl)).mono ?_
  rintro e w1 ⟨A1, c1, rfl, hown, hbel⟩
  obtain ⟨g, hA, hg⟩ := own_at hown (by omega)
  subst hA
  have hblk : Blk w1 w.heap.size 174 #[.int .i64 0, .slice none 0 0] := ((Blk.new w _ _).alloc _).below hbel (by simp; omega)
  have hb : Below w.heap.size w w1 := (((Below.refl _ _).alloc (Nat.le_refl _) _).alloc (by simp) _).trans (hbel.mono (by simp; omega))
  have hz : w.heap.size + 2 ≤ w1.heap.size := by have := hbel.size; simpa using this
  have hg2 : w.heap.size + 2 ≤ g := by simpa using hg
  have hgl : g < w1.heap.size := (hown.lt g rfl).2
  have hc83 : w1.cell? ⟨g, 83, none⟩ = some (.int .i64 32) := hown.cellAt 83 (by omega)
  have hf83 := hown.frozenAt 83
  have hown1 := own_far_base (base' := w.heap.size) hown (by simp; omega)
  clear hown hg hbel
  have hown2 := (hown1.stored 83 (.int .i64 31)).1
  have hset : (symCells long0).set 83 (.int .i64 31) ++ [.int .i64 0, .int .i64 258, .int .i64 1] = symCells longT := rfl
  have Hset := Lib.hid hset; clear hset
  have hbx : Below w.heap.size w (w1.setCell ⟨g, 83, none⟩ (.int .i64 31)) := hb.setCell (by simp; omega) _
  have hblkx : Blk (w1.setCell ⟨g, 83, none⟩ (.int .i64 31)) w.heap.size 174 #[.int .i64 0, .slice none 0 0] := hblk.far (by simp; omega) _
  go_wp2_with
                  (at_builtin
                   refine wpList_app _ rfl (.tmp 20) (.tmp 22) _ rfl w.heap.size 170 i0 _ 3 24 Tryz.underlying172 hi0 hz0 hz1 hz2 rfl (by omega) (.slice (some ⟨g, 0, none⟩) 28 c1) 28 _ rfl (by exact (hown2.alloc _).alloc _) (some ⟨w1.heap.size + 1, 0, none⟩) 1 1 [.int .i64 0, .int .i64 258, .int .i64 1] rfl rfl (by exact Sl.new' _ _ _ _ _ (by simp) rfl) (by simp) (by simp [Value.oneCell']) 29 rfl _ Hset.out.symm (by simp only [maxLen]; omega) (by omega) (by simp; omega) ?_
                   intro A3 c3 w3 hown3 hg3 hat3
                   have hb3 : Below w.heap.size w w3 := (((hbx.alloc (by simp; omega) _).alloc (by simp; omega) _).grown hg3 (by simp; omega) (own_row_ge hown1))
                   have hblk3 : Blk w3 w1.heap.size 174 #[.int .i64 257, .slice (some ⟨g, 0, none⟩) 28 c1] := (((Blk.new' _ _ _ _ (by simp)).alloc _).grown hg3 (by simp [Value.ownBlock]; omega))
                   have hblkr : Blk w3 w.heap.size 174 #[.int .i64 0, .slice none 0 0] := (((hblkx.alloc _).alloc _).grown hg3 (by simp [Value.ownBlock]; omega))
                   have c30 : w3.cell? ⟨w1.heap.size, 0, none⟩ = some (.int .i64 257) := hblk3.cell 0
                   have c31 : w3.cell? ⟨w1.heap.size, 1, none⟩ = some (.slice (some ⟨g, 0, none⟩) 28 c1) := hblk3.cell 1
                   have f31 := hblk3.frozen 1
                   have r30 : w3.cell? ⟨w.heap.size, 0, none⟩ = some (.int .i64 0) := hblkr.cell 0
                   have r31 : w3.cell? ⟨w.heap.size, 1, none⟩ = some (.slice none 0 0) := hblkr.cell 1
                   have q30 := hblkr.frozen 0
                   have q31 := hblkr.frozen 1
                   have hz3 : w1.heap.size < w3.heap.size := by have := hg3.size; simp at this; omega
                   have n1 := own_blk_ne hown3 hblk3 (by decide)
                   have n2 := own_blk_ne hown3 hblkr (by decide)
                   have N := Lib.hid (And.intro n1 n2)
                   clear n1 n2 hblk3 hblkr hg3 hat3)
  refine bodyPost_ret (v := .agg #[.int .i64 257, .slice A3 29 c3]) (by simp [results, Tryz.results103, go_sem, r30, r31]) rfl ⟨A3, c3, rfl, ?_, ?_⟩
  · exact own_far (own_far (own_far hown3 N.out.1 _) N.out.2 _) N.out.2 _
  · exact ((hb3.setCell (by simp; omega) _).setCell (by simp) _).setCell (by simp) _
end Go.Proofs.YtahboomghjdjhaaGreat

/-
  Walks: fars, tell, symbol, number.
-/
namespace Go.Proofs.YtahboomghjdjhaaGreat
open Go.RowKit

set_option maxHeartbeats 400000 in
set_option maxRecDepth 100000 in
theorem fars_any (w : World) :
    Calls Tryz.prog 106 #[] w fun e w' => 
      ∃ A' c', e = .returned (.agg #[.int .i64 0, .slice A' 30 c']) ∧ w'.ownsRow w.heap.size 170 3 (.slice A' 30 c') 30 (symCells farT) ∧ Below w.heap.size w w' := by
  go_enter Tryz.func106, Tryz.ntmps106
  go_wp2_with fail
  refine (of_fars _ _ _ (Sl.new' _ _ _ _ _ (by simp) rfl)).mono ?_
  rintro e w1 ⟨A1, c1, rfl, hown, hbel⟩
  have hblk : Blk w1 w.heap.size 174 #[.int .i64 0, .slice none 0 0] := ((Blk.new w _ _).alloc _).below hbel (by simp; omega)
  have hb : Below w.heap.size w w1 := (((Below.refl _ _).alloc (Nat.le_refl _) _).alloc (by simp) _).trans (hbel.mono (by simp; omega))
  have hown1 := own_far_base (base' := w.heap.size) hown (by simp; omega)
  have r30 : w1.cell? ⟨w.heap.size, 0, none⟩ = some (.int .i64 0) := hblk.cell 0
  have r31 : w1.cell? ⟨w.heap.size, 1, none⟩ = some (.slice none 0 0) := hblk.cell 1
  have q30 := hblk.frozen 0
  have q31 := hblk.frozen 1
  have N := Lib.hid (own_blk_ne hown1 hblk (by decide))
  clear hown hbel hblk
  go_wp2_with fail
  refine bodyPost_ret (v := .agg #[.int .i64 0, .slice A1 30 c1]) (by simp [results, Tryz.results106, go_sem, r30, r31]) rfl ⟨A1, c1, rfl, ?_, ?_⟩
  · exact own_far (own_far hown1 N.out _) N.out _
  · exact (hb.setCell (by simp) _).setCell (by simp) _

/-- A number's symbol, extra bits, extra and error, by a table. -/
def tellT (f : Nat) : List (Nat × Nat × Nat) → Int → Nat × Nat × Int × Nat
  | [], _ => (0, 0, 0, 2)
  | s :: t, n => if (s.2.1 : Int) ≤ n ∧ n < s.2.1 + s.2.2 then (f, s.1, n - s.2.1, 0) else tellT (f + 1) t n

/-- A table's row, or noughts. -/
def rowT (t : List (Nat × Nat × Nat)) (i : Nat) : Nat × Nat × Nat := t[i]?.getD (0, 0, 0)

theorem symCells_at (t : List (Nat × Nat × Nat)) (i : Nat) (hi : i < t.length) :
    (symCells t)[i * 3]? = some (.int .i64 ((rowT t i).1 : Int)) ∧ (symCells t)[i * 3 + 1]? = some (.int .i64 ((rowT t i).2.1 : Int)) ∧ (symCells t)[i * 3 + 2]? = some (.int .i64 ((rowT t i).2.2 : Int)) := by
  induction t generalizing i with
  | nil => simp at hi
  | cons s t ih =>
    have e : symCells (s :: t) = .int .i64 (s.1 : Int) :: .int .i64 (s.2.1 : Int) :: .int .i64 (s.2.2 : Int) :: symCells t := rfl
    cases i with
    | zero => simp [e, rowT]
    | succ i =>
      have := ih i (by simpa using hi)
      rw [e]
      have h1 : (i + 1) * 3 = i * 3 + 1 + 1 + 1 := by omega
      rw [h1]
      simpa [rowT] using this

def TellRel (w : World) (f : Nat) (t : List (Nat × Nat × Nat)) (n : Int) (A : Option Addr) (c : Nat) (k : Nat) (vi : Value) (wr : World) : Prop :=
  ∃ i, i ≤ t.length ∧ k = t.length - i ∧ vi = .int .i64 (i : Nat) ∧ tellT (f + i) (t.drop i) n = tellT f t n ∧ Blk wr w.heap.size 174 #[.int .i64 (f : Int), .slice A t.length c] ∧ Below w.heap.size w wr

/-- A symbol's row, by a table; is there one? -/
def hasSym (f : Nat) (t : List (Nat × Nat × Nat)) (sym : Int) : Bool := decide ((f : Int) ≤ sym ∧ sym < f + t.length)

set_option maxHeartbeats 400000 in
theorem symbol_no (f : Nat) (t : List (Nat × Nat × Nat)) (sym : Int) (A : Option Addr) (c : Nat) (w : World) (ht : t.length ≤ 100) (hf : f ≤ 1000) (_h1 : -9223372036854775808 ≤ sym) (_h2 : sym ≤ 9223372036854775807) (h : sym < f ∨ (f : Int) + t.length ≤ sym) :
    Calls Tryz.prog 104 #[.agg #[.int .i64 f, .slice A t.length c], .int .i64 sym] w fun e w' => 
      e = .returned (.tuple #[.agg #[.int .i64 0, .int .i64 0, .int .i64 0], .int .i64 90]) ∧ Below w.heap.size w w' := by
  by_cases ha : sym < f
  · clear h
    go_enter Tryz.func104, Tryz.ntmps104
    go_wp2_with fail
    refine bodyPost_ret (v := .tuple #[.agg #[.int .i64 0, .int .i64 0, .int .i64 0], .int .i64 90]) (by simp [results, Tryz.results104, go_sem]) rfl ⟨rfl, ?_⟩
    exact ((Below.refl _ _).alloc (Nat.le_refl _) _).alloc (by simp) _
  · have h3 : (f : Int) + t.length ≤ sym := by omega
    clear h
    go_enter Tryz.func104, Tryz.ntmps104
    go_wp2_with fail
    refine bodyPost_ret (v := .tuple #[.agg #[.int .i64 0, .int .i64 0, .int .i64 0], .int .i64 90]) (by simp [results, Tryz.results104, go_sem]) rfl ⟨rfl, ?_⟩
    exact ((Below.refl _ _).alloc (Nat.le_refl _) _).alloc (by simp) _

set_option maxHeartbeats 400000 in
theorem symbol_yes (f i : Nat) (t : List (Nat × Nat × Nat)) (A : Option Addr) (c : Nat) (w : World) (hs : Sl w A (symCells t)) (ht : t.length ≤ 100) (hf : f ≤ 1000) (hi : i < t.length) (sym : Int) (hsym : sym = f + i) :
    Calls Tryz.prog 104 #[.agg #[.int .i64 f, .slice A t.length c], .int .i64 sym] w fun e w' => 
      e = .returned (.tuple #[.agg #[.int .i64 (rowT t i).1, .int .i64 (rowT t i).2.1, .int .i64 (rowT t i).2.2], .int .i64 0]) ∧ Below w.heap.size w w' := by
  subst hsym
  obtain ⟨b, off, rfl, hc⟩ := hs (by rw [symCells_length]; omega)
  obtain ⟨k0, k1, k2⟩ := symCells_at t i hi
  have c0 := hc _ _ k0
  have c1 : w.cell? ⟨b, off + i * 3 + 1, none⟩ = _ := hc _ _ k1
  have c2 : w.cell? ⟨b, off + i * 3 + 2, none⟩ = _ := hc _ _ k2
  have e1 : ((f : Int) + i - f) = i := by omega
  have hbl := cell_lt c0
  clear hc hs k0 k1 k2
  generalize rowT t i = r at *
  go_enter Tryz.func104, Tryz.ntmps104
  go_wp2_with fail
  refine bodyPost_ret (v := .tuple #[.agg #[.int .i64 r.1, .int .i64 r.2.1, .int .i64 r.2.2], .int .i64 0]) (by simp [results, Tryz.results104, go_sem]) rfl ⟨rfl, ?_⟩
  exact ((Below.refl _ _).alloc (Nat.le_refl _) _).alloc (by simp) _

/-- A number of a symbol and its extra, by a table. -/
def numE (f : Nat) (t : List (Nat × Nat × Nat)) (sym extra : Int) : Nat :=
  if sym < f ∨ (f : Int) + t.length ≤ sym then 90
  else if extra < 0 ∨ ((2 ^ (rowT t (sym - f).toNat).1 : Nat) : Int) ≤ extra then 2
  else if ((rowT t (sym - f).toNat).2.2 : Int) ≤ extra then 90 else 0
def numV (f : Nat) (t : List (Nat × Nat × Nat)) (sym extra : Int) : Int :=
  if numE f t sym extra = 0 then (rowT t (sym - f).toNat).2.1 + extra else 0

set_option maxHeartbeats 400000 in
theorem number_any (f : Nat) (t : List (Nat × Nat × Nat)) (sym extra : Int) (A : Option Addr) (c : Nat) (w : World) (hs : Sl w A (symCells t)) (ht : t.length ≤ 100) (hf : f ≤ 1000) (hb : ∀ s ∈ t, s.1 ≤ 20 ∧ s.2.1 ≤ 100000 ∧ s.2.2 ≤ 100000)
    (h1 : -9223372036854775808 ≤ sym) (h2 : sym ≤ 9223372036854775807) (h3 : -9223372036854775808 ≤ extra) (h4 : extra ≤ 9223372036854775807) :
    Calls Tryz.prog 105 #[.agg #[.int .i64 f, .slice A t.length c], .int .i64 sym, .int .i64 extra] w fun e w' => 
      e = .returned (.tuple #[.int .i64 (numV f t sym extra), .int .i64 (numE f t sym extra)]) ∧ Below w.heap.size w w' := by
  by_cases h : sym < f ∨ (f : Int) + t.length ≤ sym
  · have hE : numE f t sym extra = 90 := by simp only [numE, if_pos h]
    have hV : numV f t sym extra = 0 := by simp [numV, hE]
    rw [hE, hV]
    clear hE hV
    have H := Lib.hid h; clear h
    go_enter Tryz.func105, Tryz.ntmps105
    go_wp2_with fail
    refine (symbol_no f t sym A c _ ht hf h1 h2 H.out).mono ?_
    rintro e w1 ⟨rfl, hb1⟩
    have hbel : Below w.heap.size w w1 := ((Below.refl _ _).alloc (Nat.le_refl _) _).trans (hb1.mono (by simp))
    clear hb1
    go_wp2_with fail
    go_ret2
    exact ⟨rfl, hbel.alloc hbel.size _⟩
  · obtain ⟨i, rfl⟩ : ∃ i : Nat, sym = f + i := ⟨(sym - f).toNat, by omega⟩
    have hi : i < t.length := by omega
    have ei : ((f : Int) + i - f).toNat = i := by omega
    have hrow : (rowT t i).1 ≤ 20 ∧ (rowT t i).2.1 ≤ 100000 ∧ (rowT t i).2.2 ≤ 100000 := by
      have : rowT t i ∈ t := by simp [rowT, List.getElem?_eq_getElem hi]
      exact hb _ this
    have hE : numE f t (f + i) extra = if extra < 0 ∨ ((2 ^ (rowT t i).1 : Nat) : Int) ≤ extra then 2 else if ((rowT t i).2.2 : Int) ≤ extra then 90 else 0 := by simp only [numE, if_neg h, ei]
    have hV : numV f t (f + i) extra = if numE f t (f + i) extra = 0 then (rowT t i).2.1 + extra else 0 := by simp only [numV, ei]
    have hp : 2 ^ (rowT t i).1 ≤ 2 ^ 20 := pow2_le _ _ hrow.1
    clear ei h
    have hsy := symbol_yes f i t A c (w.alloc (.cells #[.int .i64 (f : Int), .slice A t.length c] 174)) (hs.alloc _) ht hf hi _ rfl
    generalize rowT t i = r at *
    obtain ⟨rb, rl, rm⟩ := r
    dsimp only at hrow hp hsy hE hV
    obtain ⟨hr1, hr2, hr3⟩ := hrow
    obtain ⟨P, hP⟩ : ∃ P : Nat, (2 : Int) ^ rb = (P : Int) ∧ P = 2 ^ rb := ⟨2 ^ rb, by simp, rfl⟩
    rw [← hP.2] at hp hE
    have hP1 := hP.1
    have hw1 := IntWalk.i64_in (P : Int) (by omega)
    have HS := Lib.hid hsy
    clear hsy hP
    generalize numE f t (f + i) extra = E at *
    generalize numV f t (f + i) extra = V at *
    by_cases ha : extra < 0
    · obtain rfl : E = 2 := by rw [hE]; simp [ha]
      obtain rfl : V = 0 := by rw [hV]; simp
      clear hE hV
      go_enter Tryz.func105, Tryz.ntmps105
      go_wp2_with fail
      refine HS.out.mono ?_
      rintro e w1 ⟨rfl, hb1⟩
      have hbel : Below w.heap.size w w1 := ((Below.refl _ _).alloc (Nat.le_refl _) _).trans (hb1.mono (by simp))
      clear hb1
      go_wp2_with fail
      go_ret2
      exact ⟨rfl, hbel.alloc hbel.size _⟩
    · by_cases hb : (P : Int) ≤ extra
      · obtain rfl : E = 2 := by rw [hE]; simp [hb]
        obtain rfl : V = 0 := by rw [hV]; simp
        clear hE hV
        go_enter Tryz.func105, Tryz.ntmps105
        go_wp2_with fail
        refine HS.out.mono ?_
        rintro e w1 ⟨rfl, hb1⟩
        have hbel : Below w.heap.size w w1 := ((Below.refl _ _).alloc (Nat.le_refl _) _).trans (hb1.mono (by simp))
        clear hb1
        go_wp2_with fail
        go_ret2
        exact ⟨rfl, hbel.alloc hbel.size _⟩
      · by_cases hc : (rm : Int) ≤ extra
        · obtain rfl : E = 90 := by rw [hE]; simp [ha, hb, hc]
          obtain rfl : V = 0 := by rw [hV]; simp
          clear hE hV
          go_enter Tryz.func105, Tryz.ntmps105
          go_wp2_with fail
          refine HS.out.mono ?_
          rintro e w1 ⟨rfl, hb1⟩
          have hbel : Below w.heap.size w w1 := ((Below.refl _ _).alloc (Nat.le_refl _) _).trans (hb1.mono (by simp))
          clear hb1
          go_wp2_with fail
          go_ret2
          exact ⟨rfl, hbel.alloc hbel.size _⟩
        · obtain rfl : E = 0 := by rw [hE]; simp [ha, hb, hc]
          obtain rfl : V = rl + extra := by rw [hV]; simp
          clear hE hV
          go_enter Tryz.func105, Tryz.ntmps105
          go_wp2_with fail
          refine HS.out.mono ?_
          rintro e w1 ⟨rfl, hb1⟩
          have hbel : Below w.heap.size w w1 := ((Below.refl _ _).alloc (Nat.le_refl _) _).trans (hb1.mono (by simp))
          clear hb1
          go_wp2_with fail
          go_ret2
          exact ⟨rfl, hbel.alloc hbel.size _⟩
end Go.Proofs.YtahboomghjdjhaaGreat

/-
  Walks: Long, Far, LongBits, FarBits, LongOf, FarOf.
-/
namespace Go.Proofs.YtahboomghjdjhaaGreat
open Go.RowKit

set_option maxHeartbeats 400000 in
theorem LongOf_any (sym extra : Int) (w : World) (h1 : -9223372036854775808 ≤ sym) (h2 : sym ≤ 9223372036854775807) (h3 : -9223372036854775808 ≤ extra) (h4 : extra ≤ 9223372036854775807) :
    Calls Tryz.prog 82 #[.int .i64 sym, .int .i64 extra] w fun e w' => 
      e = .returned (.tuple #[.int .i64 (numV 257 longT sym extra), .int .i64 (numE 257 longT sym extra)]) ∧ Below w.heap.size w w' := by
  go_enter Tryz.func82, Tryz.ntmps82
  go_wp2_with fail
  refine (longs_any _).mono ?_
  rintro e w1 ⟨A1, c1, rfl, hown, hb1⟩
  go_wp2_with fail
  refine (number_any 257 longT sym extra A1 c1 _ (Sl.of_own hown) (by decide) (by decide) (by decide) h1 h2 h3 h4).mono ?_
  rintro e w2 ⟨rfl, hb2⟩
  have hb : Below w.heap.size w w2 := hb1.trans (hb2.mono hb1.size)
  clear hown hb1 hb2
  go_wp2_with fail
  go_ret2
  exact ⟨rfl, hb⟩

set_option maxHeartbeats 400000 in
theorem LongBits_bad (sym : Int) (w : World) (h1 : -9223372036854775808 ≤ sym) (h2 : sym ≤ 9223372036854775807) (h : sym < 257 ∨ 285 < sym) :
    Calls Tryz.prog 81 #[.int .i64 sym] w fun e w' => e = .returned (.tuple #[.int .i64 0, .int .i64 90]) ∧ Below w.heap.size w w' := by
  have hx : sym < ((257 : Nat) : Int) ∨ ((257 : Nat) : Int) + (longT).length ≤ sym := by
    have : (longT).length = 29 := rfl
    omega
  have H := Lib.hid hx; clear hx h
  go_enter Tryz.func81, Tryz.ntmps81
  go_wp2_with fail
  refine (longs_any _).mono ?_
  rintro e w1 ⟨A1, c1, rfl, hown, hb1⟩
  go_wp2_with fail
  refine (symbol_no 257 longT sym A1 c1 _ (by decide) (by decide) h1 h2 H.out).mono ?_
  rintro e w2 ⟨rfl, hb2⟩
  have hb : Below w.heap.size w w2 := hb1.trans (hb2.mono hb1.size)
  clear hown hb1 hb2
  go_wp2_with fail
  go_ret2
  exact ⟨rfl, hb.alloc hb.size _⟩

set_option maxHeartbeats 400000 in
theorem LongBits_ok (i : Nat) (w : World) (hi : i < 29) (sym : Int) (hsym : sym = (257 + i : Int)) :
    Calls Tryz.prog 81 #[.int .i64 sym] w fun e w' => e = .returned (.tuple #[.int .i64 (rowT longT i).1, .int .i64 0]) ∧ Below w.heap.size w w' := by
  subst hsym
  go_enter Tryz.func81, Tryz.ntmps81
  go_wp2_with fail
  refine (longs_any _).mono ?_
  rintro e w1 ⟨A1, c1, rfl, hown, hb1⟩
  go_wp2_with fail
  refine (symbol_yes 257 i longT A1 c1 _ (Sl.of_own hown) (by decide) (by decide) hi _ (by simp)).mono ?_
  rintro e w2 ⟨rfl, hb2⟩
  have hb : Below w.heap.size w w2 := hb1.trans (hb2.mono hb1.size)
  generalize hr : rowT longT i = r at *
  have Hr := Lib.hid hr; clear hr hown hb1 hb2
  go_wp2_with fail
  go_ret2
  exact ⟨by rw [Hr.out]; rfl, hb.alloc hb.size _⟩

set_option maxHeartbeats 400000 in
theorem FarOf_any (sym extra : Int) (w : World) (h1 : -9223372036854775808 ≤ sym) (h2 : sym ≤ 9223372036854775807) (h3 : -9223372036854775808 ≤ extra) (h4 : extra ≤ 9223372036854775807) :
    Calls Tryz.prog 84 #[.int .i64 sym, .int .i64 extra] w fun e w' => 
      e = .returned (.tuple #[.int .i64 (numV 0 farT sym extra), .int .i64 (numE 0 farT sym extra)]) ∧ Below w.heap.size w w' := by
  go_enter Tryz.func84, Tryz.ntmps84
  go_wp2_with fail
  refine (fars_any _).mono ?_
  rintro e w1 ⟨A1, c1, rfl, hown, hb1⟩
  go_wp2_with fail
  refine (number_any 0 farT sym extra A1 c1 _ (Sl.of_own hown) (by decide) (by decide) (by decide) h1 h2 h3 h4).mono ?_
  rintro e w2 ⟨rfl, hb2⟩
  have hb : Below w.heap.size w w2 := hb1.trans (hb2.mono hb1.size)
  clear hown hb1 hb2
  go_wp2_with fail
  go_ret2
  exact ⟨rfl, hb⟩

set_option maxHeartbeats 400000 in
theorem FarBits_bad (sym : Int) (w : World) (h1 : -9223372036854775808 ≤ sym) (h2 : sym ≤ 9223372036854775807) (h : sym < 0 ∨ 29 < sym) :
    Calls Tryz.prog 83 #[.int .i64 sym] w fun e w' => e = .returned (.tuple #[.int .i64 0, .int .i64 90]) ∧ Below w.heap.size w w' := by
  have hx : sym < ((0 : Nat) : Int) ∨ ((0 : Nat) : Int) + (farT).length ≤ sym := by
    have : (farT).length = 30 := rfl
    omega
  have H := Lib.hid hx; clear hx h
  go_enter Tryz.func83, Tryz.ntmps83
  go_wp2_with fail
  refine (fars_any _).mono ?_
  rintro e w1 ⟨A1, c1, rfl, hown, hb1⟩
  go_wp2_with fail
  refine (symbol_no 0 farT sym A1 c1 _ (by decide) (by decide) h1 h2 H.out).mono ?_
  rintro e w2 ⟨rfl, hb2⟩
  have hb : Below w.heap.size w w2 := hb1.trans (hb2.mono hb1.size)
  clear hown hb1 hb2
  go_wp2_with fail
  go_ret2
  exact ⟨rfl, hb.alloc hb.size _⟩

set_option maxHeartbeats 400000 in
theorem FarBits_ok (i : Nat) (w : World) (hi : i < 30) (sym : Int) (hsym : sym = (i : Int)) :
    Calls Tryz.prog 83 #[.int .i64 sym] w fun e w' => e = .returned (.tuple #[.int .i64 (rowT farT i).1, .int .i64 0]) ∧ Below w.heap.size w w' := by
  subst hsym
  go_enter Tryz.func83, Tryz.ntmps83
  go_wp2_with fail
  refine (fars_any _).mono ?_
  rintro e w1 ⟨A1, c1, rfl, hown, hb1⟩
  go_wp2_with fail
  refine (symbol_yes 0 i farT A1 c1 _ (Sl.of_own hown) (by decide) (by decide) hi _ (by simp)).mono ?_
  rintro e w2 ⟨rfl, hb2⟩
  have hb : Below w.heap.size w w2 := hb1.trans (hb2.mono hb1.size)
  generalize hr : rowT farT i = r at *
  have Hr := Lib.hid hr; clear hr hown hb1 hb2
  go_wp2_with fail
  go_ret2
  exact ⟨by rw [Hr.out]; rfl, hb.alloc hb.size _⟩
end Go.Proofs.YtahboomghjdjhaaGreat
