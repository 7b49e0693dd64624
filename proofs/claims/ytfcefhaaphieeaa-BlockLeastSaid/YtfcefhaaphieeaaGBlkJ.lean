/-
  Walks: a dynamic block's lengths: how often, the least lengths.
-/
import Derived.Test.YtfcefhaaphieeaaG05
import Derived.Test.YtfcefhaaphieeaaGBlkI
import Derived.Test.YtfcefhaaphieeaaGBuildD
import Derived.Test.YtfcefhaaphieeaaGRunsD
namespace Go.Proofs.Ytfcefhaaphieeaa
open Go.RowKit Go.Shelf

theorem Arr.rd {w : World} {g : Nat} {t : TypeId} {n : Nat} {f : Nat → Value} (h : Arr w g t n f) : Rd w (some ⟨g, 0, none⟩) ((List.range n).map f) := by
  refine ⟨fun hn => ⟨g, 0, rfl, fun i u hu => ?_⟩, fun e => by cases e⟩
  rw [Nat.zero_add, (Blk.cell h i)]
  unfold cellsOf
  simpa using hu
theorem freq_ints (far : Bool) (N : Nat) (ss : List Sy) : (List.range N).map (fun i => Value.int .i64 ((oftS far ss i : Nat) : Int)) = ints (freqL far N ss) := by
  unfold freqL ints
  rw [List.map_map]; rfl
theorem freqR_ints (rs : List (Int × Int)) : (List.range 19).map (fun i => Value.int .i64 ((oftR rs i : Nat) : Int)) = ints (freqR rs) := by
  unfold freqR ints
  rw [List.map_map]; rfl
theorem ask_zero {fr : List Int} {L : Nat} (h1 : 1 ≤ L) (h2 : L ≤ 15) (hl : fr.length ≤ 320) (hp : fr.length ≤ 2 ^ L) (hx : ∀ x ∈ fr, 0 ≤ x ∧ x ≤ 1073741824) : askE fr (L : Int) = 0 := by
  unfold askE
  rw [if_neg (by omega), if_neg (by omega), if_neg, if_neg]
  · have := posL_len fr fr.length
    rw [Int.toNat_natCast]; omega
  · intro h
    obtain ⟨x, hx', hb⟩ := List.any_eq_true.1 h
    have := of_decide_eq_true hb
    have := hx x hx'
    omega
theorem freqL_in (far : Bool) (N : Nat) (ss : List Sy) (h : ss.length ≤ 1000000) : ∀ x ∈ freqL far N ss, 0 ≤ x ∧ x ≤ 1073741824 := fun x hx => by
  obtain ⟨i, _, rfl⟩ := List.mem_map.1 hx
  have := oftS_le far ss i
  omega
theorem freqR_in (rs : List (Int × Int)) (h : rs.length ≤ 1000000) : ∀ x ∈ freqR rs, 0 ≤ x ∧ x ≤ 1073741824 := fun x hx => by
  obtain ⟨i, _, rfl⟩ := List.mem_map.1 hx
  have := oftR_le rs i
  omega

theorem min_any (F : Option Addr) (n c : Nat) (fr : List Int) (L : Nat) (w : World) (hF : Rd w F (ints fr)) (hn : n = fr.length) (h1 : 1 ≤ L) (h2 : L ≤ 15) (hl : fr.length ≤ 320) (hp : fr.length ≤ 2 ^ L) (hx : ∀ x ∈ fr, 0 ≤ x ∧ x ≤ 1073741824) :
    Calls Try.prog 55 #[.slice F n c, .int .i64 (L : Int)] w fun e w' => ∃ A d, e = .returned (.tuple #[.slice A n d, .int .i64 0]) ∧ Builds w w' 5 1 A n d (u8s (minL fr L)) := by
  have h0 := ask_zero h1 h2 hl hp hx
  refine (lengths_is F n c fr L w hF hn (by omega) (by omega) (by omega)).mono ?_
  rintro e w' (⟨hne, _⟩ | ⟨_, A, d, ys, hi, _, rfl, hB⟩)
  · exact absurd h0 hne
  · rw [minL_eq hi, hn]
    rw [Int.toNat_natCast] at hB
    exact ⟨A, d, rfl, hB⟩

/-- A text, behind a cell that is not its own. -/
theorem TxAt.set {W w : World} {g : Nat} {L : List (Nat × Nat)} (h : TxAt W w g L) {k : Nat} {t : TypeId} {cs : Array Value} (hk : Blk w k t cs) (h1 : t ≠ 71) (h2 : t ≠ 73) (hW : W.heap.size ≤ k) (i : Nat) (v : Value) : TxAt W (w.setCell ⟨k, i, none⟩ v) g L := by
  obtain ⟨A, c, a1, a2, a3⟩ := h
  refine ⟨A, c, a1.far (p := ⟨k, i, none⟩) (a1.ne_ hk (fun e => h1 e.symm)) v, ⟨a2.1.setCell hW v, own_far a2.2 (own_blk_ne a2.2 hk (fun e => h2 e.symm)) v⟩, a3⟩

/-- What lies in memory while symbols are counted. -/
structure LenJ (W0 : World) (g : Nat) (L : List (Nat × Nat)) (gl gf : Nat) (pre : List Sy) (W : World) : Prop where
  tx : TxAt W0 W g L
  al : Arr W gl 103 286 fun i => .int .i64 ((oftS false pre i : Nat) : Int)
  af : Arr W gf 104 30 fun i => .int .i64 ((oftS true pre i : Nat) : Int)
  hl : W0.heap.size ≤ gl
  hf : W0.heap.size ≤ gf

theorem LenJ.below {W0 : World} {g : Nat} {L : List (Nat × Nat)} {gl gf : Nat} {pre : List Sy} {W W' : World} (h : LenJ W0 g L gl gf pre W) (hb : Below W.heap.size W W') : LenJ W0 g L gl gf pre W' :=
  ⟨h.tx.below hb, h.al.below hb h.al.lt, h.af.below hb h.af.lt, h.hl, h.hf⟩

/-- One more symbol. -/
theorem LenJ.far {W0 : World} {g : Nat} {L : List (Nat × Nat)} {gl gf : Nat} {pre : List Sy} {W : World} (h : LenJ W0 g L gl gf pre W) (y n x v : Nat) (hv : oftS true pre y = v) :
    LenJ W0 g L gl gf (pre ++ [⟨true, y, n, x⟩]) (W.setCell ⟨gf, y, none⟩ (.int .i64 ((v : Int) + 1))) := by
  have hne : gl ≠ gf := Blk.ne_ h.al h.af (by decide)
  refine ⟨h.tx.set h.af (by decide) (by decide) h.hf _ _, ?_, ?_, h.hl, h.hf⟩
  · refine (h.al.far (p := ⟨gf, y, none⟩) hne _).congr fun k _ => ?_
    rw [oftS_snoc, if_neg (by simp)]
  · refine (h.af.set y _).congr fun k _ => ?_
    rw [oftS_snoc]
    by_cases e : k = y
    · subst e
      rw [if_pos rfl, if_pos ⟨rfl, rfl⟩, hv]; simp
    · rw [if_neg e, if_neg (fun h => e h.2.symm)]
theorem LenJ.near {W0 : World} {g : Nat} {L : List (Nat × Nat)} {gl gf : Nat} {pre : List Sy} {W : World} (h : LenJ W0 g L gl gf pre W) (y n x v : Nat) (hv : oftS false pre y = v) :
    LenJ W0 g L gl gf (pre ++ [⟨false, y, n, x⟩]) (W.setCell ⟨gl, y, none⟩ (.int .i64 ((v : Int) + 1))) := by
  have hne : gf ≠ gl := Blk.ne_ h.af h.al (by decide)
  refine ⟨h.tx.set h.al (by decide) (by decide) h.hl _ _, ?_, ?_, h.hl, h.hf⟩
  · refine (h.al.set y _).congr fun k _ => ?_
    rw [oftS_snoc]
    by_cases e : k = y
    · subst e
      rw [if_pos rfl, if_pos ⟨rfl, rfl⟩, hv]; simp
    · rw [if_neg e, if_neg (fun h => e h.2.symm)]
  · refine (h.af.far (p := ⟨gl, y, none⟩) hne _).congr fun k _ => ?_
    rw [oftS_snoc, if_neg (by simp)]

set_option maxRecDepth 100000 in
set_option maxHeartbeats 2000000 in
theorem lenclo_any (W0 : World) (g : Nat) (L : List (Nat × Nat)) (gl gf : Nat) (pre : List Sy) (s : Sy) (W : World) (h : LenJ W0 g L gl gf pre W) (ho : SyOk s) (hp : pre.length ≤ 1000000) :
    Calls Try.prog 54 (syArgs s ++ #[.pointer (some ⟨gf, 0, none⟩), .pointer (some ⟨gl, 0, none⟩)]) W fun e W' =>
      e = .returned (.tuple #[]) ∧ LenJ W0 g L gl gf (pre ++ [s]) W' ∧ W.heap.size ≤ W'.heap.size ∧ ∀ k cs, Blk W k 43 cs → Blk W' k 43 cs := by
  obtain ⟨f, y, n, x⟩ := s
  obtain ⟨o1, _, _⟩ := ho
  dsimp only at o1
  cases f with
  | true =>
    have hy : y < 30 := by simpa using o1
    have c0 := h.af.cell y hy
    have f0 := h.af.free y
    have hlt := h.af.lt
    have hle := oftS_le true pre y
    have hT := Lib.hid (h.far y n x _ rfl)
    have hB := Lib.hid (h.af : Blk _ _ _ _)
    generalize oftS true pre y = v at *
    clear h o1
    unfold syArgs
    go_enter Try.func54, Try.ntmps54
    go_wp2_with fail
    go_end0
    exact ⟨rfl, hT.out, by simp [World.setCell], fun k cs hb => hb.far (p := ⟨gf, y, none⟩) (hb.ne_ hB.out (by decide)) _⟩
  | false =>
    have hy : y < 286 := by simpa using o1
    have c0 := h.al.cell y hy
    have f0 := h.al.free y
    have hlt := h.al.lt
    have hle := oftS_le false pre y
    have hT := Lib.hid (h.near y n x _ rfl)
    have hB := Lib.hid (h.al : Blk _ _ _ _)
    generalize oftS false pre y = v at *
    clear h o1
    unfold syArgs
    go_enter Try.func54, Try.ntmps54
    go_wp2_with fail
    go_end0
    exact ⟨rfl, hT.out, by simp [World.setCell], fun k cs hb => hb.far (p := ⟨gl, y, none⟩) (hb.ne_ hB.out (by decide)) _⟩
end Go.Proofs.Ytfcefhaaphieeaa
