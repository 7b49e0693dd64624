/-
  Walks: a dynamic block's lengths: how often, the least lengths.
-/
import Derived.BigQuiet
import Derived.Test.YtfcefhaaphieeaaGreatG05
import Derived.Test.YtfcefhaaphieeaaGreatG18
import Derived.Test.YtfcefhaaphieeaaGreatGBlkE
import Derived.Test.YtfcefhaaphieeaaGreatGBlkI
import Derived.Test.YtfcefhaaphieeaaGreatGBuildD
import Derived.Test.YtfcefhaaphieeaaGreatGRunsD
namespace Go.Proofs.YtfcefhaaphieeaaGreat
open Go.RowKit Go.Shelf

theorem Arr.rd {w : World} {g : Nat} {t : TypeId} {n : Nat} {f : Nat → Value} (h : Arr w g t n f) : Rd w (some ⟨g, 0, none⟩) ((List.range n).map f) := by
  refine ⟨fun hn => ⟨g, 0, rfl, fun i u hu => ?_⟩, fun e => by cases e⟩
  rw [Nat.zero_add, (Blk.cell h i)]
  unfold cellsOf
  simpa using hu
theorem freq_ints (far : Bool) (N : Nat) (ss : List Sy) : (List.range N).map (fun i => Value.int .i64 ((oftS far ss i : Nat) : Int)) = ints (freqL far N ss) := by
  unfold freqL ints
  rw [List.map_map]; rfl
theorem freqR_ints (rs : List (Int × Int)) : (List.range 19).map (fun i => Value.int .i64 ((oftR rs i : Nat) : Int)) = ints (freqR rs) := by
  unfold freqR ints
  rw [List.map_map]; rfl
theorem ask_zero {fr : List Int} {L : Nat} (h1 : 1 ≤ L) (h2 : L ≤ 15) (hl : fr.length ≤ 320) (hp : fr.length ≤ 2 ^ L) (hx : ∀ x ∈ fr, 0 ≤ x ∧ x ≤ 1073741824) : askE fr (L : Int) = 0 := by
  unfold askE
  rw [if_neg (by omega), if_neg (by omega), if_neg, if_neg]
  · have := posL_len fr fr.length
    rw [Int.toNat_natCast]; omega
  · intro h
    obtain ⟨x, hx', hb⟩ := List.any_eq_true.1 h
    have := of_decide_eq_true hb
    have := hx x hx'
    omega
theorem freqL_in (far : Bool) (N : Nat) (ss : List Sy) (h : ss.length ≤ 1000000) : ∀ x ∈ freqL far N ss, 0 ≤ x ∧ x ≤ 1073741824 := fun x hx => by
  obtain ⟨i, _, rfl⟩ := List.mem_map.1 hx
  have := oftS_le far ss i
  omega
theorem freqR_in (rs : List (Int × Int)) (h : rs.length ≤ 1000000) : ∀ x ∈ freqR rs, 0 ≤ x ∧ x ≤ 1073741824 := fun x hx => by
  obtain ⟨i, _, rfl⟩ := List.mem_map.1 hx
  have := oftR_le rs i
  omega

theorem min_any (F : Option Addr) (n c : Nat) (fr : List Int) (L : Nat) (w : World) (hF : Rd w F (ints fr)) (hn : n = fr.length) (h1 : 1 ≤ L) (h2 : L ≤ 15) (hl : fr.length ≤ 320) (hp : fr.length ≤ 2 ^ L) (hx : ∀ x ∈ fr, 0 ≤ x ∧ x ≤ 1073741824) :
    Calls Tryz.prog 43 #[.slice F n c, .int .i64 (L : Int)] w fun e w' => ∃ A d, e = .returned (.tuple #[.slice A n d, .int .i64 0]) ∧ Builds w w' 5 1 A n d (u8s (minL fr L)) := by
  have h0 := ask_zero h1 h2 hl hp hx
  refine (lengths_is F n c fr L w hF hn (by omega) (by omega) (by omega)).mono ?_
  rintro e w' (⟨hne, _⟩ | ⟨_, A, d, ys, hi, _, rfl, hB⟩)
  · exact absurd h0 hne
  · rw [minL_eq hi, hn]
    rw [Int.toNat_natCast] at hB
    exact ⟨A, d, rfl, hB⟩

/-- A text, behind a cell that is not its own. -/
theorem TxAt.set {W w : World} {g : Nat} {L : List (Nat × Nat)} (h : TxAt W w g L) {k : Nat} {t : TypeId} {cs : Array Value} (hk : Blk w k t cs) (h1 : t ≠ 43) (h2 : t ≠ 46) (hW : W.heap.size ≤ k) (i : Nat) (v : Value) : TxAt W (w.setCell ⟨k, i, none⟩ v) g L := by
  obtain ⟨A, c, a1, a2, a3⟩ := h
  refine ⟨A, c, a1.far (p := ⟨k, i, none⟩) (a1.ne_ hk (fun e => h1 e.symm)) v, ⟨a2.1.setCell hW v, own_far a2.2 (own_blk_ne a2.2 hk (fun e => h2 e.symm)) v⟩, a3⟩

/-- What lies in memory while symbols are counted. -/
structure LenJ (W0 : World) (g : Nat) (L : List (Nat × Nat)) (gl gf : Nat) (pre : List Sy) (W : World) : Prop where
  tx : TxAt W0 W g L
  al : Arr W gl 83 286 fun i => .int .i64 ((oftS false pre i : Nat) : Int)
  af : Arr W gf 84 30 fun i => .int .i64 ((oftS true pre i : Nat) : Int)
  hl : W0.heap.size ≤ gl
  hf : W0.heap.size ≤ gf

theorem LenJ.below {W0 : World} {g : Nat} {L : List (Nat × Nat)} {gl gf : Nat} {pre : List Sy} {W W' : World} (h : LenJ W0 g L gl gf pre W) (hb : Below W.heap.size W W') : LenJ W0 g L gl gf pre W' :=
  ⟨h.tx.below hb, h.al.below hb h.al.lt, h.af.below hb h.af.lt, h.hl, h.hf⟩

/-- One more symbol. -/
theorem LenJ.far {W0 : World} {g : Nat} {L : List (Nat × Nat)} {gl gf : Nat} {pre : List Sy} {W : World} (h : LenJ W0 g L gl gf pre W) (y n x v : Nat) (hv : oftS true pre y = v) :
    LenJ W0 g L gl gf (pre ++ [⟨true, y, n, x⟩]) (W.setCell ⟨gf, y, none⟩ (.int .i64 ((v : Int) + 1))) := by
  have hne : gl ≠ gf := Blk.ne_ h.al h.af (by decide)
  refine ⟨h.tx.set h.af (by decide) (by decide) h.hf _ _, ?_, ?_, h.hl, h.hf⟩
  · refine (h.al.far (p := ⟨gf, y, none⟩) hne _).congr fun k _ => ?_
    rw [oftS_snoc, if_neg (by simp)]
  · refine (h.af.set y _).congr fun k _ => ?_
    rw [oftS_snoc]
    by_cases e : k = y
    · subst e
      rw [if_pos rfl, if_pos ⟨rfl, rfl⟩, hv]; simp
    · rw [if_neg e, if_neg (fun h => e h.2.symm)]
theorem LenJ.near {W0 : World} {g : Nat} {L : List (Nat × Nat)} {gl gf : Nat} {pre : List Sy} {W : World} (h : LenJ W0 g L gl gf pre W) (y n x v : Nat) (hv : oftS false pre y = v) :
    LenJ W0 g L gl gf (pre ++ [⟨false, y, n, x⟩]) (W.setCell ⟨gl, y, none⟩ (.int .i64 ((v : Int) + 1))) := by
  have hne : gf ≠ gl := Blk.ne_ h.af h.al (by decide)
  refine ⟨h.tx.set h.al (by decide) (by decide) h.hl _ _, ?_, ?_, h.hl, h.hf⟩
  · refine (h.al.set y _).congr fun k _ => ?_
    rw [oftS_snoc]
    by_cases e : k = y
    · subst e
      rw [if_pos rfl, if_pos ⟨rfl, rfl⟩, hv]; simp
    · rw [if_neg e, if_neg (fun h => e h.2.symm)]
  · refine (h.af.far (p := ⟨gl, y, none⟩) hne _).congr fun k _ => ?_
    rw [oftS_snoc, if_neg (by simp)]

set_option maxRecDepth 100000 in
set_option maxHeartbeats 2000000 in
theorem lenclo_any (W0 : World) (g : Nat) (L : List (Nat × Nat)) (gl gf : Nat) (pre : List Sy) (s : Sy) (W : World) (h : LenJ W0 g L gl gf pre W) (ho : SyOk s) (hp : pre.length ≤ 1000000) :
    Calls Tryz.prog 42 (syArgs s ++ #[.pointer (some ⟨gf, 0, none⟩), .pointer (some ⟨gl, 0, none⟩)]) W fun e W' =>
      e = .returned (.tuple #[]) ∧ LenJ W0 g L gl gf (pre ++ [s]) W' ∧ W.heap.size ≤ W'.heap.size ∧ ∀ k cs, Blk W k 55 cs → Blk W' k 55 cs := by
  obtain ⟨f, y, n, x⟩ := s
  obtain ⟨o1, _, _⟩ := ho
  dsimp only at o1
  cases f with
  | true =>
    have hy : y < 30 := by simpa using o1
    have c0 := h.af.cell y hy
    have f0 := h.af.free y
    have hlt := h.af.lt
    have hle := oftS_le true pre y
    have hT := Lib.hid (h.far y n x _ rfl)
    have hB := Lib.hid (h.af : Blk _ _ _ _)
    generalize oftS true pre y = v at *
    clear h o1
    unfold syArgs
    go_enter Tryz.func42, Tryz.ntmps42
    go_wp2_with fail
    go_end0
    exact ⟨rfl, hT.out, by simp [World.setCell], fun k cs hb => hb.far (p := ⟨gf, y, none⟩) (hb.ne_ hB.out (by decide)) _⟩
  | false =>
    have hy : y < 286 := by simpa using o1
    have c0 := h.al.cell y hy
    have f0 := h.al.free y
    have hlt := h.al.lt
    have hle := oftS_le false pre y
    have hT := Lib.hid (h.near y n x _ rfl)
    have hB := Lib.hid (h.al : Blk _ _ _ _)
    generalize oftS false pre y = v at *
    clear h o1
    unfold syArgs
    go_enter Tryz.func42, Tryz.ntmps42
    go_wp2_with fail
    go_end0
    exact ⟨rfl, hT.out, by simp [World.setCell], fun k cs hb => hb.far (p := ⟨gl, y, none⟩) (hb.ne_ hB.out (by decide)) _⟩
end Go.Proofs.YtfcefhaaphieeaaGreat

/-
  Walks: a dynamic block's lengths put behind.
-/
namespace Go.Proofs.YtfcefhaaphieeaaGreat
open Go.RowKit Go.Shelf

set_option maxRecDepth 100000 in
theorem order_at : ∀ (j : Nat), j < 19 → ∀ w, (Instr.index 94 (.agg orderV) (.int .i64 (j : Int))).run Tryz.prog w = .ok (.int .i64 ((nth orderL j : Nat) : Int)) w := by
  intro j hj w
  have : j = 0 ∨ j = 1 ∨ j = 2 ∨ j = 3 ∨ j = 4 ∨ j = 5 ∨ j = 6 ∨ j = 7 ∨ j = 8 ∨ j = 9 ∨ j = 10 ∨ j = 11 ∨ j = 12 ∨ j = 13 ∨ j = 14 ∨ j = 15 ∨ j = 16 ∨ j = 17 ∨ j = 18 := by omega
  rcases this with rfl | rfl | rfl | rfl | rfl | rfl | rfl | rfl | rfl | rfl | rfl | rfl | rfl | rfl | rfl | rfl | rfl | rfl | rfl <;> rfl
theorem order_lt (j : Nat) : nth orderL j < 19 := nth_lt (by decide) (by omega) j
theorem order_snoc (f : Nat → Nat) (j : Nat) (h : j < 19) : (orderL.take (j + 1)).map f = (orderL.take j).map f ++ [f (nth orderL j)] := by
  rw [take_snoc orderL j h, List.map_append]; rfl

set_option maxRecDepth 100000 in
set_option maxHeartbeats 4000000 in
theorem dlen_any (W0 : World) (g : Nat) (L : List (Nat × Nat)) (T : Option Addr) (n c : Nat) (l : List Tk) (w : World)
    (h : TxAt W0 w g L) (hT : Rd W0 T (tkV l)) (hn : n = l.length) (hm : l.length ≤ 65535) (hk : TksOk l) (hl : L.length ≤ 10) :
    Calls Tryz.prog 26 #[.pointer (some ⟨g, 0, none⟩), .slice T n c] w fun e w' =>
      ∃ A d B d', e = .returned (.tuple #[.slice A (dLongs l).length d, .slice B (dFars l).length d']) ∧ TxAt W0 w' g (L ++ dNums l) ∧ Rd w' A (u8s (dLongs l)) ∧ Rd w' B (u8s (dFars l)) := by
  have HS := Lib.hid fun gf lb heg J wx hC hJ => symbols_any T n c l gf lb heg J wx hC hJ hn (by omega) hk
  have hlen := symsL_len l
  have HC := Lib.hid fun (gl gf : Nat) => show SyClo l T 42 #[.pointer (some ⟨gf, 0, none⟩), .pointer (some ⟨gl, 0, none⟩)] (LenJ W0 g L gl gf) from
    { call := fun pre s W1 hp hj => by
        have hs : s ∈ symsL l := hp.subset (by simp)
        have hpl := hp.length_le
        rw [List.length_append, List.length_singleton] at hpl
        exact lenclo_any W0 g L gl gf pre s W1 hj (symsL_ok hk s hs) (by omega)
      keep := fun pre W1 W2 hj hb => hj.below hb
      rd := fun pre W1 hj => hT.below hj.tx.bel }
  clear hn hk
  go_enter Tryz.func26, Tryz.ntmps26
  go_wp2_with fail
  have z1 : Tryz.zeroCells83 = cellsOf 286 fun i => .int .i64 ((oftS false [] i : Nat) : Int) := by kernel_rfl
  have hj0 : LenJ W0 g L w.heap.size (w.heap.size + 1) [] ((w.alloc (.cells Tryz.zeroCells83 83)).alloc (.cells (cellsOf 30 fun i => .int .i64 ((oftS true [] i : Nat) : Int)) 84)) :=
    { tx := (h.alloc _).alloc _
      al := by rw [z1]; exact Blk.alloc (Blk.new _ _ _) _
      af := Blk.new' _ _ _ _ (by simp)
      hl := h.bel.size
      hf := by have := h.bel.size; omega }
  refine (HS.out _ _ (enters_of Tryz.func42 (by kernel_rfl) rfl) _ _ (HC.out w.heap.size (w.heap.size + 1)) hj0).mono ?_
  rintro e w3 ⟨rfl, hj⟩
  have hl1 := hj.al.lt
  have hl2 := hj.af.lt
  generalize w.heap.size + 1 = gf at *
  generalize w.heap.size = gl at *
  have ss := Lib.hid hlen
  have r1 := hj.al.rd
  have r2 := hj.af.rd
  rw [freq_ints] at r1 r2
  have tx := hj.tx
  clear hj hj0 z1 HS HC h
  have HM1 := Lib.hid fun wx F h => min_any F 286 286 (freqL false 286 (symsL l)) 15 wx h (freqL_length _ _ _).symm (by omega) (by omega) (by rw [freqL_length]; omega) (by rw [freqL_length]; decide) (freqL_in _ _ _ (by have := ss.out; omega))
  have HM2 := Lib.hid fun wx F h => min_any F 30 30 (freqL true 30 (symsL l)) 15 wx h (freqL_length _ _ _).symm (by omega) (by omega) (by rw [freqL_length]; omega) (by rw [freqL_length]; decide) (freqL_in _ _ _ (by have := ss.out; omega))
  have n1 : (minL (freqL false 286 (symsL l)) 15).length = 286 := by rw [(min_longs l).len, freqL_length]
  have n2 : (minL (freqL true 30 (symsL l)) 15).length = 30 := by rw [(min_fars l).len, freqL_length]
  have x1 : ∀ x ∈ minL (freqL false 286 (symsL l)) 15, x < 256 := fun x hx => by have := (min_longs l).le x hx; omega
  have x2 : ∀ x ∈ minL (freqL true 30 (symsL l)) 15, x < 256 := fun x hx => by have := (min_fars l).le x hx; omega
  have k1 := dLongs_len l
  have k2 := dFars_len l
  have e1 : dLongs l = (minL (freqL false 286 (symsL l)) 15).take (toldN (minL (freqL false 286 (symsL l)) 15) 257) := rfl
  have e2 : dFars l = (minL (freqL true 30 (symsL l)) 15).take (toldN (minL (freqL true 30 (symsL l)) 15) 1) := rfl
  have m1 : (dLongs l).length = toldN (minL (freqL false 286 (symsL l)) 15) 257 := cutL_length _ _
  have m2 : (dFars l).length = toldN (minL (freqL true 30 (symsL l)) 15) 1 := cutL_length _ _
  rw [m1] at k1
  rw [m2] at k2
  generalize minL (freqL false 286 (symsL l)) 15 = M1 at *
  generalize minL (freqL true 30 (symsL l)) 15 = M2 at *
  have HT1 := Lib.hid fun (A : Option Addr) (d : Nat) (wx : World) (hA : Bs wx A M1) => told_any A d M1 286 257 wx hA n1.symm (by omega) (by omega)
  have HT2 := Lib.hid fun (A : Option Addr) (d : Nat) (wx : World) (hA : Bs wx A M2) => told_any A d M2 30 1 wx hA n2.symm (by omega) (by omega)
  generalize toldN M1 257 = t1 at *
  generalize toldN M2 1 = t2 at *
  have E1 := Lib.hid (And.intro e1 m1)
  have E2 := Lib.hid (And.intro e2 m2)
  have X1 := Lib.hid (And.intro x1 n1)
  have X2 := Lib.hid (And.intro x2 n2)
  clear e1 e2 m1 m2 hlen x1 x2 n1 n2
  go_wp2_with fail
  refine (HM1.out _ _ r1).mono ?_
  rintro e w4 ⟨A1, d1, rfl, hB1⟩
  have BA := hB1.rebase tx.bel
  have tx4 := tx.below hB1.1
  have r4 := r2.below hB1.1
  have hl4 : gf < w4.heap.size := Nat.lt_of_lt_of_le hl2 hB1.1.size
  have c1 := hB1.cap
  clear r1 r2 tx hl1 hl2
  go_wp2_with fail
  refine (HM2.out _ _ r4).mono ?_
  rintro e w5 ⟨A2, d2, rfl, hB2⟩
  have BA := BA.below hB2.1
  have BB := hB2.rebase tx4.bel
  have tx5 := tx4.below hB2.1
  have hB1 := hB1.below hB2.1
  have c2 := hB2.cap
  clear r4 tx4 hl4 HM1 HM2
  have P1 : Bs w5 A1 M1 := rd_u8 hB1.rd X1.out.1
  have P2 : Bs w5 A2 M2 := rd_u8 hB2.rd X2.out.1
  go_wp2_with fail
  have Q1 := Lib.hid fun q => show Calls Tryz.prog 44 #[.slice A1 286 d1, .int .i64 257] (w5.drewN q) (fun e w' => e = .returned (.int .i64 (t1 : Int)) ∧ w' = w5.drewN q) from (HT1.out A1 d1 (w5.drewN q) P1).mono fun _ _ ⟨a, b⟩ => ⟨a, b.symm⟩
  have Q2 := Lib.hid fun q => show Calls Tryz.prog 44 #[.slice A2 30 d2, .int .i64 1] (w5.drewN q) (fun e w' => e = .returned (.int .i64 (t2 : Int)) ∧ w' = w5.drewN q) from (HT2.out A2 d2 (w5.drewN q) P2).mono fun _ _ ⟨a, b⟩ => ⟨a, b.symm⟩
  have i1 : (t1 : Int) ≤ (d1 : Int) := by omega
  have i2 : (t2 : Int) ≤ (d2 : Int) := by omega
  have i3 : t1 ≤ d1 := by omega
  have i4 : t2 ≤ d2 := by omega
  clear HT1 HT2
  go_quiet (first | (go_at_call 44; with_reducible exact Calls.quiet_of_same (Q1.out _)) | (go_at_call 44; with_reducible exact Calls.quiet_of_same (Q2.out _)))
  obtain ⟨w6, hw6⟩ : ∃ w6, w5.drewN nq = w6 := ⟨_, rfl⟩
  have D1 : Rd w6 A1 (u8s (dLongs l)) := by
    have := hB1.rd.take t1
    rw [← hw6, E1.out.1]
    unfold u8s at this ⊢
    rw [List.map_take]; exact this
  have D2 : Rd w6 A2 (u8s (dFars l)) := by
    have := hB2.rd.take t2
    rw [← hw6, E2.out.1]
    unfold u8s at this ⊢
    rw [List.map_take]; exact this
  have tx6 : TxAt W0 w6 g L := by rw [← hw6]; exact tx5.drewN _
  have BA : Builds W0 w6 5 1 A1 286 d1 (u8s M1) := by rw [← hw6]; exact BA.drewN _
  have BB : Builds W0 w6 5 1 A2 30 d2 (u8s M2) := by rw [← hw6]; exact BB.drewN _
  rw [hw6]
  have hN : (dLongs l ++ dFars l).length = t1 + t2 := by rw [List.length_append, E1.out.2, E2.out.2]
  have hR := dAll_len l
  obtain ⟨R, hRe⟩ : ∃ R, (dAll l).length = R := ⟨_, rfl⟩
  rw [hRe] at hR
  have RE := Lib.hid hRe
  have HQ := Lib.hid fun (S : Option Addr) (c : Nat) (wx : World) (hS : Rd wx S (u8s (dLongs l ++ dFars l))) => show Calls Tryz.prog 45 #[.slice S (t1 + t2) c] wx (fun e w' => ∃ B d, e = .returned (.tuple #[.slice B R d, .int .i64 0]) ∧ Builds wx w' 96 2 B R d (runV (dAll l))) from by
    have h := sq_any S c (dLongs l ++ dFars l) wx (rd_u8 hS fun x hx => by
      rcases List.mem_append.1 hx with hx | hx
      · have := dLongs_le l x hx; omega
      · have := dFars_le l x hx; omega) (by omega)
    rw [hN] at h
    refine h.mono ?_
    rintro e w' ⟨B, d, rfl, hB⟩
    rw [dAll_sq, hRe] at hB ⊢
    rw [sqE_all]
    exact ⟨B, d, rfl, hB⟩
  have HCc := Lib.hid fun (S : Option Addr) (c : Nat) (wx : World) (hS : Rd wx S [.slice A1 t1 d1, .slice A2 t2 d2]) (h1 : Rd wx A1 (u8s (dLongs l))) (h2 : Rd wx A2 (u8s (dFars l))) => show Calls Tryz.prog 39 #[.slice S 2 c] wx (fun e w' => ∃ B d, e = .returned (.slice B (t1 + t2) d) ∧ Builds wx w' 5 1 B (t1 + t2) d (u8s (dLongs l ++ dFars l))) from by
    have e : piecesL [⟨A1, d1, dLongs l⟩, ⟨A2, d2, dFars l⟩] = dLongs l ++ dFars l := by simp [piecesL]
    have h := concat_any S 2 c [⟨A1, d1, dLongs l⟩, ⟨A2, d2, dFars l⟩] wx (by simpa [pieceV, E1.out.2, E2.out.2] using hS) rfl (fun p hp => by
      simp only [List.mem_cons, List.not_mem_nil, or_false] at hp
      rcases hp with rfl | rfl
      · exact h1
      · exact h2) (by simp) (by rw [e, hN]; omega) (by rw [e, hN]; omega)
    rw [e, hN] at h
    exact h
  clear hw6 hB1 hB2 tx5 P1 P2 Q1 Q2 hN hRe X1 X2 i1 i2 i3 i4
  go_wp2_with fail
  refine (HCc.out _ _ _ (Rd.new' _ _ _ _ _ (by simp) rfl) (D1.alloc _) (D2.alloc _)).mono ?_
  rintro e w7 ⟨B3, d3, rfl, hB3⟩
  obtain ⟨q0, q1, q2⟩ := box1 hB3.1
  have BA := BA.below q0
  have BB := BB.below q0
  have tx7 := tx6.below q0
  have r7 := hB3.rd
  clear hB3 q0 q1 q2 tx6 HCc
  go_wp2_with fail
  refine (HQ.out _ _ _ r7).mono ?_
  rintro e w8 ⟨C, dC, rfl, hB8⟩
  have BA := BA.below hB8.1
  have BB := BB.below hB8.1
  have tx8 := tx7.below hB8.1
  have BR := hB8.rebase tx7.bel
  have r8 := hB8.rd
  clear hB8 tx7 HQ r7 D1 D2
  go_wp2_with fail
  have HO := Lib.hid (dAll_ok l)
  have hA8 : Arr (w8.alloc (.cells (cellsOf 19 fun i => .int .i64 ((oftR ([] : List (Int × Int)) i : Nat) : Int)) 94)) w8.heap.size 94 19 fun i => .int .i64 ((oftR ([] : List (Int × Int)) i : Nat) : Int) := Blk.new _ _ _
  have hb8 : Below w8.heap.size w8 (w8.alloc (.cells (cellsOf 19 fun i => .int .i64 ((oftR ([] : List (Int × Int)) i : Nat) : Int)) 94)) := (Below.refl _ _).alloc (Nat.le_refl _) _
  obtain ⟨gO, hgO⟩ : ∃ gO, w8.heap.size = gO := ⟨_, rfl⟩
  have hg8 : w8.heap.size ≤ gO := by omega
  rw [hgO] at hA8
  have HGO := Lib.hid hgO
  rw [hgO]
  clear hgO
  go_loopg [57] R (fun gk v57 wr => ∃ k : Nat, k ≤ R ∧ gk = R - k ∧ v57 = .int .i64 (k : Int) ∧ Below w8.heap.size w8 wr ∧ Arr wr gO 94 19 fun i => .int .i64 ((oftR ((dAll l).take k) i : Nat) : Int))
  case atStart => exact ⟨0, by omega, rfl, rfl, hb8, hA8⟩
  case round =>
    clear hA8 hb8
    obtain ⟨k, hk, hgk, rfl, hb, hA⟩ := hrel
    have HG := Lib.hid hgk
    clear hgk
    by_cases hlt : k < R
    · have hkr : k < (dAll l).length := by have := RE.out; omega
      obtain ⟨b, off, rfl, c0, c1'⟩ := (r8.below hb).pair hkr
      have hlt1 := cell_lt c0
      obtain ⟨o1, o2, o3, o4⟩ := HO.out _ (List.getElem_mem hkr)
      have HS := Lib.hid (oftR_snoc ((dAll l).take k) ((dAll l)[k]))
      rw [← List.take_succ_eq_append_getElem hkr] at HS
      generalize (dAll l)[k] = r at *
      obtain ⟨ra, rb⟩ := r
      dsimp only at *
      obtain ⟨y, rfl⟩ : ∃ y : Nat, ra = (y : Int) := ⟨ra.toNat, by omega⟩
      have hy : y < 19 := by omega
      have cy := hA.cell y hy
      have fy := hA.free y
      have hgl := hA.lt
      have hle := oftR_le ((dAll l).take k) y
      rw [List.length_take] at hle
      have hv : oftR ((dAll l).take k) y ≤ 316 := by omega
      obtain ⟨v, hvv⟩ : ∃ v, oftR ((dAll l).take k) y = v := ⟨_, rfl⟩
      rw [hvv] at cy hv
      have HV := Lib.hid hvv
      clear hle hvv o4
      go_wp2_with fail
      go_roundg (R - (k + 1))
      case measure => have := HG.out; omega
      case rel =>
        refine ⟨k + 1, by omega, rfl, by go_num, (hb.setCell hg8 _).alloc (by have := hb.size; simpa [World.setCell] using this) _, ((hA.set y _).alloc _).congr fun i hi => ?_⟩
        have h := HS.out i
        rw [h]
        by_cases e : i = y
        · subst e
          rw [if_pos rfl, if_pos rfl, HV.out]; simp
        · rw [if_neg e, if_neg (by omega)]
    · obtain rfl : k = R := by omega
      have e : (dAll l).take k = dAll l := by rw [List.take_of_length_le (by have := RE.out; omega)]
      rw [e] at hA
      have r9 := hA.rd
      rw [freqR_ints] at r9
      have HMn := Lib.hid fun wx (h : Rd wx (some ⟨gO, 0, none⟩) (ints (freqR (dAll l)))) => show Calls Tryz.prog 43 #[.slice (some ⟨gO, 0, none⟩) 19 19, .int .i64 7] wx (fun e w' => ∃ A d, e = .returned (.tuple #[.slice A 19 d, .int .i64 0]) ∧ Builds wx w' 5 1 A 19 d (u8s (dShorts l))) from
        min_any (some ⟨gO, 0, none⟩) 19 19 (freqR (dAll l)) 7 wx h (freqR_length _).symm (by omega) (by omega) (by rw [freqR_length]; omega) (by rw [freqR_length]; decide) (freqR_in _ (by have := RE.out; omega))
      have BA := BA.below hb
      have BB := BB.below hb
      have tx9 := tx8.below hb
      have BR := BR.below hb
      clear hA e hb tx8 hlt
      go_wp2_with fail
      refine (HMn.out _ r9).mono ?_
      rintro e w10 ⟨A5, d5, rfl, hB5⟩
      have BA := BA.below hB5.1
      have BB := BB.below hB5.1
      have tx10 := tx9.below hB5.1
      have BR := BR.below hB5.1
      have BS := hB5.rebase tx9.bel
      clear hB5 tx9 r8 r9 HMn
      go_wp2_with fail
      refine (order_any _).mono ?_
      rintro e w11 ⟨rfl, hb11⟩
      have BA := BA.below hb11
      have BB := BB.below hb11
      have tx11 := tx10.below hb11
      have BR := BR.below hb11
      have BS := BS.below hb11
      have s11 := BS.rd
      clear hb11 tx10
      have HD := Lib.hid (And.intro (dShorts_len l) (dShorts_le l))
      go_wp2_with fail
      go_loopg [15, 74] 19 (fun gk v15 v74 wr => ∃ j B d, j ≤ 19 ∧ gk = 19 - j ∧ v74 = .int .i64 (j : Int) ∧ v15 = .slice B j d ∧ Builds w11 wr 5 1 B j d (u8s ((orderL.take j).map (nth (dShorts l)))))
      case atStart => exact ⟨0, none, 0, by omega, rfl, rfl, rfl, Builds.nil_ _ _ _⟩
      case round =>
        obtain ⟨j, B, d, hj, hgk, rfl, rfl, hB⟩ := hrel
        have HG2 := Lib.hid hgk
        clear hgk HG
        by_cases hlt : j < 19
        · have hX := order_at j hlt
          have hy := order_lt j
          have e := order_snoc (nth (dShorts l)) j hlt
          obtain ⟨y, hyy⟩ : ∃ y, nth orderL j = y := ⟨_, rfl⟩
          rw [hyy] at hX hy e
          have HE2 := Lib.hid e
          obtain ⟨b, off, rfl, hc⟩ := (s11.below hB.1).at_ (by rw [u8s_length, HD.out.1]; omega)
          have cy := hc y _ (u8s_get _ y (by rw [HD.out.1]; exact hy))
          have hlt1 := cell_lt cy
          generalize nth (dShorts l) y = x at *
          clear hyy hc e
          go_wp2_with (at_builtin; refine grow relem_u8 rfl (.tmp 77) (.tmp 82) rfl rfl (hB.alloc _) rfl (Rd.new' _ _ _ (u8s [x]) _ (by simp) rfl) rfl (u8s_one _) (j + 1) rfl (u8s ((orderL.take (j + 1)).map (nth (dShorts l)))) (by rw [HE2.out, u8s_append]) (by omega) (by omega) ?_; intro B2 d2' w12 hB2 hg2)
          go_roundg (19 - (j + 1))
          case measure => have := HG2.out; omega
          case rel => exact ⟨j + 1, B2, d2', by omega, rfl, by go_num, rfl, hB2⟩
        · obtain rfl : j = 19 := by omega
          have e : orderL.take 19 = orderL := rfl
          rw [e] at hB
          have BA := BA.below hB.1
          have BB := BB.below hB.1
          have BR := BR.below hB.1
          have BS := BS.below hB.1
          have tx12 := tx11.below hB.1
          have BW := hB.rebase tx11.bel
          have q1 : (orderL.map (nth (dShorts l))).length = 19 := by rw [List.length_map]; rfl
          have q2 : ∀ x ∈ orderL.map (nth (dShorts l)), x < 256 := fun x hx => by
            obtain ⟨i, _, rfl⟩ := List.mem_map.1 hx
            exact nth_lt (fun x hx => by have := HD.out.2 x hx; omega) (by omega) i
          have q3 : dRow l = (orderL.map (nth (dShorts l))).take (toldN (orderL.map (nth (dShorts l))) 4) := rfl
          have q4 : (dRow l).length = toldN (orderL.map (nth (dShorts l))) 4 := cutL_length _ _
          have k3 := dRow_len l
          rw [q4] at k3
          generalize orderL.map (nth (dShorts l)) = M3 at *
          have HT3 := Lib.hid (told_any B d M3 19 4 wr (rd_u8 BW.rd q2) q1.symm (by omega) (by omega))
          generalize toldN M3 4 = t3 at *
          have E3 := Lib.hid (And.intro q3 q4)
          have c3 := BW.cap
          have i3 : (t3 : Int) ≤ (d : Int) := by omega
          have i4 : t3 ≤ d := by omega
          clear e hlt hB tx11 s11 q1 q2 q3 q4
          go_wp2_with fail
          refine (HT3.out).mono ?_
          rintro e w13 ⟨rfl, rfl⟩
          have HA := Lib.hid fun B m d M N wx h hB hm hn => add_any W0 g N M B m d wx h hB hm hn
          clear HT3
          go_wp2_with fail
          have hH : dHead l = [(t1 - 257, 5), (t2 - 1, 5), (t3 - 4, 4)] := by unfold dHead; rw [E1.out.2, E2.out.2, E3.out.2]
          refine (HA.out _ 3 3 [(t1 - 257, 5), (t2 - 1, 5), (t3 - 4, 4)] L _ (tx12.alloc _) (Rd.new' _ _ _ _ _ rfl ?_) rfl (by simp only [List.length_cons, List.length_nil]; omega)).mono ?_
          · simp [nbV, prs]; omega
          rintro e w14 ⟨rfl, tx14, kt0⟩
          rw [← hH] at tx14
          have kt1 : Kt wr w14 := (Kt.below ((Below.refl _ _).alloc (Nat.le_refl _) _)).trans kt0
          have BA := kt1.own BA (by decide) (by decide) tx14.bel
          have BB := kt1.own BB (by decide) (by decide) tx14.bel
          have BR := kt1.own BR (by decide) (by decide) tx14.bel
          have BS := kt1.own BS (by decide) (by decide) tx14.bel
          have BW := kt1.own BW (by decide) (by decide) tx14.bel
          have hRW : u8s (dRow l) = (u8s M3).take t3 := by rw [E3.out.1]; unfold u8s; rw [List.map_take]
          have HRW := Lib.hid hRW
          have HRL := Lib.hid E3.out.2
          have HHl := Lib.hid (congrArg List.length hH)
          clear kt0 kt1 tx12 hH hRW E3
          go_wp2_with fail
          go_loopg [110] t3 (fun gk v110 wr => ∃ j : Nat, j ≤ t3 ∧ gk = t3 - j ∧ v110 = .int .i64 (j : Int) ∧ TxAt W0 wr g (L ++ (dHead l ++ ((dRow l).take j).map shortN)) ∧ Kt w14 wr)
          case atStart => exact ⟨0, by omega, rfl, rfl, by simpa using tx14, Kt.refl _⟩
          case round =>
            clear tx14
            obtain ⟨j, hj, hgk, rfl, tx, kt⟩ := hrel
            have HG3 := Lib.hid hgk
            clear hgk HG2
            by_cases hlt : j < t3
            · have bw_ := kt.own BW (by decide) (by decide) tx.bel
              have rw_ := bw_.rd.take t3
              rw [← HRW.out] at rw_
              have hjl : j < (dRow l).length := by rw [HRL.out]; exact hlt
              obtain ⟨b, off, rfl, hc⟩ := rw_.at_ (by rw [u8s_length]; omega)
              have cy := hc j _ (u8s_get _ j hjl)
              have hlt1 := cell_lt cy
              have hx : nth (dRow l) j < 256 := nth_lt (fun x hx => by have := dRow_le l x hx; omega) (by omega) j
              have e := take_snoc (dRow l) j hjl
              have hlen : (L ++ (dHead l ++ ((dRow l).take j).map shortN)).length ≤ 1000 := by
                have h1 := HHl.out
                have h2 := HRL.out
                simp only [List.length_append, List.length_map, List.length_take, List.length_cons, List.length_nil] at h1 ⊢; omega
              have HLn := Lib.hid hlen
              have HE3 := Lib.hid e
              generalize nth (dRow l) j = x at *
              have hmod : (x : Int) % 4294967296 = (x : Int) := by omega
              clear rw_ bw_ hc e hlen
              go_wp2_with fail
              refine (HA.out _ 1 1 [(x, 3)] _ _ (tx.alloc _) (Rd.new' _ _ _ _ _ rfl (by simp [nbV, prs])) rfl (by have := HLn.out; simp only [List.length_cons, List.length_nil]; omega)).mono ?_
              rintro e w15 ⟨rfl, tx15, kt15⟩
              have kt2 : Kt w14 w15 := (kt.trans (Kt.below ((Below.refl _ _).alloc (Nat.le_refl _) _))).trans kt15
              go_wp2_with fail
              go_roundg (t3 - (j + 1))
              case measure => have := HG3.out; omega
              case rel =>
                refine ⟨j + 1, by omega, rfl, by go_num, ?_, kt2⟩
                rw [HE3.out, List.map_append]
                simpa [shortN, List.append_assoc] using tx15
            · obtain rfl : j = t3 := by omega
              have e : (dRow l).take j = dRow l := by rw [List.take_of_length_le (by have := HRL.out; omega)]
              rw [e] at tx
              have BA := kt.own BA (by decide) (by decide) tx.bel
              have BB := kt.own BB (by decide) (by decide) tx.bel
              have BR := kt.own BR (by decide) (by decide) tx.bel
              have BS := kt.own BS (by decide) (by decide) tx.bel
              have HCo := Lib.hid fun wx h => show Calls Tryz.prog 47 #[.slice A5 19 d5, .int .i64 7] wx _ from codes_ok A5 19 d5 (dShorts l) 7 wx h HD.out.1.symm (can_dShorts l) (by omega) (by omega)
              have S5 : Bs wr A5 (dShorts l) := rd_u8 BS.rd fun x hx => by have := HD.out.2 x hx; omega
              clear e hlt kt
              go_wp2_with fail
              refine (HCo.out _ S5).mono ?_
              rintro e w16 ⟨E, dE, rfl, hE⟩
              have BA := BA.below hE.1
              have BB := BB.below hE.1
              have BR := BR.below hE.1
              have tx16 := tx.below hE.1
              have BE := hE.rebase tx.bel
              clear hE S5 BS HCo tx BW
              have HP := Lib.hid fun (A : Option Addr) (N : List (Nat × Nat)) (y z b : Nat) (wx : World) hh hC hs hz hb hN => code_put W0 g N A dE 19 (dShorts l) 7 y b z wx hh hC HD.out.1.symm (can_dShorts l) (by rw [HD.out.1]; exact hs) hb hz hN
              go_wp2_with fail
              go_loopg [128] k (fun gk v128 wr => ∃ i : Nat, i ≤ k ∧ gk = k - i ∧ v128 = .int .i64 (i : Int) ∧ TxAt W0 wr g (L ++ (dHead l ++ ((dRow l).map shortN ++ runsN (codesL (dShorts l)) ((dAll l).take i)))) ∧ Kt w16 wr)
              case atStart => exact ⟨0, by omega, rfl, rfl, by simpa [runsN] using tx16, Kt.refl _⟩
              case round =>
                clear tx16
                obtain ⟨i, hi, hgk, rfl, tx, kt⟩ := hrel
                have HG4 := Lib.hid hgk
                clear hgk HG3
                by_cases hlt : i < k
                · have br_ := kt.own BR (by decide) (by decide) tx.bel
                  have be_ := kt.own BE (by decide) (by decide) tx.bel
                  have hir : i < (dAll l).length := by rw [RE.out]; exact hlt
                  obtain ⟨b, off, rfl, c0, c1'⟩ := br_.rd.pair hir
                  have hlt1 := cell_lt c0
                  obtain ⟨o1, o2, o3, o4⟩ := HO.out _ (List.getElem_mem hir)
                  have e : runsN (codesL (dShorts l)) ((dAll l).take (i + 1)) = runsN (codesL (dShorts l)) ((dAll l).take i) ++ runN (codesL (dShorts l)) ((dAll l)[i]) := by
                    rw [List.take_succ_eq_append_getElem hir, runsN_snoc]
                  have hlen : (L ++ (dHead l ++ ((dRow l).map shortN ++ runsN (codesL (dShorts l)) ((dAll l).take i)))).length ≤ 2000 := by
                    have h1 := HHl.out
                    have h2 := HRL.out
                    simp only [List.length_append, List.length_map, runsN_length, List.length_take, List.length_cons, List.length_nil] at h1 ⊢; omega
                  have HLn := Lib.hid hlen
                  generalize (dAll l)[i] = r at *
                  obtain ⟨ra, rb⟩ := r
                  dsimp only at *
                  obtain ⟨y, rfl⟩ : ∃ y : Nat, ra = (y : Int) := ⟨ra.toNat, by omega⟩
                  obtain ⟨z, rfl⟩ : ∃ z : Nat, rb = (z : Int) := ⟨rb.toNat, by omega⟩
                  have hy : y < 19 := by omega
                  have hsb : symBits (y : Int) ≤ 7 := by unfold symBits; (repeat' split) <;> omega
                  have hz : z < 4294967296 := by
                    have h1 : (2 : Int) ^ symBits (y : Int) ≤ 2 ^ 7 := by exact_mod_cast Nat.pow_le_pow_right (n := 2) (by omega) hsb
                    omega
                  have hse : symE (y : Int) = 0 := by unfold symE; rw [if_neg (by omega)]
                  have HB := Lib.hid fun wx => bits_any (y : Int) wx (by omega) (by omega)
                  rw [hse] at HB
                  unfold runN at e
                  dsimp only at e
                  rw [Int.toNat_natCast, Int.toNat_natCast] at e
                  have HE4 := Lib.hid e
                  generalize symBits (y : Int) = sb at *
                  clear e hlen o4 hse
                  go_wp2_with fail
                  refine (HB.out _).mono ?_
                  rintro e w17 ⟨rfl, rfl⟩
                  go_wp2_with fail
                  refine (HP.out E _ y z sb _ (tx.alloc _) (be_.rd.alloc _) hy hz (by omega) (by have := HLn.out; omega)).mono ?_
                  rintro e w18 ⟨rfl, tx18, kt18⟩
                  have kt2 : Kt w16 w18 := (kt.trans (Kt.below ((Below.refl _ _).alloc (Nat.le_refl _) _))).trans kt18
                  go_wp2_with fail
                  go_roundg (k - (i + 1))
                  case measure => have := HG4.out; omega
                  case rel =>
                    refine ⟨i + 1, by omega, rfl, by go_num, ?_, kt2⟩
                    rw [HE4.out]
                    simpa [List.append_assoc] using tx18
                · obtain rfl : i = k := by omega
                  have e : (dAll l).take i = dAll l := by rw [List.take_of_length_le (by have := RE.out; omega)]
                  rw [e] at tx
                  have BA := kt.own BA (by decide) (by decide) tx.bel
                  have BB := kt.own BB (by decide) (by decide) tx.bel
                  have hTX : TxAt W0 wr g (L ++ dNums l) := tx
                  clear e hlt kt tx
                  go_wp2_with fail
                  go_ret2
                  refine ⟨A1, d1, A2, d2, by rw [E1.out.2, E2.out.2]; rfl, hTX, ?_, ?_⟩
                  · have := BA.rd.take t1
                    rw [E1.out.1]
                    unfold u8s at this ⊢
                    rw [List.map_take]; exact this
                  · have := BB.rd.take t2
                    rw [E2.out.1]
                    unfold u8s at this ⊢
                    rw [List.map_take]; exact this
end Go.Proofs.YtfcefhaaphieeaaGreat

/-
  Walks: all of a block's numbers.
-/
namespace Go.Proofs.YtfcefhaaphieeaaGreat
open Go.RowKit

theorem syin_fixed {l : List Tk} (h : TksOk l) : SyIn longsF farsF (symsL l) := fun s hs => by
  have := (symsL_ok h s hs).1
  have e1 : longsF.length = 288 := by decide +kernel
  have e2 : farsF.length = 32 := by decide +kernel
  by_cases hf : s.far = true
  · rw [if_pos hf] at this ⊢; omega
  · rw [if_neg hf] at this ⊢; omega
theorem syin_dyn {l : List Tk} (h : TksOk l) : SyIn (dLongs l) (dFars l) (symsL l) := fun s hs => by
  have := (symsL_ok h s hs).1
  by_cases hf : s.far = true
  · rw [if_pos hf] at this ⊢
    have hp := oftS_pos hs hf
    have hm := min_fars l
    have hl := hm.len
    rw [freqL_length] at hl
    have h0 : nth (minL (freqL true 30 (symsL l)) 15) s.sym ≠ 0 := fun e => by
      have := (hm.pos s.sym (by rw [freqL_length]; exact this)).1 e
      rw [freqL_at _ _ _ _ (by assumption)] at this
      omega
    unfold dFars
    rw [cutL_length]
    exact toldN_lt h0 (by omega)
  · rw [if_neg hf] at this ⊢
    have hf' : s.far = false := by simpa using hf
    have hp := oftS_pos hs hf'
    have hm := min_longs l
    have hl := hm.len
    rw [freqL_length] at hl
    have h0 : nth (minL (freqL false 286 (symsL l)) 15) s.sym ≠ 0 := fun e => by
      have := (hm.pos s.sym (by rw [freqL_length]; exact this)).1 e
      rw [freqL_at _ _ _ _ (by assumption)] at this
      omega
    unfold dLongs
    rw [cutL_length]
    exact toldN_lt h0 (by omega)

theorem tx_new (w : World) (g : Nat) (hg : g = w.heap.size) : TxAt w (w.alloc (.cells #[.slice none 0 0] 43)) g [] := by
  subst hg
  exact ⟨none, 0, Blk.new _ _ _, Builds.nil' ((Below.refl _ _).alloc (Nat.le_refl _) _) _ _, Nat.le_refl _⟩

set_option maxRecDepth 100000 in
set_option maxHeartbeats 4000000 in
theorem of_any (at_ kind : Nat) (R : Option Addr) (rn rc : Nat) (raw : List Nat) (T : Option Addr) (n c : Nat) (l : List Tk) (last : Bool) (w : World) (ha : at_ ≤ 7) (hk : kind ≤ 2) (hR : Rd w R (u8s raw)) (hrn : rn = raw.length) (hx : ∀ x ∈ raw, x < 256) (hrl : raw.length ≤ 65535)
    (hT : Rd w T (tkV l)) (hn : n = l.length) (hm : l.length ≤ 65535) (hl : TksOk l) :
    Calls Tryz.prog 11 #[.int .i64 (at_ : Int), .int .u8 (kind : Int), .slice R rn rc, .slice T n c, .bool last] w fun e w' => ∃ g, e = .returned (.pointer (some ⟨g, 0, none⟩)) ∧ TxAt w w' g (numsP at_ kind raw l last) := by
  obtain ⟨b, hb⟩ : ∃ b : Nat, (if last = true then 1 else 0) = b := ⟨_, rfl⟩
  have hN : numsP at_ kind raw l last = [(b, 1), (kind, 2)] ++ bodyP at_ kind raw l := by unfold numsP headN; rw [hb]
  rw [hN]
  clear hN
  have HA := Lib.hid fun (wx : World) (B : Option Addr) (h : TxAt w wx w.heap.size []) (hB : Rd wx B (nbV [(b, 1), (kind, 2)])) => add_any w w.heap.size [] [(b, 1), (kind, 2)] B 2 2 wx h hB rfl (by simp)
  have hkc : kind = 0 ∨ kind = 1 ∨ kind = 2 := by omega
  have htx := tx_new w w.heap.size rfl
  rcases hkc with rfl | rfl | rfl
  · have e : bodyP at_ 0 raw l = (0, padN at_) :: rawN raw := by unfold bodyP; rw [if_pos rfl]
    rw [e]
    have HS := Lib.hid fun (wx : World) (h : TxAt w wx w.heap.size ([] ++ [(b, 1), (0, 2)])) => stored_any w w.heap.size _ at_ R rn rc raw wx h ha hR hx hrn hrl (by simp)
    clear e hR hx hrn hrl hT hn hm hl
    cases last with
    | true =>
      obtain rfl : b = 1 := by simpa using hb.symm
      clear hb
      go_enter Tryz.func11, Tryz.ntmps11
      go_wp2_with fail
      refine (HA.out _ _ (htx.alloc _) (Rd.new' _ _ _ _ _ (by simp) rfl)).mono ?_
      rintro e w1 ⟨rfl, h1, _⟩
      go_wp2_with fail
      refine (fixed_any _).mono ?_
      rintro e w2 ⟨A, cA, B, cB, rfl, hA, hB⟩
      have h2 := h1.below hA.1
      clear h1 htx
      go_wp2_with fail
      refine (HS.out _ h2).mono ?_
      rintro e w3 ⟨rfl, h3, _⟩
      go_wp2_with fail
      go_ret
      exact ⟨_, rfl, by simpa using h3⟩
    | false =>
      obtain rfl : b = 0 := by simpa using hb.symm
      clear hb
      go_enter Tryz.func11, Tryz.ntmps11
      go_wp2_with fail
      refine (HA.out _ _ (htx.alloc _) (Rd.new' _ _ _ _ _ (by simp) rfl)).mono ?_
      rintro e w1 ⟨rfl, h1, _⟩
      go_wp2_with fail
      refine (fixed_any _).mono ?_
      rintro e w2 ⟨A, cA, B, cB, rfl, hA, hB⟩
      have h2 := h1.below hA.1
      clear h1 htx
      go_wp2_with fail
      refine (HS.out _ h2).mono ?_
      rintro e w3 ⟨rfl, h3, _⟩
      go_wp2_with fail
      go_ret
      exact ⟨_, rfl, by simpa using h3⟩
  · have e : bodyP at_ 1 raw l = toksP (codesL longsF) (codesL farsF) (symsL l) := by unfold bodyP; rw [if_neg (by omega), if_pos rfl]
    rw [e]
    have e1 : longsF.length = 288 := by decide +kernel
    have e2 : farsF.length = 32 := by decide +kernel
    have x1 : ∀ x ∈ longsF, x < 256 := by decide +kernel
    have x2 : ∀ x ∈ farsF, x < 256 := by decide +kernel
    have HS := Lib.hid fun (wx : World) (A : Option Addr) (ca : Nat) (B : Option Addr) (cb : Nat) (h : TxAt w wx w.heap.size ([] ++ [(b, 1), (1, 2)])) (hA : Rd wx A (u8s longsF)) (hB : Rd wx B (u8s farsF)) =>
      tokens_any w w.heap.size _ T n c l A 288 ca longsF B 32 cb farsF wx h hT hn hm hl (rd_u8 hA x1) (rd_u8 hB x2) e1.symm e2.symm can_longsF can_farsF (syin_fixed hl) (by simp)
    clear e hR hx hrn hrl hT hn hm hl e1 e2 x1 x2
    cases last with
    | true =>
      obtain rfl : b = 1 := by simpa using hb.symm
      clear hb
      go_enter Tryz.func11, Tryz.ntmps11
      go_wp2_with fail
      refine (HA.out _ _ (htx.alloc _) (Rd.new' _ _ _ _ _ (by simp) rfl)).mono ?_
      rintro e w1 ⟨rfl, h1, _⟩
      go_wp2_with fail
      refine (fixed_any _).mono ?_
      rintro e w2 ⟨A, cA, B, cB, rfl, hA, hB⟩
      have h2 := h1.below hA.1
      clear h1 htx
      go_wp2_with fail
      refine (HS.out _ A cA B cB h2 hA.rd hB.rd).mono ?_
      rintro e w3 ⟨rfl, h3⟩
      go_wp2_with fail
      go_ret
      exact ⟨_, rfl, by simpa using h3⟩
    | false =>
      obtain rfl : b = 0 := by simpa using hb.symm
      clear hb
      go_enter Tryz.func11, Tryz.ntmps11
      go_wp2_with fail
      refine (HA.out _ _ (htx.alloc _) (Rd.new' _ _ _ _ _ (by simp) rfl)).mono ?_
      rintro e w1 ⟨rfl, h1, _⟩
      go_wp2_with fail
      refine (fixed_any _).mono ?_
      rintro e w2 ⟨A, cA, B, cB, rfl, hA, hB⟩
      have h2 := h1.below hA.1
      clear h1 htx
      go_wp2_with fail
      refine (HS.out _ A cA B cB h2 hA.rd hB.rd).mono ?_
      rintro e w3 ⟨rfl, h3⟩
      go_wp2_with fail
      go_ret
      exact ⟨_, rfl, by simpa using h3⟩
  · have e : bodyP at_ 2 raw l = dNums l ++ toksP (codesL (dLongs l)) (codesL (dFars l)) (symsL l) := by unfold bodyP; rw [if_neg (by omega), if_neg (by omega)]
    rw [e]
    have x1 : ∀ x ∈ dLongs l, x < 256 := fun x hx => by have := dLongs_le l x hx; omega
    have x2 : ∀ x ∈ dFars l, x < 256 := fun x hx => by have := dFars_le l x hx; omega
    have hdl := dNums_length l
    have HD := Lib.hid fun (wx : World) (h : TxAt w wx w.heap.size ([] ++ [(b, 1), (2, 2)])) => dlen_any w w.heap.size _ T n c l wx h hT hn hm hl (by simp)
    have HS := Lib.hid fun (wx : World) (A : Option Addr) (ca : Nat) (B : Option Addr) (cb : Nat) (h : TxAt w wx w.heap.size ([] ++ [(b, 1), (2, 2)] ++ dNums l)) (hA : Rd wx A (u8s (dLongs l))) (hB : Rd wx B (u8s (dFars l))) =>
      tokens_any w w.heap.size _ T n c l A _ ca (dLongs l) B _ cb (dFars l) wx h hT hn hm hl (rd_u8 hA x1) (rd_u8 hB x2) rfl rfl (can_dLongs l) (can_dFars l) (syin_dyn hl) (by simp only [List.length_append, List.length_cons, List.length_nil]; omega)
    clear e hR hx hrn hrl hT hn hm hl x1 x2
    cases last with
    | true =>
      obtain rfl : b = 1 := by simpa using hb.symm
      clear hb
      go_enter Tryz.func11, Tryz.ntmps11
      go_wp2_with fail
      refine (HA.out _ _ (htx.alloc _) (Rd.new' _ _ _ _ _ (by simp) rfl)).mono ?_
      rintro e w1 ⟨rfl, h1, _⟩
      go_wp2_with fail
      refine (fixed_any _).mono ?_
      rintro e w2 ⟨A, cA, B, cB, rfl, hA, hB⟩
      have h2 := h1.below hA.1
      clear h1 htx
      go_wp2_with fail
      refine (HD.out _ h2).mono ?_
      rintro e w3 ⟨A3, d3, B3, d4, rfl, h3, r1, r2⟩
      clear h2 hA hB
      go_wp2_with fail
      refine (HS.out _ A3 d3 B3 d4 h3 r1 r2).mono ?_
      rintro e w4 ⟨rfl, h4⟩
      go_wp2_with fail
      go_ret
      exact ⟨_, rfl, by simpa [List.append_assoc] using h4⟩
    | false =>
      obtain rfl : b = 0 := by simpa using hb.symm
      clear hb
      go_enter Tryz.func11, Tryz.ntmps11
      go_wp2_with fail
      refine (HA.out _ _ (htx.alloc _) (Rd.new' _ _ _ _ _ (by simp) rfl)).mono ?_
      rintro e w1 ⟨rfl, h1, _⟩
      go_wp2_with fail
      refine (fixed_any _).mono ?_
      rintro e w2 ⟨A, cA, B, cB, rfl, hA, hB⟩
      have h2 := h1.below hA.1
      clear h1 htx
      go_wp2_with fail
      refine (HD.out _ h2).mono ?_
      rintro e w3 ⟨A3, d3, B3, d4, rfl, h3, r1, r2⟩
      clear h2 hA hB
      go_wp2_with fail
      refine (HS.out _ A3 d3 B3 d4 h3 r1 r2).mono ?_
      rintro e w4 ⟨rfl, h4⟩
      go_wp2_with fail
      go_ret
      exact ⟨_, rfl, by simpa [List.append_assoc] using h4⟩
end Go.Proofs.YtfcefhaaphieeaaGreat

/-
  Walks: Long, Best.
-/
namespace Go.Proofs.YtfcefhaaphieeaaGreat
open Go.RowKit

theorem askK_zero {kind rn : Nat} {l : List Tk} (h : askK kind rn l = 0) : kind ≤ 2 ∧ rn ≤ 65535 ∧ l.length ≤ 65535 ∧ l.all tkB = true := by
  unfold askK at h
  by_cases h1 : 2 < kind
  · rw [if_pos h1] at h; omega
  · rw [if_neg h1] at h
    by_cases h2 : 65535 < rn ∨ 65535 < l.length
    · rw [if_pos h2] at h; omega
    · rw [if_neg h2] at h
      by_cases h3 : l.all tkB = true
      · exact ⟨by omega, by omega, by omega, h3⟩
      · rw [if_neg h3] at h; omega
theorem tks_of {l : List Tk} (h : l.all tkB = true) (hk : ∀ t ∈ l, TkN t) : TksOk l := fun t ht => ⟨List.all_eq_true.1 h t ht, (hk t ht).1⟩

/-- What Long answers. -/
noncomputable def longV (a : Int) (kind : Nat) (raw : List Nat) (l : List Tk) : Nat × Nat := if a < 0 ∨ 7 < a then (0, 2) else if askK kind raw.length l = 0 then (lenN (numsP a.toNat kind raw l false), 0) else (0, askK kind raw.length l)

theorem ask_le (kind : Nat) {rn : Nat} {l : List Tk} (h : kind ≤ 2) : askK kind rn l = askK 0 rn l := by
  unfold askK
  rw [if_neg (show ¬ 2 < kind by omega), if_neg (show ¬ 2 < 0 by omega)]
/-- Long's error is the same of all kinds. -/
theorem longV_err (a : Int) {kind : Nat} (raw : List Nat) (l : List Tk) (h : kind ≤ 2) : (longV a kind raw l).2 = (longV a 0 raw l).2 := by
  unfold longV
  rw [ask_le kind h]
  by_cases h1 : a < 0 ∨ 7 < a
  · rw [if_pos h1, if_pos h1]
  · rw [if_neg h1, if_neg h1]
    by_cases h2 : askK 0 raw.length l = 0
    · rw [if_pos h2, if_pos h2]
    · rw [if_neg h2, if_neg h2]

/-- The first of the least of three. -/
def bestN (f : Nat → Nat) : Nat := if f 1 < f 0 then (if f 2 < f 1 then 2 else 1) else (if f 2 < f 0 then 2 else 0)
/-- What Best answers. -/
noncomputable def bestV (a : Int) (raw : List Nat) (l : List Tk) : Nat × Nat := if (longV a 0 raw l).2 = 0 then (bestN fun k => (longV a k raw l).1, 0) else (0, (longV a 0 raw l).2)

/-- The best of the first kinds, and how long it is. -/
def bestS (f : Nat → Nat) : Nat → Nat × Int
  | 0 => (0, -1)
  | k + 1 => if (bestS f k).2 < 0 ∨ (f k : Int) < (bestS f k).2 then (k, f k) else bestS f k
theorem bestS_three (f : Nat → Nat) : (bestS f 3).1 = bestN f := by
  have e1 : bestS f 1 = (0, (f 0 : Int)) := by simp [bestS]
  have e2 : bestS f 2 = if f 1 < f 0 then (1, (f 1 : Int)) else (0, (f 0 : Int)) := by
    rw [bestS, e1]
    by_cases h : f 1 < f 0
    · rw [if_pos h, if_pos (by right; simpa using h)]
    · rw [if_neg h, if_neg (by simp only; omega)]
  rw [bestS, e2]
  unfold bestN
  by_cases h : f 1 < f 0
  · simp only [if_pos h]
    by_cases h' : f 2 < f 1
    · rw [if_pos h', if_pos (by right; omega)]
    · rw [if_neg h', if_neg (by omega)]
  · simp only [if_neg h]
    by_cases h' : f 2 < f 0
    · rw [if_pos h', if_pos (by right; omega)]
    · rw [if_neg h', if_neg (by omega)]
theorem bestS_pos (f : Nat → Nat) : ∀ k, 0 < k → ∃ b m : Nat, bestS f k = (b, (m : Int)) ∧ b < k
  | 0, h => by omega
  | 1, _ => ⟨0, f 0, by simp [bestS], by omega⟩
  | k + 2, _ => by
    obtain ⟨b, m, e, hb⟩ := bestS_pos f (k + 1) (by omega)
    rw [bestS, e]
    by_cases h : (m : Int) < 0 ∨ (f (k + 1) : Int) < (m : Int)
    · rw [if_pos h]; exact ⟨_, _, rfl, by omega⟩
    · rw [if_neg h]; exact ⟨_, _, rfl, by omega⟩

end Go.Proofs.YtfcefhaaphieeaaGreat
