/-
  Walks: tokens put behind by their codes.
-/
import Derived.Shelf.Abstract
import Derived.Test.YtfcefhaaphieeaaGreatG18
namespace Go.Proofs.YtfcefhaaphieeaaGreat
open Go.RowKit Go.Shelf

theorem codes_ok (A : Option Addr) (n c : Nat) (l : List Nat) (m : Int) (w : World) (hl : Bs w A l) (hn : n = l.length) (hE : canE l m = 0) (h1 : -9223372036854775808 ≤ m) (h2 : m ≤ 9223372036854775807) :
    Calls Tryz.prog 47 #[.slice A n c, .int .i64 m] w fun e w' => ∃ B d, e = .returned (.tuple #[.slice B n d, .int .i64 0]) ∧ Builds w w' 108 2 B n d (codV (codesL l)) := by
  subst hn
  have h320 : l.length ≤ 320 := by obtain ⟨_, _, a, _⟩ := canE_ok hE; omega
  refine (codes_any A c l m w hl (by omega) h1 h2).mono ?_
  rintro e w' ⟨B, d, rfl, hB⟩
  have e1 : canL l m = codesL l := by unfold canL; rw [if_pos hE]
  rw [e1, codesL_length] at hB ⊢
  rw [hE]
  exact ⟨B, d, rfl, hB⟩

/-- What lies in memory between two symbols. -/
structure TokJ (W0 : World) (g : Nat) (L : List (Nat × Nat)) (A : Option Addr) (na da : Nat) (a : List Nat) (B : Option Addr) (nb db : Nat) (b : List Nat) (g1 g2 g3 : Nat) (pre : List Sy) (W : World) : Prop where
  tx : TxAt W0 W g (L ++ toksP (codesL a) (codesL b) pre)
  b1 : Blk W g1 37 #[.pointer (some ⟨g, 0, none⟩)]
  b2 : Blk W g2 98 #[.slice B nb db]
  b3 : Blk W g3 98 #[.slice A na da]
  ra : Builds W0 W 108 2 A na da (codV (codesL a))
  rb : Builds W0 W 108 2 B nb db (codV (codesL b))

theorem TokJ.below {W0 : World} {g : Nat} {L : List (Nat × Nat)} {A : Option Addr} {na da : Nat} {a : List Nat} {B : Option Addr} {nb db : Nat} {b : List Nat} {g1 g2 g3 : Nat} {pre : List Sy} {W W' : World}
    (h : TokJ W0 g L A na da a B nb db b g1 g2 g3 pre W) (hb : Below W.heap.size W W') : TokJ W0 g L A na da a B nb db b g1 g2 g3 pre W' :=
  ⟨h.tx.below hb, h.b1.below hb h.b1.lt, h.b2.below hb h.b2.lt, h.b3.below hb h.b3.lt, h.ra.below hb, h.rb.below hb⟩
theorem TokJ.kt {W0 : World} {g : Nat} {L : List (Nat × Nat)} {A : Option Addr} {na da : Nat} {a : List Nat} {B : Option Addr} {nb db : Nat} {b : List Nat} {g1 g2 g3 : Nat} {pre : List Sy} {s : Sy} {W W' : World}
    (h : TokJ W0 g L A na da a B nb db b g1 g2 g3 pre W) (hk : Kt W W') (ht : TxAt W0 W' g (L ++ toksP (codesL a) (codesL b) (pre ++ [s]))) : TokJ W0 g L A na da a B nb db b g1 g2 g3 (pre ++ [s]) W' :=
  ⟨ht, hk.blk h.b1 (by decide) (by decide), hk.blk h.b2 (by decide) (by decide), hk.blk h.b3 (by decide) (by decide), hk.own h.ra (by decide) (by decide) ht.bel, hk.own h.rb (by decide) (by decide) ht.bel⟩

/-- Symbols that have a code. -/
def SyIn (a b : List Nat) (ss : List Sy) : Prop := ∀ s ∈ ss, if s.far = true then s.sym < b.length else s.sym < a.length

set_option maxRecDepth 100000 in
set_option maxHeartbeats 2000000 in
theorem tokclo_any (W0 : World) (g : Nat) (L : List (Nat × Nat)) (A : Option Addr) (na da : Nat) (a : List Nat) (B : Option Addr) (nb db : Nat) (b : List Nat) (g1 g2 g3 : Nat) (pre : List Sy) (s : Sy) (W : World)
    (h : TokJ W0 g L A na da a B nb db b g1 g2 g3 pre W) (hna : na = a.length) (hnb : nb = b.length) {m m' : Int} (hE : canE a m = 0) (hE' : canE b m' = 0) (ho : SyOk s) (hi : if s.far = true then s.sym < b.length else s.sym < a.length) (hl : L.length + 2 * pre.length ≤ 900000) :
    Calls Tryz.prog 50 (syArgs s ++ #[.pointer (some ⟨g1, 0, none⟩), .pointer (some ⟨g2, 0, none⟩), .pointer (some ⟨g3, 0, none⟩)]) W fun e W' =>
      e = .returned (.tuple #[]) ∧ TokJ W0 g L A na da a B nb db b g1 g2 g3 (pre ++ [s]) W' ∧ W.heap.size ≤ W'.heap.size ∧ ∀ k cs, Blk W k 55 cs → Blk W' k 55 cs := by
  obtain ⟨f, y, n, x⟩ := s
  obtain ⟨_, o2, o3⟩ := ho
  dsimp only at o2 o3 hi
  have hx : x < 4294967296 := by have := Nat.pow_le_pow_right (n := 2) (by omega) (show n ≤ 32 by omega); omega
  have c1 : W.cell? ⟨g1, 0, none⟩ = some (.pointer (some ⟨g, 0, none⟩)) := h.b1.cell 0
  have c2 : W.cell? ⟨g2, 0, none⟩ = some (.slice B nb db) := h.b2.cell 0
  have c3 : W.cell? ⟨g3, 0, none⟩ = some (.slice A na da) := h.b3.cell 0
  have hT := Lib.hid h
  have hlen : (L ++ toksP (codesL a) (codesL b) pre).length ≤ 900000 := by rw [List.length_append, toksP_length]; omega
  cases f with
  | true =>
    have HP := Lib.hid (code_put W0 g (L ++ toksP (codesL a) (codesL b) pre) B db nb b m' y n x W h.tx h.rb.rd hnb hE' (by simpa using hi) (by omega) hx hlen)
    clear h hE hE' hi hlen o3 hna hnb
    unfold syArgs
    go_enter Tryz.func50, Tryz.ntmps50
    go_wp2_with fail
    with_reducible refine Calls.mono (HP.out) ?_
    rintro e w1 ⟨rfl, ht, hk⟩
    go_wp2_with fail
    go_end0
    refine ⟨rfl, hT.out.kt hk ?_, hk.1, fun k cs hb => hk.blk hb (by decide) (by decide)⟩
    rw [toksP_snoc, ← List.append_assoc]; exact ht
  | false =>
    have HP := Lib.hid (code_put W0 g (L ++ toksP (codesL a) (codesL b) pre) A da na a m y n x W h.tx h.ra.rd hna hE (by simpa using hi) (by omega) hx hlen)
    clear h hE hE' hi hlen o3 hna hnb
    unfold syArgs
    go_enter Tryz.func50, Tryz.ntmps50
    go_wp2_with fail
    with_reducible refine Calls.mono (HP.out) ?_
    rintro e w1 ⟨rfl, ht, hk⟩
    go_wp2_with fail
    go_end0
    refine ⟨rfl, hT.out.kt hk ?_, hk.1, fun k cs hb => hk.blk hb (by decide) (by decide)⟩
    rw [toksP_snoc, ← List.append_assoc]; exact ht

set_option maxRecDepth 100000 in
set_option maxHeartbeats 2000000 in
theorem tokens_any (W0 : World) (g : Nat) (L : List (Nat × Nat)) (T : Option Addr) (n c : Nat) (l : List Tk) (A : Option Addr) (na ca : Nat) (a : List Nat) (B : Option Addr) (nb cb : Nat) (b : List Nat) (w : World)
    (h : TxAt W0 w g L) (hT : Rd W0 T (tkV l)) (hn : n = l.length) (hm : l.length ≤ 65535) (hk : TksOk l) (hA : Bs w A a) (hB : Bs w B b) (hna : na = a.length) (hnb : nb = b.length) (hE : canE a 15 = 0) (hE' : canE b 15 = 0)
    (hi : SyIn a b (symsL l)) (hl : L.length ≤ 100000) :
    Calls Tryz.prog 27 #[.pointer (some ⟨g, 0, none⟩), .slice T n c, .slice A na ca, .slice B nb cb] w fun e w' => e = .returned (.tuple #[]) ∧ TxAt W0 w' g (L ++ toksP (codesL a) (codesL b) (symsL l)) := by
  have HA := Lib.hid fun wx h => codes_ok A na ca a 15 wx h hna hE (by omega) (by omega)
  have HB := Lib.hid fun wx h => codes_ok B nb cb b 15 wx h hnb hE' (by omega) (by omega)
  have HS := Lib.hid fun gf lb heg J wx hC hJ => symbols_any T n c l gf lb heg J wx hC hJ hn (by omega) hk
  have hlen := symsL_len l
  have HC := Lib.hid fun (A2 : Option Addr) (da : Nat) (B2 : Option Addr) (db g1 g2 g3 : Nat) => show SyClo l T 50 #[.pointer (some ⟨g1, 0, none⟩), .pointer (some ⟨g2, 0, none⟩), .pointer (some ⟨g3, 0, none⟩)] (TokJ W0 g L A2 na da a B2 nb db b g1 g2 g3) from
    { call := fun pre s W1 hp hj => by
        have hs : s ∈ symsL l := hp.subset (by simp)
        have hpl := hp.length_le
        rw [List.length_append, List.length_singleton] at hpl
        exact tokclo_any W0 g L A2 na da a B2 nb db b g1 g2 g3 pre s W1 hj hna hnb hE hE' (symsL_ok hk s hs) (hi s hs) (by omega)
      keep := fun pre W1 W2 hj hb => hj.below hb
      rd := fun pre W1 hj => hT.below hj.tx.bel }
  clear hlen hna hnb hE hE' hi hl hk hn
  go_enter Tryz.func27, Tryz.ntmps27
  go_wp2_with fail
  refine (HA.out _ (hA.alloc _)).mono ?_
  rintro e w1 ⟨A2, da, rfl, hB1⟩
  obtain ⟨q0, q1, q2⟩ := box1 hB1.1
  have h1 := h.below q0
  have hB2 := hB.below q0
  have hA2 := hB1.rebase (h.alloc _).bel
  clear hB1
  go_wp2_with fail
  refine (HB.out _ (hB2.alloc _)).mono ?_
  rintro e w2 ⟨B2, db, rfl, hB1⟩
  obtain ⟨r0, r1, r2⟩ := box1 hB1.1
  have h2 := h1.below r0
  have hA3 := hA2.below r0
  have q3 := Blk.below q2 r0 q1
  have q4 : w.heap.size < w2.heap.size := Nat.lt_trans q1 r1
  have hB3 := hB1.rebase (h1.alloc _).bel
  clear hB1 hA2 h1 q2
  go_wp2_with fail
  have hj : TokJ W0 g L A2 na da a B2 nb db b w.heap.size w2.heap.size w1.heap.size [] (w2.alloc (.cells #[.slice B2 nb db] 98)) :=
    { tx := by simpa [toksP] using h2.alloc _
      b1 := q3.alloc _
      b2 := Blk.new' _ _ _ _ rfl
      b3 := Blk.alloc r2 _
      ra := hA3.alloc _
      rb := hB3.alloc _ }
  refine (HS.out _ _ (enters_of Tryz.func50 (by kernel_rfl) rfl) _ _ (HC.out A2 da B2 db w.heap.size w2.heap.size w1.heap.size) hj).mono ?_
  rintro e w3 ⟨rfl, hj3⟩
  have HJ := Lib.hid hj3
  clear hj hj3
  go_wp2_with fail
  go_end0
  exact ⟨rfl, HJ.out.tx⟩
end Go.Proofs.YtfcefhaaphieeaaGreat
