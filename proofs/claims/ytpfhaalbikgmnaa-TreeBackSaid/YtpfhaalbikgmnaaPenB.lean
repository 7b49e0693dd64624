/-
  Walks: a pen's bit.
-/
import Derived.Test.YtpfhaalbikgmnaaPenA
namespace Go.Proofs.Ytpfhaalbikgmnaa
open Go.RowKit

/-- A pen under way: its struct in block g (of type t), its bytes a row of the call's own. -/
def PenAt (base : Nat) (w : World) (t : TypeId) (g : Nat) (l : List Nat) (n : Nat) : Prop :=
  ∃ A c, Blk w g t #[.slice A l.length c, .int .i64 (n : Int)] ∧ w.ownsRow base 5 1 (.slice A l.length c) l.length (u8s l)

/-- What the store of a bit does to a byte, in the walk's own spelling. -/
theorem bit_step (x v k : Nat) (hx : x < 256) (hk : k < 8) (h0 : x / 2 ^ k = 0) (hv : v < 4294967296) :
    bits BinOp.or IntKind.u8 (x : Int) (bits BinOp.and IntKind.u32 (v : Int) 1 % 256 * 2 ^ k % 256) = ((x + v % 2 * 2 ^ k : Nat) : Int) := by
  obtain ⟨h1, _⟩ := low_bits x hx k hk h0 (v % 2) (Nat.mod_lt _ (by omega))
  have hp : 2 ^ k ≤ 2 ^ 7 := pow2_le _ _ (by omega)
  have hlt : x < 2 ^ k := by
    rcases Nat.lt_or_ge x (2 ^ k) with h | h
    · exact h
    · have := Nat.div_pos h (Nat.two_pow_pos k); omega
  rw [and_u32_1 _ hv, mod_u8 _ (by omega), cast_shl, mod_u8 _ (by omega), or_u8 _ _ hx (by omega), or_disjoint _ _ _ hlt]

/-- The bytes in which the next bit has its place. -/
def roomL (l : List Nat) (n : Nat) : List Nat := if n % 8 = 0 then l ++ [0] else l
theorem roomL_spec {l : List Nat} {n : Nat} (h : Pen l n) : n / 8 < (roomL l n).length ∧ nth (roomL l n) (n / 8) / 2 ^ (n % 8) = 0 ∧ (∀ x ∈ roomL l n, x < 256) ∧
    ∀ b, setBit l n b = (roomL l n).set (n / 8) (nth (roomL l n) (n / 8) + b * 2 ^ (n % 8)) := by
  have hlen := h.len
  unfold roomL setBit
  by_cases h8 : n % 8 = 0
  · have hl : l.length = n / 8 := by omega
    simp only [if_pos h8]
    refine ⟨by simp; omega, ?_, ?_, fun b => ?_⟩
    · rw [← hl, nth_append_one]; simp
    · intro x hx
      rcases List.mem_append.1 hx with hx | hx
      · exact h.byte x hx
      · simp at hx; omega
    · rw [← hl, nth_append_one, h8]
      simp
  · simp only [if_neg h8]
    exact ⟨by omega, h.last h8, h.byte, by simp⟩
theorem pu8s_set (l : List Nat) (i x : Nat) : (u8s l).set i (.int .u8 (x : Int)) = u8s (l.set i x) := by simp [u8s, List.map_set]
theorem u8s_at (l : List Nat) (i : Nat) (h : i < l.length) : (u8s l)[i]? = some (.int .u8 ((nth l i : Nat) : Int)) := by simp [u8s, nth, List.getElem?_eq_getElem h]

set_option maxRecDepth 100000 in
set_option maxHeartbeats 1000000 in
theorem bit_put (base g : Nat) (l : List Nat) (n v : Nat) (w : World) (hp : PenAt base w 84 g l n) (hP : Pen l n) (hn : n ≤ 8388608) (hv : v < 4294967296) (hbase : base ≤ g) :
    Calls Try.prog 42 #[.pointer (some ⟨g, 0, none⟩), .int .u32 v] w fun e w' => e = .returned (.tuple #[]) ∧ PenAt base w' 84 g (setBit l n (v % 2)) (n + 1) ∧ Below base w w' := by
  obtain ⟨i0, hi0, hz0, hz1, hz2⟩ := info_parts pinfo_u8
  obtain ⟨A, c, hblk, hown⟩ := hp
  have hlen := hP.len
  have hgl := hblk.lt
  have hlm : l.length ≤ 2000000 := by omega
  have c0 : w.cell? ⟨g, 0, none⟩ = some (.slice A l.length c) := hblk.cell 0
  have c1 : w.cell? ⟨g, 1, none⟩ = some (.int .i64 (n : Int)) := hblk.cell 1
  have HL := Lib.hid hlen; clear hlen
  go_enter Try.func42, Try.ntmps42
  go_upto_if 10 with (fail)
  go_cut [] (fun wc => ∃ A c, Blk wc g 84 #[.slice A (roomL l n).length c, .int .i64 (n : Int)] ∧ wc.ownsRow base 5 1 (.slice A (roomL l n).length c) (roomL l n).length (u8s (roomL l n)) ∧ Below base w wc)
  case first =>
    by_cases h8 : n % 8 = 0
    · have hne := Lib.hid (own_blk_ne hown hblk (by decide))
      have f0 := hblk.frozen 0
      have f1 := hblk.frozen 1
      have ht : (((n : Int) % 8) == 0) = true := by rw [beq_iff_eq]; omega
      have H := Lib.hid h8
      clear h8
      go_wp2_with (at_builtin; refine wpList_app _ rfl (.tmp 16) (.tmp 17) _ rfl base 5 i0 _ 1 1 Try.underlying22 hi0 hz0 hz1 hz2 rfl (by omega) (.slice A l.length c) l.length (u8s l) rfl (by exact hown.alloc _) (some ⟨w.heap.size, 0, none⟩) 1 1 (u8s [0]) rfl rfl (by exact Sl.new _ _ _ _ rfl) (by simp) (u8s_one _) (l.length + 1) rfl (u8s (l ++ [0])) (u8s_append _ _) (by simp only [maxLen]; omega) (by omega) (by simp; omega) ?_; intro A3 c3 w3 hown3 hg3 hat3; have hblk3 : Blk w3 g 84 #[.slice A l.length c, .int .i64 (n : Int)] := (hblk.alloc _).grown hg3 (Ne.symm hne.out); have c30 : w3.cell? ⟨g, 0, none⟩ = some (.slice A l.length c) := hblk3.cell 0; have f30 := hblk3.frozen 0)
      go_meet
      have er : roomL l n = l ++ [0] := by unfold roomL; rw [if_pos H.out]
      have el : (roomL l n).length = l.length + 1 := by rw [er]; simp
      have hne3 := own_ne hat3 hne.out (by simp; omega)
      refine ⟨A3, c3, ?_, ?_, ?_⟩
      · rw [el]; exact hblk3.set_ 0 _
      · rw [el, er]; exact own_far hown3 hne3 _
      · exact (((Below.refl _ _).alloc (by omega) _).grown hg3 (by simp; omega) (own_row_ge hown)).setCell hbase _
    · have er : roomL l n = l := by unfold roomL; rw [if_neg h8]
      have ht : (((n : Int) % 8) == 0) = false := by rw [beq_eq_false_iff_ne]; omega
      have H := Lib.hid (And.intro h8 er)
      clear h8 er
      go_wp2_with fail
      go_meet
      rw [H.out.2]
      exact ⟨A, c, hblk, hown, Below.refl _ _⟩
  case rest =>
    obtain ⟨A3, c3, hblk3, hown3, hb3⟩ := hcut
    obtain ⟨r1, r2, r3, r4⟩ := roomL_spec hP
    obtain ⟨h, rfl, hh⟩ := own_at hown3 (by omega)
    have hhl := (hown3.lt h rfl).2
    have hx := nth_lt r3 (by omega) (n / 8)
    have hst := bit_step (nth (roomL l n) (n / 8)) v (n % 8) hx (by omega) r2 hv
    have hcell : wc.cell? ⟨h, n / 8, none⟩ = some (.int .u8 ((nth (roomL l n) (n / 8) : Nat) : Int)) := (hown3.cellAt (n / 8) (by omega)).trans (u8s_at _ _ r1)
    have hfr := hown3.frozenAt (n / 8)
    have hne := own_blk_ne hown3 hblk3 (by decide)
    have hgh : g ≠ h := fun e => hne (by rw [e]; rfl)
    have k0 : wc.cell? ⟨g, 0, none⟩ = some (.slice (some ⟨h, 0, none⟩) (roomL l n).length c3) := hblk3.cell 0
    have k1 : wc.cell? ⟨g, 1, none⟩ = some (.int .i64 (n : Int)) := hblk3.cell 1
    have q1 := hblk3.frozen 1
    have hgl3 := hblk3.lt
    have hR := r4 (v % 2)
    generalize hrl : roomL l n = L at *
    generalize hxx : nth L (n / 8) = x at *
    have H := Lib.hid (And.intro hst (And.intro r2 (And.intro hR (And.intro hxx hrl))))
    clear hst r2 hR hxx hrl c0 c1 r4 hne
    go_wp2_with fail
    go_region
    go_wp2_with fail
    go_end0
    obtain ⟨hst, r2, hR, hxx, hrl⟩ := H.out
    have el : (setBit l n (v % 2)).length = L.length := by rw [hR]; simp
    have e1 : ((n : Int) + 1) = ((n + 1 : Nat) : Int) := by omega
    rw [hst, e1]
    refine ⟨rfl, ⟨some ⟨h, 0, none⟩, c3, ?_, ?_⟩, ?_⟩
    · rw [el]
      exact Blk.drew ((hblk3.far (p := ⟨h, n / 8, none⟩) hgh _).set_ 1 _)
    · rw [el, hR, ← pu8s_set]
      exact own_drew (own_far (hown3.stored (n / 8) _).1 (fun e => hgh (by injection e with e; exact e.symm)) _)
    · exact ((hb3.setCell hh _).setCell hbase _).drew
end Go.Proofs.Ytpfhaalbikgmnaa
