/-
  Walks: slices.Clone at bytes, Twin, Same, Check, May.
-/
import Derived.BigQuiet
import Derived.Deep.DeepCutAuto
import Derived.Deep.QuietTactic
import Derived.StillTailTactics
import Derived.Test.YtahboomghjdjhaaG00
import Derived.Test.YtahboomghjdjhaaG09
import Derived.Test.YtahboomghjdjhaaGMem
import Derived.Test.YtahboomghjdjhaaRows
namespace Go.Proofs.Ytahboomghjdjhaa
open Go.RowKit

theorem pinfo_u8 : (Try.prog.info? 5).map (fun i => (i.zero, i.size, i.bytes)) = some (some (.int .u8 0), 1, 1) := by kernel_rfl

/-- Its errors: 0, or 8. -/
def pchkE (l : List Nat) (n : Int) : Nat := if mayB l n then 0 else 8

theorem chkE_size {l : List Nat} {n : Int} (h : ¬ (0 ≤ n ∧ n ≤ 8388608 ∧ (l.length : Int) = (n + 7) / 8)) : mayB l n = false := by
  unfold mayB
  rw [decide_eq_false_iff_not]
  exact fun h' => h ⟨h'.1, h'.2.1, h'.2.2.1⟩

end Go.Proofs.Ytahboomghjdjhaa

/-
  Walks: a pen's bit.
-/
namespace Go.Proofs.Ytahboomghjdjhaa
open Go.RowKit

/-- A pen under way: its struct in block g (of type t), its bytes a row of the call's own. -/
def PenAt (base : Nat) (w : World) (t : TypeId) (g : Nat) (l : List Nat) (n : Nat) : Prop :=
  ∃ A c, Blk w g t #[.slice A l.length c, .int .i64 (n : Int)] ∧ w.ownsRow base 5 1 (.slice A l.length c) l.length (u8s l)

/-- What the store of a bit does to a byte, in the walk's own spelling. -/
theorem bit_step (x v k : Nat) (hx : x < 256) (hk : k < 8) (h0 : x / 2 ^ k = 0) (hv : v < 4294967296) :
    bits BinOp.or IntKind.u8 (x : Int) (bits BinOp.and IntKind.u32 (v : Int) 1 % 256 * 2 ^ k % 256) = ((x + v % 2 * 2 ^ k : Nat) : Int) := by
  obtain ⟨h1, _⟩ := low_bits x hx k hk h0 (v % 2) (Nat.mod_lt _ (by omega))
  have hp : 2 ^ k ≤ 2 ^ 7 := pow2_le _ _ (by omega)
  have hlt : x < 2 ^ k := by
    rcases Nat.lt_or_ge x (2 ^ k) with h | h
    · exact h
    · have := Nat.div_pos h (Nat.two_pow_pos k); omega
  rw [and_u32_1 _ hv, mod_u8 _ (by omega), cast_shl, mod_u8 _ (by omega), or_u8 _ _ hx (by omega), or_disjoint _ _ _ hlt]

/-- The bytes in which the next bit has its place. -/
def roomL (l : List Nat) (n : Nat) : List Nat := if n % 8 = 0 then l ++ [0] else l
theorem roomL_spec {l : List Nat} {n : Nat} (h : Pen l n) : n / 8 < (roomL l n).length ∧ nth (roomL l n) (n / 8) / 2 ^ (n % 8) = 0 ∧ (∀ x ∈ roomL l n, x < 256) ∧
    ∀ b, setBit l n b = (roomL l n).set (n / 8) (nth (roomL l n) (n / 8) + b * 2 ^ (n % 8)) := by
  have hlen := h.len
  unfold roomL setBit
  by_cases h8 : n % 8 = 0
  · have hl : l.length = n / 8 := by omega
    simp only [if_pos h8]
    refine ⟨by simp; omega, ?_, ?_, fun b => ?_⟩
    · rw [← hl, nth_append_one]; simp
    · intro x hx
      rcases List.mem_append.1 hx with hx | hx
      · exact h.byte x hx
      · simp at hx; omega
    · rw [← hl, nth_append_one, h8]
      simp
  · simp only [if_neg h8]
    exact ⟨by omega, h.last h8, h.byte, by simp⟩
theorem pu8s_set (l : List Nat) (i x : Nat) : (u8s l).set i (.int .u8 (x : Int)) = u8s (l.set i x) := by simp [u8s, List.map_set]
theorem u8s_at (l : List Nat) (i : Nat) (h : i < l.length) : (u8s l)[i]? = some (.int .u8 ((nth l i : Nat) : Int)) := by simp [u8s, nth, List.getElem?_eq_getElem h]

end Go.Proofs.Ytahboomghjdjhaa

/-
  Walks: Put, Align.
-/
namespace Go.Proofs.Ytahboomghjdjhaa
open Go.RowKit

/-- What a pen's function answers: the pen or the empty one, and the error. -/
def PenRes (w w' : World) (e : Ending) (l : List Nat) (n E : Nat) : Prop :=
  Below w.heap.size w w' ∧ ∃ A c, e = .returned (.tuple #[.agg #[.slice A l.length c, .int .i64 (n : Int)], .int .i64 (E : Int)]) ∧ w'.ownsRow w.heap.size 5 1 (.slice A l.length c) l.length (u8s l)

theorem PenRes.none_ {w w' : World} {e : Ending} {E : Nat} (h : Below w.heap.size w w') (he : e = .returned (.tuple #[.agg #[.slice none 0 0, .int .i64 0], .int .i64 (E : Int)])) : PenRes w w' e [] 0 E :=
  ⟨h, none, 0, he, World.ownsRow_nil _ _ _ _⟩

end Go.Proofs.Ytahboomghjdjhaa
