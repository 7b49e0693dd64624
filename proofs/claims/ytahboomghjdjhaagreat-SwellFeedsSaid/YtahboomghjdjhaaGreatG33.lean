/-
  Walks: slices.Grow at nil, math/bits.Mul at one, slices.Repeat of one byte, slices.Concat.
-/
import Derived.BigQuiet
import Derived.Deep.QuietTactic
import Derived.Laws.CopyOwn
import Derived.Lib.AppendZerosOnto
import Derived.Test.YtahboomghjdjhaaGreatG00
import Derived.Test.YtahboomghjdjhaaGreatG04
import Derived.Test.YtahboomghjdjhaaGreatProg
namespace Go.Proofs.YtahboomghjdjhaaGreat
open Go.RowKit

theorem belem_u8 : Elem Tryz.prog 22 5 1 1 := Elem.mk' (z := .int .u8 0) (by kernel_rfl) (by kernel_rfl) rfl (by omega)

/-- 'append(nil, make([]T, n)...)'. -/
theorem app_zeros {P : Program} {w : World} {ops : Array Oper} {rest : List Oper} {o : Oper} {a : Act} {Q : Exit → Act → World → Prop} {t tn e : TypeId} {b : Nat} (E : Elem P t e 1 b) (htn : P.underlying tn = some (.int .i64)) (hgd : o.guard = none) (s x : Operand)
    (ho : o.op = .call { callee := .builtin .append, args := #[s, x], argTypes := #[t, tn] }) (hs : a.eval s = .slice none 0 0) (n : Nat) (hx : a.eval x = .int .i64 (n : Int)) (h0 : 0 < n) (hn : n ≤ 1000000) (hb : b ≤ 1000)
    (h : ∀ g c w', Builds w w' e 1 (some ⟨g, 0, none⟩) 0 c [] → n ≤ c → wpList P ops Q rest (a.put o.dst (.slice (some ⟨g, 0, none⟩) n c)) w') : wpList P ops Q (o :: rest) a w := by
  obtain ⟨i, z, hi, hz, hsize, hbytes, hzs⟩ := E.inf
  refine wpList_plain hgd fun K hK => ?_
  have hcap : Builtin.nextslicecap (0 + n) 0 ≤ 2 * (0 + n) := nextslicecap_le (by omega)
  have hm : Builtin.nextslicecap (0 + n) 0 * i.bytes ≤ 2000000 * 1000 := Nat.mul_le_mul (by omega) (by omega)
  have hm2 : n * i.bytes ≤ 1000000 * 1000 := Nat.mul_le_mul hn (by omega)
  have hrun := Lib.run_append_grow_zeros (P := P) w t tn o.type e i z .i64 .i64 E.und htn hi hz none 0 0 [] (run_firstCells_none w.drew i.size 0 0 0) n h0 (by omega) (by omega) (by omega) (by omega) (by omega)
  unfold Oper.wp execOp
  simp only [ho, resolve, invoke, builtin, Sem.run_bind, Sem.run_pure, Result.andThen_ok, List.map_toArray, List.map_cons, List.map_nil, hs, hx, hrun]
  have hge := grownCap_ge w (0 + n) 0 e
  have hle := grownCap_le_maxLen w (0 + n) 0 e (by simp only [maxLen]; omega)
  rw [Nat.zero_add] at hge hle ⊢
  refine hK _ _ (h w.heap.size (grownCap w n 0 e) _ ⟨((Below.refl w.heap.size w).drew).alloc (Nat.le_refl _) _, rfl, .inr ⟨w.heap.size, grownCap w n 0 e, _, rfl, Nat.le_refl _, heap_alloc_new w.drew _, by omega, hle, ?_, by simp⟩⟩ hge)
  simp [Builtin.zeroCells, hzs]
  omega

set_option maxHeartbeats 1000000 in
theorem grow_nil (n : Nat) (w : World) (h0 : 0 < n) (hn : n ≤ 1000000) :
    Calls Tryz.prog 28 #[.slice none 0 0, .int .i64 (n : Int)] w fun e w' => ∃ g c, e = .returned (.slice (some ⟨g, 0, none⟩) 0 c) ∧ Builds w w' 5 1 (some ⟨g, 0, none⟩) 0 c [] := by
  go_enter Tryz.func28, Tryz.ntmps28
  go_wp2_with (at_builtin; refine app_zeros belem_u8 (by kernel_rfl) rfl (.tmp 20) (.tmp 21) rfl rfl n rfl h0 hn (by omega) ?_; intro g c w1 hB hc)
  go_ret
  exact ⟨g, c, rfl, hB⟩

theorem and_u64 (a b : Nat) (ha : a < 18446744073709551616) (hb : b < 18446744073709551616) : bits .and .u64 (a : Int) (b : Int) = ((a &&& b : Nat) : Int) :=
  (bits_nat .u64 64 (by decide) (fun n h0 h1 => by rw [IntKind.wrap_u64]; omega) a b (by omega) (by omega)).1
theorem and_low (a : Nat) (ha : a < 4294967296) : bits .and .u64 (a : Int) 4294967295 = (a : Int) := by
  have := and_u64 a 4294967295 (by omega) (by omega)
  rw [show (4294967295 : Nat) = 2 ^ 32 - 1 by decide, Nat.and_two_pow_sub_one_eq_mod, Nat.mod_eq_of_lt (by omega)] at this
  exact this

set_option maxHeartbeats 1000000 in
theorem mul64_one (n : Nat) (w : World) (hn : n < 4294967296) :
    Calls Tryz.prog 114 #[.int .u64 1, .int .u64 (n : Int)] w fun e w' => e = .returned (.tuple #[.int .u64 0, .int .u64 (n : Int)]) ∧ w = w' := by
  have a1 : bits .and .u64 1 4294967295 = 1 := and_low 1 (by omega)
  have a2 := and_low n hn
  have a3 : bits .and .u64 0 4294967295 = 0 := and_low 0 (by omega)
  have d1 : (n : Int) / 4294967296 = 0 := by omega
  have d2 : (1 : Int) / 4294967296 = 0 := by omega
  go_enter Tryz.func114, Tryz.ntmps114
  go_wp2_with fail
  go_ret2
  exact ⟨rfl, rfl⟩

set_option maxHeartbeats 1000000 in
theorem mul_one (n : Nat) (w : World) (hn : n < 4294967296) :
    Calls Tryz.prog 107 #[.int .u64 1, .int .u64 (n : Int)] w fun e w' => e = .returned (.tuple #[.int .u64 0, .int .u64 (n : Int)]) ∧ w = w' := by
  go_enter Tryz.func107, Tryz.ntmps107
  go_wp2_with fail
  refine (mul64_one n w hn).mono ?_
  rintro e w1 ⟨rfl, rfl⟩
  go_wp2_with fail
  go_ret2
  exact ⟨rfl, rfl⟩

theorem splice_get {α : Type} (L : List α) (off : Nat) (cs : List α) (h : off + cs.length ≤ L.length) (i : Nat) : (splice L off cs)[i]? = if i < off then L[i]? else if i < off + cs.length then cs[i - off]? else L[i]? := by
  have ht : (L.take off).length = off := by rw [List.length_take]; omega
  unfold splice
  by_cases h1 : i < off
  · rw [if_pos h1, List.getElem?_append_left (by omega), List.getElem?_take, if_pos h1]
  · rw [if_neg h1, List.getElem?_append_right (by omega), ht]
    by_cases h2 : i < off + cs.length
    · rw [if_pos h2, List.getElem?_append_left (by omega)]
    · rw [if_neg h2, List.getElem?_append_right (by omega), List.getElem?_drop]
      congr 1; omega
section
variable {W w w' : World} {e : TypeId} {n c g : Nat} {xs : List Value}
/-- A slice under way, its block whole. -/
theorem Builds.row (h : Builds W w e 1 (some ⟨g, 0, none⟩) n c xs) : ∃ cur : List Value, w.heap[g]? = some (.cells cur.toArray e (0, 0)) ∧ cur.take n = xs ∧ n ≤ c ∧ cur.length = c ∧ c ≤ maxLen ∧ W.heap.size ≤ g := by
  rcases h.2.2 with ⟨h1, _⟩ | ⟨g', cap, cur, hv, hb, hh, h2, h3, h4, h5⟩
  · cases h1
  · simp only [Value.slice.injEq, Option.some.injEq, Addr.mk.injEq] at hv
    obtain ⟨⟨rfl, _⟩, _, rfl⟩ := hv
    exact ⟨cur.toList, by simpa using hh, by simpa using h5, h2, by simpa using h4, h3, hb⟩
/-- .. with cells laid over it. -/
theorem Builds.spliced (h : Builds W w e 1 (some ⟨g, 0, none⟩) n c xs) {cur cs : List Value} {off : Nat} (hc : w.heap[g]? = some (.cells cur.toArray e (0, 0))) (hh : w'.heap[g]? = some (.cells (splice cur off cs).toArray e (0, 0))) (hb : Below W.heap.size W w') (hfit : off + cs.length ≤ n) :
    Builds W w' e 1 (some ⟨g, 0, none⟩) n c (splice xs off cs) := by
  obtain ⟨cur', h1, h2, h3, h4, h5, h6⟩ := h.row
  rw [hc] at h1
  injection h1 with h1
  injection h1 with h1 _
  have h1 : cur = cur' := by simpa using h1
  subst h1
  have hl : (splice xs off cs).length = n := by
    rw [← h2, length_splice _ _ _ (by rw [List.length_take]; omega), List.length_take]; omega
  refine ⟨hb, by omega, .inr ⟨g, c, _, rfl, h6, hh, h3, h5, ?_, ?_⟩⟩
  · rw [List.size_toArray, length_splice _ _ _ (by omega)]; omega
  · rw [← h2, Nat.mul_one]
    apply List.ext_getElem?
    intro i
    have e1 := splice_get cur off cs (by omega) i
    have e2 := splice_get (cur.take n) off cs (by rw [List.length_take]; omega) i
    show (List.take n (splice cur off cs))[i]? = _
    rw [List.getElem?_take, e1, e2, List.getElem?_take]
    by_cases hi : i < n
    · rw [if_pos hi, if_pos hi]
    · rw [if_neg hi, if_neg hi, if_neg (by omega), if_neg (by omega)]
end

/-- k bytes x, then noughts. -/
def fillL (x n k : Nat) : List Value := u8s (List.replicate k x ++ List.replicate (n - k) 0)
theorem fill_length (x n k : Nat) (h : k ≤ n) : (fillL x n k).length = n := by simp [fillL, u8s]; omega
theorem fill_get (x n k i : Nat) (hk : k ≤ n) : (fillL x n k)[i]? = if i < n then some (.int .u8 ((if i < k then x else 0 : Nat) : Int)) else none := by
  unfold fillL u8s
  rw [List.getElem?_map]
  by_cases h1 : i < k
  · rw [List.getElem?_append_left (by simpa using h1), if_pos (by omega), if_pos h1]; simp [h1]
  · rw [List.getElem?_append_right (by simp; omega)]
    by_cases h2 : i < n
    · rw [if_pos h2, if_neg h1, List.length_replicate, List.getElem?_replicate, if_pos (by omega)]; rfl
    · rw [if_neg h2, List.getElem?_eq_none (by simp; omega)]; rfl
theorem fill_splice (x n k m : Nat) (h : k + m ≤ n) : splice (fillL x n k) k (u8s (List.replicate m x)) = fillL x n (k + m) := by
  have hm : (u8s (List.replicate m x)).length = m := by simp [u8s]
  apply List.ext_getElem?
  intro i
  rw [splice_get _ _ _ (by rw [fill_length _ _ _ (by omega), hm]; exact h), fill_get _ _ _ _ (by omega), fill_get _ _ _ _ h, hm]
  by_cases h1 : i < k
  · rw [if_pos h1, if_pos h1, if_pos (by omega : i < k + m)]
  · rw [if_neg h1]
    by_cases h2 : i < k + m
    · rw [if_pos h2, if_pos h2, if_pos (by omega)]
      unfold u8s
      rw [List.getElem?_map, List.getElem?_replicate, if_pos (by omega)]; rfl
    · rw [if_neg h2, if_neg h2, if_neg h1]
theorem fill_zero (x n : Nat) : fillL x n 0 = u8s (List.replicate n 0) := by simp [fillL]
theorem fill_full (x n : Nat) : fillL x n n = u8s (List.replicate n x) := by simp [fillL]
end Go.Proofs.YtahboomghjdjhaaGreat

/-
  Walks: slices.Repeat of one byte, slices.Concat.
-/
namespace Go.Proofs.YtahboomghjdjhaaGreat
open Go.RowKit

theorem made_fill (x n : Nat) : (madeCells (Value.int .u8 0).cells (n * 1)).toList = fillL x n 0 := by
  rw [Nat.mul_one, made_zeros _ rfl, zeros_list, fill_zero]; simp [u8s]

theorem one_cell {w : World} {b off x : Nat} (h : w.cell? ⟨b, off, none⟩ = some (.int .u8 (x : Int))) : ∀ j v, (u8s (List.replicate 1 x))[j]? = some v → w.cell? ((⟨b, off, none⟩ : Addr).add j) = some v := fun j v hj => by
  rcases j with _ | j
  · rw [add_plain, Nat.add_zero, h]; exact hj
  · simp [u8s] at hj
theorem fill_cells {W w : World} {g n c x k : Nat} (h : Builds W w 5 1 (some ⟨g, 0, none⟩) n c (fillL x n k)) (hk : k ≤ n) {m : Nat} (hm : m ≤ k) : ∀ j v, (u8s (List.replicate m x))[j]? = some v → w.cell? ((⟨g, 0, none⟩ : Addr).add j) = some v := fun j v hj => by
  unfold u8s at hj
  rw [List.getElem?_map, List.getElem?_replicate] at hj
  by_cases h1 : j < m
  · rw [if_pos h1] at hj
    rw [add_plain, Nat.zero_add, h.cell j (by omega), fill_get _ _ _ _ hk, if_pos (by omega), if_pos (by omega)]
    exact hj
  · rw [if_neg h1] at hj; cases hj

set_option maxRecDepth 100000 in
set_option maxHeartbeats 2000000 in
/-- One byte, n times. -/
theorem repeat_any (A : Option Addr) (c x n : Nat) (w : World) (hA : Rd w A (u8s [x])) (h0 : 0 < n) (hn : n ≤ 100000) :
    Calls Tryz.prog 99 #[.slice A 1 c, .int .i64 (n : Int)] w fun e w' => ∃ B d, e = .returned (.slice B n d) ∧ Builds w w' 5 1 B n d (u8s (List.replicate n x)) := by
  have hM := Lib.hid fun w => mul_one n w (by omega)
  have hgt : decide ((0 : Int) > 0) = false := by decide
  have hmax : decide ((n : Int) > 9223372036854775807) = false := decide_eq_false (by omega)
  obtain ⟨b, off, rfl, hc⟩ := hA.at_ (by simp [u8s])
  have hc0 : w.cell? ⟨b, off, none⟩ = some (.int .u8 (x : Int)) := hc 0 _ rfl
  have hlt0 := cell_lt hc0
  clear hc
  go_enter Tryz.func99, Tryz.ntmps99
  go_wp2_with fail
  refine (hM.out _).mono ?_
  rintro e w1 ⟨rfl, rfl⟩
  go_wp2_with (first
    | (at_make; refine makes belem_u8 (z := .int .u8 0) (by kernel_rfl) rfl _ _ rfl n rfl rfl rfl (by omega) (by omega) (fillL x n 0) (made_fill x n) ?_; intro w3 hB3; obtain ⟨cur, hcur, htk, hnc, hcl, hcm, -⟩ := hB3.row; have hc3 := (hB3.1.cell hlt0).trans hc0)
    | (refine wpList_copy_splice rfl (.tmp 31) (.tmp 32) 22 22 rfl 5 (by kernel_rfl) (by kernel_rfl) _ _ _ _ _ _ rfl rfl w.heap.size 0 cur 5 hcur (u8s (List.replicate 1 x)) (by simp [u8s, Nat.min_def]; omega) (fun _ => ⟨rfl, _, rfl, one_cell hc3⟩) (by simp [u8s]; omega) (u8s_one _) w.heap.size w hB3.1 (Nat.le_refl _) ?_; intro w4 hg4 hb4; rw [u8s_length, List.length_replicate]; have hB4 := hB3.spliced hcur hg4.out hb4 (by simp [u8s]; omega); rw [fill_splice x n 0 1 (by omega)] at hB4; have HCL := Lib.hid hcl; clear hg4 hcur htk hcl hB3 hc3 hcm hnc hb4))
  go_loopg [8] (n - 1) (fun gk v8 wr => ∃ k : Nat, 1 ≤ k ∧ k ≤ n ∧ gk = n - k ∧ v8 = .int .i64 (k : Int) ∧ Builds w wr 5 1 (some ⟨w.heap.size, 0, none⟩) n n (fillL x n k))
  case atStart => exact ⟨1, by omega, by omega, by omega, rfl, hB4⟩
  case round =>
    clear hB4
    obtain ⟨k, hk1, hk, hgk, rfl, hB⟩ := hrel
    have HG := Lib.hid hgk
    clear hgk
    by_cases hlt : k < n
    · obtain ⟨m, hm⟩ : ∃ m, m = Nat.min k (n - k) := ⟨_, rfl⟩
      have hm1 : k + m ≤ n := by rw [hm]; simp only [Nat.min_def]; split <;> omega
      have hm2 : 1 ≤ m := by rw [hm]; simp only [Nat.min_def]; split <;> omega
      have hmk : m ≤ k := by rw [hm]; simp only [Nat.min_def]; split <;> omega
      have HM := Lib.hid hm
      have hsub : (n : Int) - (k : Int) = ((n - k : Nat) : Int) := by omega
      clear hm
      go_wp2_with fail
      obtain ⟨cur, hcur, htk, hnc, hcl, hcm, -⟩ := hB.row
      have hcells := Lib.hid (fill_cells hB hk hmk)
      have HCL := Lib.hid (And.intro hcl hnc)
      clear hnc hcl hcm htk
      have hnk : ¬ (n = k) := by omega
      have hw : IntKind.i64.wrap ((k : Int) + (m : Int)) = ((k + m : Nat) : Int) := by rw [IntKind.wrap_i64]; omega
      have hb1 := hB.1.drew
      go_region_law (refine step_copy_splice rfl (.tmp 41) (.tmp 44) 22 22 rfl 5 (by kernel_rfl) (by kernel_rfl) (some ⟨w.heap.size, k, none⟩) (some ⟨w.heap.size, 0, none⟩) (n - k) (n - k) k n (by simp [Act.eval, Act.put]) (by simp [Act.eval, Act.put]) w.heap.size k cur 5 hcur (u8s (List.replicate m x)) (by rw [u8s_length, List.length_replicate]; exact HM.out) (fun _ => ⟨rfl, _, rfl, hcells.out⟩) (by rw [u8s_length, List.length_replicate]; have := HCL.out; omega) (u8s_one _) w.heap.size w hb1 (Nat.le_refl _) ?_; intro w4 hg4 hb4; rw [u8s_length, List.length_replicate])
      have hB4 := hB.spliced hcur hg4.out hb4 (by rw [u8s_length, List.length_replicate]; omega)
      rw [fill_splice x n k m hm1] at hB4
      clear hg4 hcur hB hb4 hb1 hcells
      go_wp2_with fail
      go_roundg (n - (k + m))
      case measure => have := HG.out; omega
      case rel => exact ⟨k + m, by omega, hm1, rfl, by go_num, hB4⟩
    · obtain rfl : k = n := by omega
      go_wp2_with fail
      go_ret
      exact ⟨_, _, rfl, by rw [← fill_full x k]; exact hB⟩

/-- A list of bytes as it lies in memory. -/
structure Piece where
  A : Option Addr
  c : Nat
  l : List Nat
def pieceV (p : Piece) : Value := .slice p.A p.l.length p.c
def piecesL (ps : List Piece) : List Nat := ps.flatMap (·.l)
theorem piecesL_take (ps : List Piece) (k : Nat) (h : k < ps.length) : piecesL (ps.take (k + 1)) = piecesL (ps.take k) ++ ps[k].l := by
  rw [List.take_succ_eq_append_getElem h]; unfold piecesL; rw [List.flatMap_append, List.flatMap_cons, List.flatMap_nil, List.append_nil]
theorem piecesL_le (ps : List Piece) (k : Nat) : (piecesL (ps.take k)).length ≤ (piecesL ps).length := by
  have e : piecesL ps = piecesL (ps.take k) ++ piecesL (ps.drop k) := by unfold piecesL; rw [← List.flatMap_append, List.take_append_drop]
  rw [e, List.length_append]; omega

set_option maxRecDepth 100000 in
set_option maxHeartbeats 2000000 in
/-- Lists, one behind the other. -/
theorem concat_any (S : Option Addr) (n c : Nat) (ps : List Piece) (w : World) (hS : Rd w S (ps.map pieceV)) (hn : n = ps.length) (hp : ∀ p ∈ ps, Rd w p.A (u8s p.l)) (hs : ps.length ≤ 100000) (h0 : 0 < (piecesL ps).length) (hm : (piecesL ps).length ≤ 100000) :
    Calls Tryz.prog 16 #[.slice S n c] w fun e w' => ∃ B d, e = .returned (.slice B (piecesL ps).length d) ∧ Builds w w' 5 1 B (piecesL ps).length d (u8s (piecesL ps)) := by
  obtain ⟨T, hT⟩ : ∃ T, (piecesL ps).length = T := ⟨_, rfl⟩
  have HG := Lib.hid fun w => grow_nil T w (by omega) (by omega)
  have HT := Lib.hid hT
  have HN := Lib.hid hn
  have hn2 : n ≤ 100000 := by omega
  have HP := Lib.hid hp
  rw [hT] at h0 hm ⊢
  clear hT hn hs hp
  have hcell : ∀ k (hk : k < ps.length), ∃ b off, S = some ⟨b, off, none⟩ ∧ w.cell? ⟨b, off + k, none⟩ = some (.slice ps[k].A ps[k].l.length ps[k].c) := fun k hk => by
    obtain ⟨b, off, hA, hc⟩ := hS.at_ (by rw [List.length_map]; omega)
    exact ⟨b, off, hA, hc k _ (by rw [List.getElem?_map, List.getElem?_eq_getElem hk]; rfl)⟩
  have HC := Lib.hid hcell
  clear hcell hS
  go_enter Tryz.func16, Tryz.ntmps16
  go_wp2_with fail
  go_loopg [3, 11] n (fun gk v3 v11 wr => ∃ k : Nat, k ≤ n ∧ gk = n - k ∧ v11 = .int .i64 (k : Int) ∧ v3 = .int .i64 (((piecesL (ps.take k)).length : Nat) : Int) ∧ w = wr)
  case atStart => exact ⟨0, by omega, rfl, rfl, rfl, rfl⟩
  case round =>
    obtain ⟨k, hk, hgk, rfl, rfl, rfl⟩ := hrel
    have HK := Lib.hid hgk
    clear hgk
    by_cases hlt : k < n
    · have hkp : k < ps.length := by have := HN.out; omega
      obtain ⟨b, off, rfl, hc⟩ := HC.out k hkp
      have hs := piecesL_take ps k hkp
      have h1 := piecesL_le ps (k + 1)
      rw [HT.out] at h1
      rw [hs, List.length_append] at h1
      have HS2 := Lib.hid (congrArg List.length hs)
      clear hs
      obtain ⟨u, hu⟩ : ∃ u, (piecesL (ps.take k)).length = u := ⟨_, rfl⟩
      obtain ⟨v, hv⟩ : ∃ v, ps[k].l.length = v := ⟨_, rfl⟩
      rw [hu, hv] at h1
      rw [hv] at hc
      rw [hu]
      have HU := Lib.hid (And.intro hu hv)
      clear hu hv
      generalize ps[k].A = A2 at *
      generalize ps[k].c = c2 at *
      have hneg : ¬ ((u : Int) + (v : Int) < 0) := by omega
      go_wp2_with fail
      go_roundg (n - (k + 1))
      case measure => have := HK.out; omega
      case rel => exact ⟨k + 1, by omega, rfl, by go_num, by have e := HS2.out; rw [List.length_append, HU.out.1, HU.out.2] at e; rw [e]; go_num, rfl⟩
    · obtain rfl : k = n := by omega
      have e : ps.take k = ps := by rw [HN.out]; simp
      rw [e, HT.out]
      go_wp2_with fail
      refine (HG.out _).mono ?_
      rintro e w1 ⟨g, d, rfl, hB⟩
      have HE := Lib.hid e
      clear e HK hlt
      go_wp2_with fail
      go_loopg [6, 27] k (fun gk v6 v27 wr => ∃ (j : Nat) (B : Option Addr) (d2 : Nat), j ≤ k ∧ gk = k - j ∧ v27 = .int .i64 (j : Int) ∧ v6 = .slice B (piecesL (ps.take j)).length d2 ∧ Builds w wr 5 1 B (piecesL (ps.take j)).length d2 (u8s (piecesL (ps.take j))))
      case atStart => exact ⟨0, some ⟨g, 0, none⟩, d, by omega, rfl, rfl, rfl, hB⟩
      case round =>
        clear hB
        obtain ⟨j, B, d2, hj, hgk, rfl, rfl, hB⟩ := hrel
        have HK2 := Lib.hid hgk
        clear hgk
        by_cases hlt : j < k
        · have hjp : j < ps.length := by have := HN.out; omega
          obtain ⟨b, off, rfl, hc⟩ := HC.out j hjp
          have hlt1 := cell_lt hc
          have hc1 := (hB.1.cell hlt1).trans hc
          have hr := (HP.out _ (List.getElem_mem hjp)).below hB.1
          have hs := piecesL_take ps j hjp
          have h1 := piecesL_le ps (j + 1)
          rw [HT.out] at h1
          rw [hs, List.length_append] at h1
          have HS2 := Lib.hid hs
          clear hs hc
          obtain ⟨xs, hxs⟩ : ∃ xs, piecesL (ps.take j) = xs := ⟨_, rfl⟩
          obtain ⟨ys, hys⟩ : ∃ ys, ps[j].l = ys := ⟨_, rfl⟩
          obtain ⟨u, hu⟩ : ∃ u, xs.length = u := ⟨_, rfl⟩
          obtain ⟨v, hv⟩ : ∃ v, ys.length = v := ⟨_, rfl⟩
          rw [hxs, hys, hu, hv] at h1
          rw [hxs, hu] at hB
          rw [hys] at hr hc1
          rw [hv] at hc1
          rw [hxs, hu]
          have HU := Lib.hid (And.intro hxs (And.intro hys (And.intro hu hv)))
          clear hxs hys hu hv
          generalize ps[j].A = A2 at *
          generalize ps[j].c = c2 at *
          go_wp2_with (at_builtin; refine grow belem_u8 rfl (.tmp 31) (.tmp 32) rfl rfl hB rfl hr (by rw [u8s_length, HU.out.2.2.2, Nat.mul_one]) (u8s_one ys) (u + v) rfl (u8s (xs ++ ys)) (u8s_append xs ys).symm (by omega) (by omega) ?_; intro B2 d3 w2 hB2 hg2)
          go_roundg (k - (j + 1))
          case measure => have := HK2.out; omega
          case rel =>
            obtain ⟨e1, e2, e3, e4⟩ := HU.out
            have e := HS2.out
            rw [e1, e2] at e
            refine ⟨j + 1, B2, d3, by omega, rfl, by go_num, ?_, ?_⟩
            · rw [e, List.length_append, e3, e4]
            · rw [e, List.length_append, e3, e4]; exact hB2
        · obtain rfl : j = k := by omega
          have e := HE.out
          rw [e] at hB ⊢
          rw [HT.out] at hB ⊢
          go_wp2_with fail
          go_ret
          exact ⟨_, _, rfl, hB⟩
end Go.Proofs.YtahboomghjdjhaaGreat

/-
  Walks: slices.Concat, also of nothing.
-/
namespace Go.Proofs.YtahboomghjdjhaaGreat
open Go.RowKit

set_option maxHeartbeats 1000000 in
theorem grow_all (n : Nat) (w : World) (hn : n ≤ 1000000) :
    Calls Tryz.prog 28 #[.slice none 0 0, .int .i64 (n : Int)] w fun e w' => ∃ A c, e = .returned (.slice A 0 c) ∧ Builds w w' 5 1 A 0 c [] := by
  rcases Nat.eq_zero_or_pos n with rfl | h0
  · go_enter Tryz.func28, Tryz.ntmps28
    go_wp2_with fail
    go_ret
    exact ⟨none, 0, rfl, Builds.nil_ _ _ _⟩
  · refine (grow_nil n w h0 hn).mono ?_
    rintro e w' ⟨g, c, rfl, hB⟩
    exact ⟨_, _, rfl, hB⟩
set_option maxRecDepth 100000 in
set_option maxHeartbeats 2000000 in
/-- Lists, one behind the other, be there bytes or not. -/
theorem concat_all (S : Option Addr) (n c : Nat) (ps : List Piece) (w : World) (hS : Rd w S (ps.map pieceV)) (hn : n = ps.length) (hp : ∀ p ∈ ps, Rd w p.A (u8s p.l)) (hs : ps.length ≤ 100000) (hm : (piecesL ps).length ≤ 100000) :
    Calls Tryz.prog 16 #[.slice S n c] w fun e w' => ∃ B d, e = .returned (.slice B (piecesL ps).length d) ∧ Builds w w' 5 1 B (piecesL ps).length d (u8s (piecesL ps)) := by
  obtain ⟨T, hT⟩ : ∃ T, (piecesL ps).length = T := ⟨_, rfl⟩
  have HG := Lib.hid fun w (h : T ≤ 100000) => grow_all T w (by omega)
  have HT := Lib.hid hT
  have HN := Lib.hid hn
  have hn2 : n ≤ 100000 := by omega
  have HP := Lib.hid hp
  rw [hT] at hm ⊢
  clear hT hn hs hp
  have hcell : ∀ k (hk : k < ps.length), ∃ b off, S = some ⟨b, off, none⟩ ∧ w.cell? ⟨b, off + k, none⟩ = some (.slice ps[k].A ps[k].l.length ps[k].c) := fun k hk => by
    obtain ⟨b, off, hA, hc⟩ := hS.at_ (by rw [List.length_map]; omega)
    exact ⟨b, off, hA, hc k _ (by rw [List.getElem?_map, List.getElem?_eq_getElem hk]; rfl)⟩
  have HC := Lib.hid hcell
  clear hcell hS
  go_enter Tryz.func16, Tryz.ntmps16
  go_wp2_with fail
  go_loopg [3, 11] n (fun gk v3 v11 wr => ∃ k : Nat, k ≤ n ∧ gk = n - k ∧ v11 = .int .i64 (k : Int) ∧ v3 = .int .i64 (((piecesL (ps.take k)).length : Nat) : Int) ∧ w = wr)
  case atStart => exact ⟨0, by omega, rfl, rfl, rfl, rfl⟩
  case round =>
    obtain ⟨k, hk, hgk, rfl, rfl, rfl⟩ := hrel
    have HK := Lib.hid hgk
    clear hgk
    by_cases hlt : k < n
    · have hkp : k < ps.length := by have := HN.out; omega
      obtain ⟨b, off, rfl, hc⟩ := HC.out k hkp
      have hs := piecesL_take ps k hkp
      have h1 := piecesL_le ps (k + 1)
      rw [HT.out] at h1
      rw [hs, List.length_append] at h1
      have HS2 := Lib.hid (congrArg List.length hs)
      clear hs
      obtain ⟨u, hu⟩ : ∃ u, (piecesL (ps.take k)).length = u := ⟨_, rfl⟩
      obtain ⟨v, hv⟩ : ∃ v, ps[k].l.length = v := ⟨_, rfl⟩
      rw [hu, hv] at h1
      rw [hv] at hc
      rw [hu]
      have HU := Lib.hid (And.intro hu hv)
      clear hu hv
      generalize ps[k].A = A2 at *
      generalize ps[k].c = c2 at *
      have hneg : ¬ ((u : Int) + (v : Int) < 0) := by omega
      go_wp2_with fail
      go_roundg (n - (k + 1))
      case measure => have := HK.out; omega
      case rel => exact ⟨k + 1, by omega, rfl, by go_num, by have e := HS2.out; rw [List.length_append, HU.out.1, HU.out.2] at e; rw [e]; go_num, rfl⟩
    · obtain rfl : k = n := by omega
      have e : ps.take k = ps := by rw [HN.out]; simp
      rw [e, HT.out]
      go_wp2_with fail
      refine (HG.out _ hm).mono ?_
      rintro e w1 ⟨B0, d, rfl, hB⟩
      have HE := Lib.hid e
      clear e HK hlt
      go_wp2_with fail
      go_loopg [6, 27] k (fun gk v6 v27 wr => ∃ (j : Nat) (B : Option Addr) (d2 : Nat), j ≤ k ∧ gk = k - j ∧ v27 = .int .i64 (j : Int) ∧ v6 = .slice B (piecesL (ps.take j)).length d2 ∧ Builds w wr 5 1 B (piecesL (ps.take j)).length d2 (u8s (piecesL (ps.take j))))
      case atStart => exact ⟨0, B0, d, by omega, rfl, rfl, rfl, hB⟩
      case round =>
        clear hB
        obtain ⟨j, B, d2, hj, hgk, rfl, rfl, hB⟩ := hrel
        have HK2 := Lib.hid hgk
        clear hgk
        by_cases hlt : j < k
        · have hjp : j < ps.length := by have := HN.out; omega
          obtain ⟨b, off, rfl, hc⟩ := HC.out j hjp
          have hlt1 := cell_lt hc
          have hc1 := (hB.1.cell hlt1).trans hc
          have hr := (HP.out _ (List.getElem_mem hjp)).below hB.1
          have hs := piecesL_take ps j hjp
          have h1 := piecesL_le ps (j + 1)
          rw [HT.out] at h1
          rw [hs, List.length_append] at h1
          have HS2 := Lib.hid hs
          clear hs hc
          obtain ⟨xs, hxs⟩ : ∃ xs, piecesL (ps.take j) = xs := ⟨_, rfl⟩
          obtain ⟨ys, hys⟩ : ∃ ys, ps[j].l = ys := ⟨_, rfl⟩
          obtain ⟨u, hu⟩ : ∃ u, xs.length = u := ⟨_, rfl⟩
          obtain ⟨v, hv⟩ : ∃ v, ys.length = v := ⟨_, rfl⟩
          rw [hxs, hys, hu, hv] at h1
          rw [hxs, hu] at hB
          rw [hys] at hr hc1
          rw [hv] at hc1
          rw [hxs, hu]
          have HU := Lib.hid (And.intro hxs (And.intro hys (And.intro hu hv)))
          clear hxs hys hu hv
          generalize ps[j].A = A2 at *
          generalize ps[j].c = c2 at *
          go_wp2_with (at_builtin; refine grow belem_u8 rfl (.tmp 31) (.tmp 32) rfl rfl hB rfl hr (by rw [u8s_length, HU.out.2.2.2, Nat.mul_one]) (u8s_one ys) (u + v) rfl (u8s (xs ++ ys)) (u8s_append xs ys).symm (by omega) (by omega) ?_; intro B2 d3 w2 hB2 hg2)
          go_roundg (k - (j + 1))
          case measure => have := HK2.out; omega
          case rel =>
            obtain ⟨e1, e2, e3, e4⟩ := HU.out
            have e := HS2.out
            rw [e1, e2] at e
            refine ⟨j + 1, B2, d3, by omega, rfl, by go_num, ?_, ?_⟩
            · rw [e, List.length_append, e3, e4]
            · rw [e, List.length_append, e3, e4]; exact hB2
        · obtain rfl : j = k := by omega
          have e := HE.out
          rw [e] at hB ⊢
          rw [HT.out] at hB ⊢
          go_wp2_with fail
          go_ret
          exact ⟨_, _, rfl, hB⟩
end Go.Proofs.YtahboomghjdjhaaGreat
