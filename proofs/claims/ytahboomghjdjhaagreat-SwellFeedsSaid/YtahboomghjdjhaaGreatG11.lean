/-
  Walks: take and ends of a reading.
-/
import Derived.BigRegion
import Derived.Test.YtahboomghjdjhaaGreatGTreeR
namespace Go.Proofs.YtahboomghjdjhaaGreat
open Go.RowKit

/-- A reading's cells. -/
def rgH (f : Nat → Int) (v : Value) (n code first place : Nat) (i : Nat) : Value :=
  if i < 17 then treeH f v i else if i = 17 then .int .i64 (n : Int) else if i = 18 then .int .i64 (code : Int) else if i = 19 then .int .i64 (first : Int) else .int .i64 (place : Int)
def RgAt (w : World) (g : Nat) (f : Nat → Int) (v : Value) (n code first place : Nat) : Prop := Arr w g 184 21 (rgH f v n code first place)

section
variable {w : World} {g : Nat} {f : Nat → Int} {v : Value} {n code first place : Nat}
theorem RgAt.cnt (h : RgAt w g f v n code first place) (i : Nat) (hi : i < 16) : w.cell? ⟨g, i, none⟩ = some (.int .i64 (f i)) := by
  rw [Arr.cell h i (by omega), rgH, if_pos (by omega), treeH_lt hi]
theorem RgAt.syms (h : RgAt w g f v n code first place) : w.cell? ⟨g, 16, none⟩ = some v := by
  rw [Arr.cell h 16 (by omega), rgH, if_pos (by omega), treeH_16]
theorem RgAt.n_ (h : RgAt w g f v n code first place) : w.cell? ⟨g, 17, none⟩ = some (.int .i64 (n : Int)) := by
  rw [Arr.cell h 17 (by omega)]; rfl
theorem RgAt.code_ (h : RgAt w g f v n code first place) : w.cell? ⟨g, 18, none⟩ = some (.int .i64 (code : Int)) := by
  rw [Arr.cell h 18 (by omega)]; rfl
theorem RgAt.first_ (h : RgAt w g f v n code first place) : w.cell? ⟨g, 19, none⟩ = some (.int .i64 (first : Int)) := by
  rw [Arr.cell h 19 (by omega)]; rfl
theorem RgAt.place_ (h : RgAt w g f v n code first place) : w.cell? ⟨g, 20, none⟩ = some (.int .i64 (place : Int)) := by
  rw [Arr.cell h 20 (by omega)]; rfl
theorem RgAt.frees (h : RgAt w g f v n code first place) (i : Nat) : w.frozen? ⟨g, i, none⟩ = false := Blk.frozen h i
end

set_option maxRecDepth 100000 in
set_option maxHeartbeats 4000000 in
theorem ends_any (g n code first place q : Nat) (f : Nat → Int) (A : Option Addr) (ns c : Nat) (w : World) (h : RgAt w g f (.slice A ns c) n code first place) (hn : n ≤ 15) (hq : f n = (q : Int)) (h1 : q ≤ 400) (h2 : place ≤ 10000) :
    Calls Tryz.prog 110 #[.pointer (some ⟨g, 0, none⟩)] w fun e w' => SameRes w w' e (decide (place + q = ns)) := by
  have c1 := h.cnt n (by omega)
  have c2 := h.syms
  have c3 := h.n_
  have c4 := h.place_
  rw [hq] at c1
  clear hq h
  have hw : IntKind.i64.wrap ((place : Int) + (q : Int)) = (place : Int) + (q : Int) := IntWalk.i64_in _ (by omega)
  by_cases he : place + q = ns
  · rw [decide_eq_true he]
    have hb : (((place : Int) + (q : Int)) == (ns : Int)) = true := by rw [beq_iff_eq]; omega
    clear he
    go_enter Tryz.func110, Tryz.ntmps110
    go_wp2_with fail
    go_quiet (fail)
    go_wp2_with fail
    go_ret
    exact ⟨rfl, _, rfl⟩
  · rw [decide_eq_false he]
    have hb : (((place : Int) + (q : Int)) == (ns : Int)) = false := by rw [beq_eq_false_iff_ne]; omega
    clear he
    go_enter Tryz.func110, Tryz.ntmps110
    go_wp2_with fail
    go_quiet (fail)
    go_wp2_with fail
    go_ret
    exact ⟨rfl, _, rfl⟩

section
variable {w : World} {g : Nat} {f : Nat → Int} {A : Option Addr} {ns c n code first place : Nat} {z : Int}
theorem RgAt.setF (h : RgAt w g f (.slice A ns c) n code first place) (x : Nat) (hz : z = (x : Int)) : RgAt ((w.setCell ⟨g, 19, none⟩ (.int .i64 z)).drew) g f (.slice A ns c) n code x place := by
  subst hz
  refine Arr.drew ((Arr.set h 19 _).congr fun k hk => ?_)
  unfold rgH
  by_cases h1 : k = 19
  · subst h1; rfl
  · rw [if_neg h1]; simp [h1]
theorem RgAt.setP (h : RgAt w g f (.slice A ns c) n code first place) (x : Nat) (hz : z = (x : Int)) : RgAt ((w.setCell ⟨g, 20, none⟩ (.int .i64 z)).drew) g f (.slice A ns c) n code first x := by
  subst hz
  refine Arr.drew ((Arr.set h 20 _).congr fun k hk => ?_)
  unfold rgH
  by_cases h1 : k = 20
  · subst h1; rfl
  · rw [if_neg h1]
    by_cases h2 : k < 17
    · rw [if_pos h2, if_pos h2]
    · rw [if_neg h2, if_neg h2]
      by_cases h3 : k = 17
      · rw [if_pos h3, if_pos h3]
      · rw [if_neg h3, if_neg h3]
        by_cases h4 : k = 18
        · rw [if_pos h4, if_pos h4]
        · rw [if_neg h4, if_neg h4, if_pos (by omega), if_pos (by omega)]
theorem RgAt.setC (h : RgAt w g f (.slice A ns c) n code first place) (x : Nat) (hz : z = (x : Int)) : RgAt (w.setCell ⟨g, 18, none⟩ (.int .i64 z)) g f (.slice A ns c) n x first place := by
  subst hz
  refine (Arr.set h 18 _).congr fun k hk => ?_
  unfold rgH
  by_cases h1 : k = 18
  · subst h1; rfl
  · rw [if_neg h1]; simp [h1]
theorem RgAt.setN (h : RgAt w g f (.slice A ns c) n code first place) (x : Nat) (hz : z = (x : Int)) : RgAt (w.setCell ⟨g, 17, none⟩ (.int .i64 z)) g f (.slice A ns c) x code first place := by
  subst hz
  refine (Arr.set h 17 _).congr fun k hk => ?_
  unfold rgH
  by_cases h1 : k = 17
  · subst h1; rfl
  · rw [if_neg h1]; simp [h1]
end

def TkRes (w w' : World) (e : Ending) (g : Nat) (f : Nat → Int) (A : Option Addr) (ns c n code first place : Nat) (z : Int) : Prop :=
  e = .returned (.int .i64 z) ∧ RgAt w' g f (.slice A ns c) n code first place ∧ w.grownBy w' (some g)

set_option maxRecDepth 100000 in
set_option maxHeartbeats 4000000 in
theorem rtk_any (g n code first place q q2 bit F P C : Nat) (f : Nat → Int) (A : Option Addr) (ns c : Nat) (w : World) (h : RgAt w g f (.slice A ns c) n code first place) (hn : n ≤ 14) (hq : f n = (q : Int)) (hq2 : f (n + 1) = (q2 : Int)) (h1 : q ≤ 400) (_ : q2 ≤ 400) (h2 : place ≤ 10000) (h3 : code ≤ 100000) (h4 : first ≤ 100000) (hb : bit < 2)
    (hF : (first + q) * 2 = F) (hP : place + q = P) (hC : code * 2 + bit = C) (hge : F ≤ C) :
    Calls Tryz.prog 111 #[.pointer (some ⟨g, 0, none⟩), .int .u32 (bit : Int)] w fun e w' => TkRes w w' e g f A ns c (n + 1) C F P (if C - F < q2 then ((P + (C - F) : Nat) : Int) else -1) := by
  have HF := Lib.hid hF
  have HP := Lib.hid hP
  have HC := Lib.hid hC
  have HQ := Lib.hid hq2
  have b1 : F ≤ 300000 := by omega
  have b2 : P ≤ 11000 := by omega
  have b3 : C ≤ 300000 := by omega
  clear hF hP hC hq2
  have c1 := h.cnt n (by omega)
  have c3 := h.n_
  have c4 := h.place_
  have c5 := h.code_
  have c6 := h.first_
  have fr := h.frees
  rw [hq] at c1
  have HQ0 := Lib.hid hq
  clear hq
  by_cases hhit : C - F < q2
  all_goals
    first | rw [if_pos hhit] | rw [if_neg hhit]
    go_enter Tryz.func111, Tryz.ntmps111
    go_wp2_with fail
    go_region
    have k1 := h.setF (z := ((first : Int) + (q : Int)) * 2) F (by have := HF.out; omega)
    have g1 : w.grownBy _ (some g) := only_drew (only_set (only_refl w g) 19 (.int .i64 (((first : Int) + (q : Int)) * 2)))
    generalize (w.setCell ⟨g, 19, none⟩ (.int .i64 (((first : Int) + (q : Int)) * 2))).drew = w1 at *
    clear c1 c3 c4 c5 c6 fr
    have c1 := k1.cnt n (by omega)
    have c3 := k1.n_
    have c4 := k1.place_
    have fr := k1.frees
    rw [HQ0.out] at c1
    go_wp2_with fail
    go_region
    have k2 := k1.setP (z := (place : Int) + (q : Int)) P (by have := HP.out; omega)
    have g2 : w.grownBy _ (some g) := only_drew (only_set g1 20 (.int .i64 ((place : Int) + (q : Int))))
    generalize (w1.setCell ⟨g, 20, none⟩ (.int .i64 ((place : Int) + (q : Int)))).drew = w2 at *
    clear c1 c3 c4 fr k1 g1
    have c5 := k2.code_
    have c3 := k2.n_
    have fr := k2.frees
    go_upto_region 4 with (fail)
    have k3 := k2.setC (z := (code : Int) * 2 + (bit : Int)) C (by have := HC.out; omega)
    have g3 : w.grownBy _ (some g) := only_set g2 18 (.int .i64 ((code : Int) * 2 + (bit : Int)))
    generalize w2.setCell ⟨g, 18, none⟩ (.int .i64 ((code : Int) * 2 + (bit : Int))) = w3 at *
    clear c5 c3 fr k2 g2
    have c3 := k3.n_
    have fr := k3.frees
    go_upto_region 5 with (fail)
    have k4 := k3.setN (z := (n : Int) + 1) (n + 1) (by omega)
    have g4 : w.grownBy _ (some g) := only_set g3 17 (.int .i64 ((n : Int) + 1))
    generalize w3.setCell ⟨g, 17, none⟩ (.int .i64 ((n : Int) + 1)) = w4 at *
    clear c3 fr k3 g3
    have c1 := k4.cnt (n + 1) (by omega)
    have c3 := k4.n_
    have c4 := k4.place_
    have c5 := k4.code_
    have c6 := k4.first_
    rw [HQ.out] at c1
    have hw : IntKind.i64.wrap ((C : Int) - (F : Int)) = (C : Int) - (F : Int) := IntWalk.i64_in _ (by omega)
    have hx : decide ((C : Int) - (F : Int) < (q2 : Int)) = decide (C - F < q2) := by rw [Bool.eq_iff_iff, decide_eq_true_iff, decide_eq_true_iff]; omega
    simp only [hhit, decide_true, decide_false] at hx
    go_wp2_with fail
    go_quiet (fail)
    go_wp2_with fail
    go_quiet (fail)
    go_wp2_with fail
    go_ret
    first | exact ⟨ret_int (by omega), k4, only_drewN g4 _⟩ | exact ⟨ret_int (by omega), k4, only_drewN (only_drewN g4 _) _⟩
end Go.Proofs.YtahboomghjdjhaaGreat

/-
  Walks: tree.Next, the reference's Check and Next.
-/
namespace Go.Proofs.YtahboomghjdjhaaGreat
open Go.RowKit

/-- What Next tells: of a tree, bytes and a place. -/
def nxT (f : Nat → Int) (xs : List Int) (b : List Nat) (a : Int) : Nat × Nat × Nat := match chkT f xs with
  | none => (0, 0, 8)
  | some l => if a < 0 then (0, 0, 2) else rdT l b 16 0 0 a.toNat
theorem nx_none {f : Nat → Int} {xs : List Int} {b : List Nat} {a : Int} (h : chkT f xs = none) : nxT f xs b a = (0, 0, 8) := by unfold nxT; rw [h]
theorem nx_neg {f : Nat → Int} {xs : List Int} {b : List Nat} {a : Int} {l : List Nat} (h : chkT f xs = some l) (ha : a < 0) : nxT f xs b a = (0, 0, 2) := by unfold nxT; rw [h]; simp [ha]
theorem nx_some {f : Nat → Int} {xs : List Int} {b : List Nat} {a : Int} {l : List Nat} (h : chkT f xs = some l) (ha : 0 ≤ a) : nxT f xs b a = rdT l b 16 0 0 a.toNat := by unfold nxT; rw [h]; simp [show ¬ a < 0 by omega]
theorem chkE_some {f : Nat → Int} {xs : List Int} {l : List Nat} (h : chkT f xs = some l) : chkE f xs = 0 := by unfold chkE; rw [h]; rfl

set_option maxRecDepth 100000 in
set_option maxHeartbeats 2000000 in
theorem rchk_any (f : Nat → Int) (A : Option Addr) (n c : Nat) (xs : List Int) (w : World) (hx : Rd w A (ints xs)) (hn : n = xs.length) (hn1 : n ≤ 1001) :
    Calls Tryz.prog 46 #[treeV f A n c] w fun e w' => ChkRes w w' e f xs := by
  have HL := Lib.hid (fun wx hx => rlengths_any f A n c xs wx hx hn hn1)
  unfold treeV at HL ⊢
  have hb : Below w.heap.size w (w.alloc (.cells (cellsOf 17 (treeH f (.slice A n c))) 26)) := (Below.refl _ _).alloc (Nat.le_refl _) _
  have ka : Arr (w.alloc (.cells (cellsOf 17 (treeH f (.slice A n c))) 26)) w.heap.size 26 17 (treeH f (.slice A n c)) := Blk.new _ _ _
  have HX := Lib.hid (hx.below hb)
  clear hn hx
  cases hr : chkT f xs with
  | none =>
    rw [hr] at HL
    have hE := Lib.hid (chkE_none hr)
    clear hr
    go_enter Tryz.func46, Tryz.ntmps46
    go_upto_region 1 with (fail)
    change Code.wp _ _ _ _ (w.alloc (.cells (cellsOf 17 (treeH f (.slice A n c))) 26))
    generalize w.alloc (.cells (cellsOf 17 (treeH f (.slice A n c))) 26) = W1 at *
    go_wp2_with (first | (refine load_arr rfl 26 (.tmp 1) rfl rfl ka tree_under rfl tree_size ?_) | (go_at_call 47; refine (HL.out _ HX.out).mono ?_; rintro e W2 ⟨hb2, rfl⟩))
    go_ret
    exact ChkRes.mk' hE.out rfl (hb.trans (hb2.mono hb.size))
  | some l =>
    rw [hr] at HL
    have hE := Lib.hid (chkE_some hr)
    clear hr
    go_enter Tryz.func46, Tryz.ntmps46
    go_upto_region 1 with (fail)
    change Code.wp _ _ _ _ (w.alloc (.cells (cellsOf 17 (treeH f (.slice A n c))) 26))
    generalize w.alloc (.cells (cellsOf 17 (treeH f (.slice A n c))) 26) = W1 at *
    go_wp2_with (first | (refine load_arr rfl 26 (.tmp 1) rfl rfl ka tree_under rfl tree_size ?_) | (go_at_call 47; refine (HL.out _ HX.out).mono ?_; rintro e W2 ⟨hb2, _, B, d, rfl, _⟩))
    go_ret
    exact ChkRes.mk' hE.out rfl (hb.trans (hb2.mono hb.size))

end Go.Proofs.YtahboomghjdjhaaGreat

/-
  Walks: tree.Next.
-/
namespace Go.Proofs.YtahboomghjdjhaaGreat
open Go.RowKit

theorem Rd.int_at {w : World} {b off : Nat} {l : List Int} (h : Rd w (some ⟨b, off, none⟩) (ints l)) {i : Nat} {z : Int} (hi : i < l.length) (hz : nthI l i = z) : w.cell? ⟨b, off + i, none⟩ = some (.int .i64 z) := by
  obtain ⟨b', off', e, hc⟩ := h.int hi
  cases e
  rw [hc, hz]
theorem build_rg (f : Nat → Int) (v : Value) (w : World) : (Instr.build 184 #[(0, .agg (cellsOf 17 (treeH f v)))]).run Tryz.prog w = .ok (.agg (cellsOf 21 (rgH f v 0 0 0 0))) w := by kernel_rfl

theorem build_at {ops : Array Oper} {rest : List Oper} {o : Oper} {a : Act} {w : World} {Q : Exit → Act → World → Prop} (hgd : o.guard = none) (x : Operand) (ho : o.op = .build 184 #[(0, x)]) {f : Nat → Int} {v : Value} (hx : a.eval x = .agg (cellsOf 17 (treeH f v)))
    (h : wpList Tryz.prog ops Q rest (a.put o.dst (.agg (cellsOf 21 (rgH f v 0 0 0 0)))) w) : wpList Tryz.prog ops Q (o :: rest) a w :=
  wpList_plain hgd fun _ hK => by
    have hb := build_rg f v w
    unfold Oper.wp execOp
    simp only [ho, List.map_toArray, List.map_cons, List.map_nil, hx, hb, Sem.run_bind, Sem.run_pure, Result.andThen_ok]
    exact hK _ _ h

set_option maxRecDepth 100000 in
set_option maxHeartbeats 4000000 in
theorem tnext_any (f : Nat → Int) (A B : Option Addr) (n c nb d : Nat) (xs : List Int) (b : List Nat) (a : Int) (w : World) (hx : Rd w A (ints xs)) (hn : n = xs.length) (hc : n ≤ c) (hn1 : n ≤ 1001) (hB : Bs w B b) (hnb : nb = b.length) (hb1 : nb ≤ 100000) (h1 : -9223372036854775808 ≤ a) (h2 : a ≤ 9223372036854775807) :
    Calls Tryz.prog 102 #[treeV f A n c, .slice B nb d, .int .i64 a] w fun e w' => ReadRes w w' e (nxT f xs b a) := by
  have HC := Lib.hid (fun wx hx => trcheck_any f A n c xs wx hx hn hc hn1)
  unfold treeV at HC ⊢
  have hb : Below w.heap.size w (w.alloc (.cells (cellsOf 17 (treeH f (.slice A n c))) 26)) := (Below.refl _ _).alloc (Nat.le_refl _) _
  have ka : Arr (w.alloc (.cells (cellsOf 17 (treeH f (.slice A n c))) 26)) w.heap.size 26 17 (treeH f (.slice A n c)) := Blk.new _ _ _
  have HX := Lib.hid (hx.below hb)
  have HX0 := Lib.hid hx
  have HNB := Lib.hid hnb
  have HN := Lib.hid hn
  clear hn hx hnb
  cases hr : chkT f xs with
  | none =>
    have hE := Lib.hid (nx_none (b := b) (a := a) hr)
    have hE2 := chkE_none hr
    unfold ChkRes at HC
    rw [hE2] at HC
    clear hr hE2
    go_enter Tryz.func102, Tryz.ntmps102
    go_upto_region 1 with (fail)
    change Code.wp _ _ _ _ (w.alloc (.cells (cellsOf 17 (treeH f (.slice A n c))) 26))
    generalize w.alloc (.cells (cellsOf 17 (treeH f (.slice A n c))) 26) = W1 at *
    go_wp2_with (first
      | (refine load_arr rfl 26 (.tmp 3) rfl rfl ka tree_under rfl tree_size ?_)
      | (go_at_call 40; refine (HC.out _ HX.out).mono ?_; rintro e W2 ⟨rfl, hb2⟩))
    go_ret3
    exact ReadRes.mk' hE.out rfl (hb.trans (hb2.mono hb.size))
  | some l =>
    have hE2 := chkE_some hr
    unfold ChkRes at HC
    rw [hE2] at HC
    clear hE2
    by_cases ha : a < 0
    · have hE := Lib.hid (nx_neg (b := b) hr ha)
      clear hr
      go_enter Tryz.func102, Tryz.ntmps102
      go_upto_region 1 with (fail)
      change Code.wp _ _ _ _ (w.alloc (.cells (cellsOf 17 (treeH f (.slice A n c))) 26))
      generalize w.alloc (.cells (cellsOf 17 (treeH f (.slice A n c))) 26) = W1 at *
      go_wp2_with (first
        | (refine load_arr rfl 26 (.tmp 3) rfl rfl ka tree_under rfl tree_size ?_)
        | (go_at_call 40; refine (HC.out _ HX.out).mono ?_; rintro e W2 ⟨rfl, hb2⟩))
      go_ret3
      exact ReadRes.mk' hE.out rfl (hb.trans (hb2.mono hb.size))
    · obtain ⟨a0, rfl⟩ : ∃ a0 : Nat, a = (a0 : Int) := ⟨a.toNat, by omega⟩
      obtain ⟨hcan, hf, hxs⟩ := chk_some hr
      have hE := nx_some (b := b) hr (show (0 : Int) ≤ (a0 : Int) by omega)
      rw [Int.toNat_natCast] at hE
      obtain ⟨R, hR⟩ : ∃ R, rdT l b 16 0 0 a0 = R := ⟨_, rfl⟩
      rw [hR] at hE
      have HE := Lib.hid hE
      have HR := Lib.hid hR
      have HL := Lib.hid (And.intro hcan (And.intro hf hxs))
      have h320 := chk_len hr
      have ha0 : ¬ ((a0 : Int) < 0) := ha
      clear hr ha hE hR hcan hf hxs
      go_enter Tryz.func102, Tryz.ntmps102
      go_upto_region 1 with (fail)
      change Code.wp _ _ _ _ (w.alloc (.cells (cellsOf 17 (treeH f (.slice A n c))) 26))
      generalize w.alloc (.cells (cellsOf 17 (treeH f (.slice A n c))) 26) = W1 at *
      go_upto_region 6 with (first
        | (refine load_arr rfl 26 (.tmp 3) rfl rfl ka tree_under rfl tree_size ?_)
        | (go_at_call 40; refine (HC.out _ HX.out).mono ?_; rintro e W2 ⟨rfl, hb2⟩; have ka2 := Arr.below ka hb2 (Blk.lt ka)))
      go_wp2_with (first
        | (refine load_arr rfl 26 (.tmp 3) rfl rfl ka2 tree_under rfl tree_size ?_)
        | (refine build_at rfl (.tmp 21) rfl rfl ?_))
      have hb3 : Below w.heap.size w (W2.alloc (.cells (cellsOf 21 (rgH f (.slice A n c) 0 0 0 0)) 184)) := (hb.trans (hb2.mono hb.size)).alloc (Nat.le_trans hb.size hb2.size) _
      have kr : RgAt (W2.alloc (.cells (cellsOf 21 (rgH f (.slice A n c) 0 0 0 0)) 184)) W2.heap.size f (.slice A n c) 0 0 0 0 := Blk.new _ _ _
      have ka3 := Arr.alloc ka2 (.cells (cellsOf 21 (rgH f (.slice A n c) 0 0 0 0)) 184)
      have hne : w.heap.size < W2.heap.size := Nat.lt_of_lt_of_le (Blk.lt ka) hb2.size
      generalize W2.alloc (.cells (cellsOf 21 (rgH f (.slice A n c) 0 0 0 0)) 184) = W3 at *
      have HT := Lib.hid (fun wx (hl : Bs wx B b) at_ h1 h2 => by have := take_any B d b at_ 1 wx hl (by rw [← HNB.out]; omega) h1 h2; rw [← HNB.out] at this; exact this)
      have hk5 := (canE_ok HL.out.1).2.2.2.2.1
      have hl3 := (canE_ok HL.out.1).2.2.1
      have H15 := Lib.hid (And.intro (can15 HL.out.1) hk5)
      have HLN := Lib.hid (show n = (allP l 16).length by rw [HN.out, HL.out.2.2, symS_length])
      have HCN := Lib.hid (fun i (hi : i < 16) => (HL.out.2.1 i hi).trans (cntS_cnt l i hi))
      have HCL := Lib.hid (fun i => Nat.le_trans (cnt_le l i) hl3)
      have HPL := Lib.hid (fun i (hi : i ≤ 16) => show plF (cnt l) i ≤ 320 from Nat.le_trans (plF_mono _ hi) (by rw [← all_len]; exact Nat.le_trans (allP_le l 16) hl3))
      clear hk5 hl3 ka ka2 hb hb2 HX HC
      go_loopg [2] 16 (fun gk v2 wr => ∃ m v a : Nat, m ≤ 15 ∧ gk = 16 - m ∧ v2 = .int .i64 (a : Int) ∧ a ≤ 9223372036854775807 ∧ Below w.heap.size w wr ∧ RgAt wr W2.heap.size f (.slice A n c) m v (frF (cnt l) m) (plF (cnt l) m) ∧
        Arr wr w.heap.size 26 17 (treeH f (.slice A n c)) ∧ frF (cnt l) m + cnt l m ≤ v ∧ v < 2 ^ m ∧ (m ≠ 0 ∨ v = 0) ∧ rdT l b (16 - m) m v a = R)
      case atStart => exact ⟨0, 0, a0, by omega, rfl, rfl, by omega, hb3, kr, ka3, by rw [cnt_0]; exact Nat.le_refl _, by decide, .inr rfl, HR.out⟩
      case round =>
        clear hb3 kr ka3 HR
        clear h1 h2 ha0
        obtain ⟨m, v, a, hm, hgk, rfl, ha, hbw, kr, ka, hv1, hv2, hv3, hR⟩ := hrel
        have HG := Lib.hid hgk
        have HR := Lib.hid hR
        have hv15 : v < 32768 := Nat.lt_of_lt_of_le hv2 (Nat.pow_le_pow_right (n := 2) (j := 15) (by omega) hm)
        have hmore := more_is (v := v) HL.out.1 hm hv1 hv2 hv3
        have hnh := no_hit (l := l) hv1
        rw [← HLN.out] at hmore
        have hcm := HCL.out m
        have hpm := HPL.out m (by omega)
        have hfr : frF (cnt l) m ≤ 32768 := by omega
        have HEn := Lib.hid (ends_any W2.heap.size m v (frF (cnt l) m) (plF (cnt l) m) (cnt l m) f A n c wr kr hm (HCN.out m (by omega)) (by omega) (by omega))
        have HF1 := Lib.hid (show frF (cnt l) (m + 1) = (frF (cnt l) m + cnt l m) * 2 from rfl)
        have HP1 := Lib.hid (show plF (cnt l) (m + 1) = plF (cnt l) m + cnt l m from rfl)
        by_cases he : plF (cnt l) m + cnt l m = n
        · have hE2 := Lib.hid (show R = (0, 0, 50) by
            rw [← HR.out, show 16 - m = (15 - m) + 1 by omega]
            refine rd_code hnh ?_
            rcases hb : moreN l m v l.length with _ | _
            · rfl
            · exact absurd (HP1.out.trans he) (hmore.1 hb))
          rw [decide_eq_true he] at HEn
          clear hmore hnh he hR hgk
          go_wp2_with (go_at_call 110; refine (HEn.out).mono ?_; rintro e w' ⟨rfl, q, rfl⟩)
          go_ret3
          exact ReadRes.mk' (HE.out.trans hE2.out) rfl (below_drewN' hbw _)
        · have hm1 : moreN l m v l.length = true := hmore.2 (fun e => he (HP1.out.symm.trans e))
          have hm15 := more_lt H15.out.1 hm1
          rw [decide_eq_false he] at HEn
          have hB2 := hB.below hbw
          by_cases hab : a < 8 * nb
          · obtain ⟨t1, t2⟩ := take_bit b a (by rw [← HNB.out]; exact hab)
            have hR2 : rdT l b (16 - (m + 1)) (m + 1) (2 * v + bitOf b a) (a + 1) = R := by rw [← HR.out, show 16 - m = (16 - (m + 1)) + 1 by omega, rd_go hnh hm1 (by rw [← HNB.out]; exact hab)]
            have hbit := bitOf_lt b a
            have HT2 := Lib.hid (fun q => by have := HT.out (wr.drewN q) hB2 (a : Int) (by omega) (by omega); rw [t1, t2] at this; exact this)
            obtain ⟨x, hx⟩ : ∃ x, bitOf b a = x := ⟨_, rfl⟩
            rw [hx] at HT2 hR2 hbit
            have hfn := fr_next (l := l) (x := x) hv1
            have hcm1 := HCL.out (m + 1)
            have HTk := Lib.hid (fun q => rtk_any W2.heap.size m v (frF (cnt l) m) (plF (cnt l) m) (cnt l m) (cnt l (m + 1)) x (frF (cnt l) (m + 1)) (plF (cnt l) (m + 1)) (2 * v + x) f A n c (wr.drewN q) kr (by omega) (HCN.out m (by omega)) (HCN.out (m + 1) (by omega)) (by omega) (by omega) (by omega) (by omega) (by omega) hbit rfl rfl (by omega) hfn)
            by_cases hhit : 2 * v + x - frF (cnt l) (m + 1) < cnt l (m + 1)
            · obtain ⟨i, hi, g1, g2, g3⟩ := is_hit (l := l) (n := m + 1) (v := 2 * v + x) (by omega) (by omega) hfn (by omega)
              rw [if_pos hhit] at HTk
              have hE2 := Lib.hid (show R = (i, a + 1, 0) by rw [← hR2, show 16 - (m + 1) = (14 - m) + 1 by omega, rd_hit g1])
              rw [← HL.out.2.2] at g2
              have hk : plF (cnt l) (m + 1) + (2 * v + x - frF (cnt l) (m + 1)) < n := by rw [HLN.out]; exact g3
              generalize plF (cnt l) (m + 1) + (2 * v + x - frF (cnt l) (m + 1)) = k at *
              obtain ⟨bb, off, rfl, _⟩ := ((HX0.out.below hbw)).int (i := k) (by rw [← HN.out]; exact hk)
              have HGn := Lib.hid (And.intro (Blk.lt kr) (And.intro hne g2))
              have hkr : k < xs.length := by rw [← HN.out]; exact hk
              have HK := Lib.hid hkr
              clear hmore hnh he hR hgk hR2 hx t1 t2 g1 g2 g3 hfn hhit hm1 hv1 hv2 hv3 hkr
              go_wp2_with (first
                | (go_at_call 110; refine (HEn.out).mono ?_; rintro e w' ⟨rfl, q, rfl⟩)
                | (go_at_call 98; refine (HT2.out _).mono ?_; rintro e w' ⟨rfl, rfl⟩)
                | (go_at_call 111; refine (HTk.out _).mono ?_; rintro e w3 ⟨rfl, k3, g3⟩; have hb3 := (below_drewN' hbw q).trans (only_below g3 (by have := hbw.size; exact this) (Nat.le_of_lt HGn.out.2.1)); have c16 := (Arr.cell (Blk.only (Arr.drewN ka q) g3 (by have := HGn.out.2.1; omega)) 16 (by omega)).trans (congrArg some treeH_16); have cA := (HX0.out.below hb3).int_at HK.out HGn.out.2.2))
              go_ret3
              exact ReadRes.mk' (HE.out.trans hE2.out) rfl hb3
            · rw [if_neg hhit] at HTk
              have hv4 : 2 * v + x < 2 ^ (m + 1) := by rw [Nat.pow_succ]; omega
              have HV := Lib.hid (And.intro (show frF (cnt l) (m + 1) + cnt l (m + 1) ≤ 2 * v + x by omega) (And.intro hv4 hR2))
              have HGn := Lib.hid (And.intro (Blk.lt kr) hne)
              clear hmore hnh he hR hgk hR2 hx t1 t2 hfn hhit hm1 hv1 hv2 hv3 hv4
              go_wp2_with (first
                | (go_at_call 110; refine (HEn.out).mono ?_; rintro e w' ⟨rfl, q, rfl⟩)
                | (go_at_call 98; refine (HT2.out _).mono ?_; rintro e w' ⟨rfl, rfl⟩)
                | (go_at_call 111; refine (HTk.out _).mono ?_; rintro e w3 ⟨rfl, k3, g3⟩; have hb3 := (below_drewN' hbw q).trans (only_below g3 (by have := hbw.size; exact this) (Nat.le_of_lt HGn.out.2)); have ka3 := Blk.only (Arr.drewN ka q) g3 (by have := HGn.out.2; omega)))
              go_roundg (16 - (m + 1))
              case measure => have := HG.out; omega
              case rel => exact ⟨m + 1, 2 * v + x, a + 1, by omega, by omega, by go_num, by omega, hb3, k3, ka3, HV.out.1, HV.out.2.1, .inl (by omega), HV.out.2.2⟩
          · obtain ⟨t1, t2⟩ := take_none b a (by rw [← HNB.out]; omega)
            have hE2 := Lib.hid (show R = (0, 0, 10) by rw [← HR.out, show 16 - m = (15 - m) + 1 by omega, rd_end hnh hm1 (by rw [← HNB.out]; omega)])
            have HT2 := Lib.hid (fun q => by have := HT.out (wr.drewN q) hB2 (a : Int) (by omega) (by omega); rw [t1, t2] at this; exact this)
            clear hmore hnh he hR hgk t1 t2 hm1 hv1 hv2 hv3
            go_wp2_with (first
              | (go_at_call 110; refine (HEn.out).mono ?_; rintro e w' ⟨rfl, q, rfl⟩)
              | (go_at_call 98; refine (HT2.out _).mono ?_; rintro e w' ⟨rfl, rfl⟩))
            go_ret3
            exact ReadRes.mk' (HE.out.trans hE2.out) rfl (below_drewN' hbw _)
end Go.Proofs.YtahboomghjdjhaaGreat
