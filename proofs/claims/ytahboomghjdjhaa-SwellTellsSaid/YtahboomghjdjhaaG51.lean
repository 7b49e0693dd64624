/-
  What a round of a token's loop leaves as it was, and what the reader's iterator turns. No walk.
-/
import Derived.LoopIn
import Derived.LoopNIn
import Derived.OwnWalkIn
import Derived.RangeFuncBound
import Derived.RangeFuncBox
import Derived.RangeFuncCalls
import Derived.RangeFuncLeaves
import Derived.RangeFuncNested
import Derived.Shelf.Abstract
import Derived.Shelf.RegionOpen
import Derived.TacticsInMore
import Derived.Test.YtahboomghjdjhaaG35
import Derived.Test.YtahboomghjdjhaaG37
import Derived.Test.YtahboomghjdjhaaG49
import Derived.Test.YtahboomghjdjhaaG50
namespace Go.Proofs.Ytahboomghjdjhaa
open Go.RowKit

/-- What a round leaves as it was: the reader, its variable, and all cells of blocks and numbers. -/
structure KpT (B g X : Nat) (w w' : World) : Prop where
  low : ∀ (j : Nat), j < B → w'.heap[j]? = w.heap[j]?
  rd : w'.heap[g]? = w.heap[g]?
  box : w'.heap[X]? = w.heap[X]?
  typ : ∀ (j : Nat) (cs : Array Value) (t : TypeId) (fr : Nat × Nat), w.heap[j]? = some (Obj.cells cs t fr) → (t = 3 ∨ t = 28) → w'.heap[j]? = w.heap[j]?
  size : w.heap.size ≤ w'.heap.size
  os : w'.os = w.os
  tape : w'.tape = w.tape
  output : w'.output = w.output
theorem KpT.trans {B g X : Nat} {a b c : World} (h : KpT B g X a b) (k : KpT B g X b c) : KpT B g X a c :=
  ⟨fun j hj => (k.low j hj).trans (h.low j hj), k.rd.trans h.rd, k.box.trans h.box, fun j cs t fr hj ht => by have e := h.typ j cs t fr hj ht; exact (k.typ j cs t fr (e.trans hj) ht).trans e, Nat.le_trans h.size k.size, k.os.trans h.os, k.tape.trans h.tape, k.output.trans h.output⟩
theorem KpT.bel {W : World} {g X : Nat} {w w' : World} (h : KpT W.heap.size g X w w') (hb : Below W.heap.size W w) : Below W.heap.size W w' :=
  ⟨h.os.trans hb.os, h.tape.trans hb.tape, h.output.trans hb.output, Nat.le_trans hb.size h.size, fun j hj => (h.low j hj).trans (hb.block j hj)⟩
theorem KpT.own {B g X : Nat} {w w' : World} (h : KpT B g X w w') {base n : Nat} {v : Value} {xs : List Value} (ho : w.ownsRow base 3 1 v n xs) : w'.ownsRow base 3 1 v n xs := by
  refine ⟨ho.1, ho.2.imp id ?_⟩
  rintro ⟨g', cap, cur, e1, e2, hh, e3⟩
  exact ⟨g', cap, cur, e1, e2, (h.typ _ _ _ _ hh (.inl rfl)).trans hh, e3⟩
theorem KpT.arr {B g X : Nat} {w w' : World} (h : KpT B g X w w') {k n : Nat} {f : Nat → Value} (ha : Arr w k 28 n f) : Arr w' k 28 n f := (h.typ _ _ _ _ ha (.inr rfl)).trans ha
theorem KpT.rdr {W : World} {g X : Nat} {w w' : World} (h : KpT W.heap.size g X w w') {B : Option Addr} {n c : Nat} {b : List Nat} {s : Rs} (hr : RdrAt W w g B n c b s) : RdrAt W w' g B n c b s := by
  obtain ⟨a, hk, h2⟩ := hr.blk
  exact ⟨h.bel hr.bel, hr.ge, ⟨a, h.rd.trans hk, h2⟩, hr.rd, hr.byte, hr.len, hr.max, hr.ne, hr.in_⟩
theorem KpT.put {B g X l : Nat} {w : World} {o o' : Obj} (hB : B ≤ l) (hg : g < l) (hX : X < l) (hl : w.heap[l]? = some o) (ho : o.isCells = false) : KpT B g X w (w.putObj l o') :=
  ⟨fun j hj => World.putObj_heap_other (by omega), World.putObj_heap_other (by omega), World.putObj_heap_other (by omega), fun j cs t fr hj _ => World.putObj_heap_other (fun e => by
    subst e
    rw [hl] at hj
    injection hj with hj
    subst hj
    cases ho), by simp [World.putObj], rfl, rfl, rfl⟩
/-- What the iterator turns: the reader, cells of blocks, and what is new. -/
structure ChT (g : Nat) (w w' : World) : Prop where
  os : w'.os = w.os
  tape : w'.tape = w.tape
  output : w'.output = w.output
  size : w.heap.size ≤ w'.heap.size
  blk : ∀ (j : Nat), j < w.heap.size → j ≠ g → (∀ (cs : Array Value) (fr : Nat × Nat), w.heap[j]? ≠ some (Obj.cells cs 28 fr)) → w'.heap[j]? = w.heap[j]?
theorem ChT.of_only {g : Nat} {w w' : World} (h : w.grownBy w' (some g)) : ChT g w w' :=
  ⟨h.os, h.tape, h.output, h.size, fun j hj hne _ => h.block j hj (fun e => hne (by injection e))⟩
theorem ChT.of_below {g : Nat} {w w' : World} (h : Below w.heap.size w w') : ChT g w w' :=
  ⟨h.os, h.tape, h.output, h.size, fun j hj _ _ => h.block j hj⟩
theorem ChT.of_blk {g k : Nat} {cs : Array Value} {w w' : World} (h : w.grownBy w' (some k)) (hk : Blk w k 28 cs) : ChT g w w' :=
  ⟨h.os, h.tape, h.output, h.size, fun j hj _ hn => h.block j hj (fun e => by injection e with e; subst e; exact hn _ _ hk)⟩
theorem ChT.loop {g : Nat} {A B : World} (hg : ∀ o, A.heap[g]? = some o → o.isCells = true) (h : ChT g A B) (j : Nat) (o : Obj) (hj : A.heap[j]? = some o) (ho : o.isCells = false) : B.heap[j]? = some o := by
  have hlt := (Array.getElem?_eq_some_iff.1 hj).1
  refine (h.blk j hlt (fun e => ?_) (fun cs fr e => ?_)).trans hj
  · subst e
    rw [hg o hj] at ho
    cases ho
  · rw [hj] at e
    injection e with e
    subst e
    cases ho
end Go.Proofs.Ytahboomghjdjhaa

/-
  Walks: a reader's tokens (an iterator).
-/
namespace Go.Proofs.Ytahboomghjdjhaa
open Go.RowKit Go.Shelf
attribute [local go_sem] Oper.semAt_some

/-- A token, handed to a round. -/
abbrev encT (t : St) : Array Value := #[.agg #[.int .u8 (t.lit : Int), .int .i64 (t.dist : Int), .int .i64 (t.long : Int)]]
/-- How the iterator ends: what was told, and what the reader holds. -/
def FinT (W0 : World) (g : Nat) (B : Option Addr) (nb c : Nat) (b : List Nat) (R : Except Nat Ss) (told : List Nat) (W : World) : Prop :=
  ∃ s : Rs, RdrAt W0 W g B nb c b s ∧ ((∃ s1, R = .ok s1 ∧ s1.told = told ∧ (s1.over = true → s = .ok s1.a) ∧ (s1.over = false → s = .error 10)) ∨ ∃ e, e ≠ 10 ∧ R = .error e ∧ s = .error e)
theorem FinT.stop {W0 : World} {g : Nat} {B : Option Addr} {nb c : Nat} {b : List Nat} {R : Except Nat Ss} {s : Ss} {W : World} {e : Nat} (h : R = if e = 10 then .ok s else .error e) (ho : s.over = false) (hr : RdrAt W0 W g B nb c b (.error e)) : FinT W0 g B nb c b R s.told W := by
  refine ⟨.error e, hr, ?_⟩
  by_cases he : e = 10
  · subst he
    exact .inl ⟨s, h, rfl, fun h' => (by rw [ho] at h'; cases h'), fun _ => rfl⟩
  · rw [if_neg he] at h
    exact .inr ⟨e, he, h, rfl⟩
theorem FinT.last {W0 : World} {g : Nat} {B : Option Addr} {nb c : Nat} {b : List Nat} {R : Except Nat Ss} {m : Nat} {win told : List Nat} {W : World} (h : R = .ok ⟨m, none, true, win, told⟩) (hr : RdrAt W0 W g B nb c b (.ok m)) : FinT W0 g B nb c b R told W :=
  ⟨.ok m, hr, .inl ⟨_, h, rfl, fun _ => rfl, fun h' => (by cases h')⟩⟩
/-- The tokens' iterator, made. -/
theorem tokens_is (g : Nat) (w : World) :
    Calls Try.prog 30 #[.pointer (some ⟨g, 0, none⟩)] w fun e w' => e = .returned (.func (.func 39) #[] #[.pointer (some ⟨w.heap.size, 0, none⟩)]) ∧ w' = w.alloc (.cells #[.pointer (some ⟨g, 0, none⟩)] 59) := by
  go_enter Try.func30, Try.ntmps30
  go_wp2_with fail
  go_ret
  exact ⟨rfl, rfl⟩
end Go.Proofs.Ytahboomghjdjhaa

/-
  Walks: a reader's tokens, round by round.
-/
namespace Go.Proofs.Ytahboomghjdjhaa
open Go.RowKit Go.Shelf
attribute [local go_sem] Oper.semAt_some

/-- A block under way in the loop over tokens. -/
structure TkIn (W0 w : World) (g X kb : Nat) (B : Option Addr) (nb c : Nat) (b : List Nat) (k : Bk) (s : Rs) (C1 : Option Addr) (m1 d1 : Nat) (C2 : Option Addr) (m2 d2 : Nat) : Prop where
  rd : RdrAt W0 w g B nb c b s
  box : Blk w X 59 #[.pointer (some ⟨g, 0, none⟩)]
  t1 : TrOk w W0.heap.size C1 m1 d1 (trX k k.lo)
  t2 : TrOk w W0.heap.size C2 m2 d2 (trX k k.fa)
  arr : Arr w kb 28 37 (bkC k (.slice C1 m1 d1) (.slice C2 m2 d2))
  kb : W0.heap.size ≤ kb
theorem tk_left {k : Bk} (h : BkOk k) : k.left ≤ 65535 := by
  by_cases h0 : k.kind = 0
  · exact (h.zero h0).1
  · have := (h.code h0).1; omega
theorem tk_dec (n : Nat) : (if (1 : Int) < (n : Int) then (n : Int) - 1 else 0) = ((n - 1 : Nat) : Int) := by split <;> omega
section
variable {W0 w w' : World} {g X kb : Nat} {B : Option Addr} {nb c : Nat} {b : List Nat} {k : Bk} {s s' : Rs} {C1 : Option Addr} {m1 d1 : Nat} {C2 : Option Addr} {m2 d2 : Nat}
theorem TkIn.ne (h : TkIn W0 w g X kb B nb c b k s C1 m1 d1 C2 m2 d2) : X ≠ g ∧ kb ≠ g ∧ X ≠ kb := by
  obtain ⟨a, hb, _⟩ := h.rd.blk
  have h1 := h.box
  have h2 := h.arr
  unfold Blk at hb h1
  unfold Arr Blk at h2
  refine ⟨fun e => ?_, fun e => ?_, fun e => ?_⟩
  · subst e; rw [hb] at h1; cases h1
  · subst e; rw [hb] at h2; injection h2 with h2; injection h2 with _ h2; exact absurd h2 (by decide)
  · subst e; rw [h1] at h2; injection h2 with h2; injection h2 with _ h2; exact absurd h2 (by decide)
theorem TkIn.below (h : TkIn W0 w g X kb B nb c b k s C1 m1 d1 C2 m2 d2) (hb : Below w.heap.size w w') : TkIn W0 w' g X kb B nb c b k s C1 m1 d1 C2 m2 d2 :=
  ⟨h.rd.below hb, Blk.below h.box hb (Blk.lt h.box), ⟨own_below h.t1.own hb, h.t1.len, h.t1.max⟩, ⟨own_below h.t2.own hb, h.t2.len, h.t2.max⟩, Arr.below h.arr hb (Blk.lt h.arr), h.kb⟩
theorem TkIn.read (h : TkIn W0 w g X kb B nb c b k s C1 m1 d1 C2 m2 d2) (hr : RdrAt W0 w' g B nb c b s') (hg : w.grownBy w' (some g)) : TkIn W0 w' g X kb B nb c b k s' C1 m1 d1 C2 m2 d2 := by
  obtain ⟨n1, n2, n3⟩ := h.ne
  exact ⟨hr, Blk.grown h.box hg (by intro e; injection e with e; exact n1 e), ⟨h.rd.own h.t1.own (by decide) hg, h.t1.len, h.t1.max⟩, ⟨h.rd.own h.t2.own (by decide) hg, h.t2.len, h.t2.max⟩, Blk.grown h.arr hg (by intro e; injection e with e; exact n2 e), h.kb⟩
theorem TkIn.kept (h : TkIn W0 w g X kb B nb c b k s C1 m1 d1 C2 m2 d2) (hk : KpT W0.heap.size g X w w') : TkIn W0 w' g X kb B nb c b k s C1 m1 d1 C2 m2 d2 :=
  ⟨hk.rdr h.rd, hk.box.trans h.box, ⟨hk.own h.t1.own, h.t1.len, h.t1.max⟩, ⟨hk.own h.t2.own, h.t2.len, h.t2.max⟩, hk.arr h.arr, h.kb⟩
theorem bkC_left (k : Bk) (v1 v2 : Value) (i : Nat) : (if i = 2 then Value.int .i64 ((k.left - 1 : Nat) : Int) else bkC k v1 v2 i) = bkC (bkDec k) v1 v2 i := by
  unfold bkC bkH
  by_cases h : i = 2
  · subst h; rfl
  · rw [if_neg h]
    by_cases h3 : i < 3
    · rw [if_pos h3, if_pos h3]
      by_cases h0 : i = 0
      · rw [if_pos h0, if_pos h0]; rfl
      · rw [if_neg h0, if_neg h0, if_pos (by omega), if_pos (by omega)]; rfl
    · rw [if_neg h3, if_neg h3]; rfl
theorem TkIn.dec (h : TkIn W0 w g X kb B nb c b k s C1 m1 d1 C2 m2 d2) : TkIn W0 (w.setCell ⟨kb, 2, none⟩ (.int .i64 ((k.left - 1 : Nat) : Int))) g X kb B nb c b (bkDec k) s C1 m1 d1 C2 m2 d2 := by
  obtain ⟨n1, n2, n3⟩ := h.ne
  have gz : w.grownBy (w.setCell ⟨kb, 2, none⟩ (.int .i64 ((k.left - 1 : Nat) : Int))) (some kb) := only_set (only_self _ _) 2 _
  exact ⟨h.rd.other gz (by omega) h.kb, Blk.grown h.box gz (by intro e; injection e with e; omega), h.t1.only h.arr gz, h.t2.only h.arr gz, (Arr.set h.arr 2 _).congr fun i _ => bkC_left k _ _ i, h.kb⟩
/-- .. where the reader's step is to be called. -/
theorem TkIn.step (h : TkIn W0 w g X kb B nb c b k s C1 m1 d1 C2 m2 d2) {a : Nat} (hs : s = .ok a) (hk : BkOk k) :
    Calls Try.prog 41 #[.pointer (some ⟨g, 0, none⟩), .agg (cellsOf 37 (bkC k (.slice C1 m1 d1) (.slice C2 m2 d2)))] w fun r w' => StepEnd W0 w w' g B nb c b (.ok a) (stP k) r := by
  subst hs
  exact rdstep_any W0 w g B nb c b a k hk C1 m1 d1 C2 m2 d2 (fun wx hg => own_rd (h.t1.len ▸ h.rd.own h.t1.own (by decide) hg)) h.t1.len (own_cap h.t1.own) (fun wx hg => own_rd (h.t2.len ▸ h.rd.own h.t2.own (by decide) hg)) h.t2.len (own_cap h.t2.own) h.rd
end

set_option maxRecDepth 100000 in
set_option maxHeartbeats 8000000 in
theorem tk_rounds (N : Nat) (hN : 1 ≤ N) (W0 : World) (room g X : Nat) (B : Option Addr) (nb c : Nat) (b : List Nat) :
    RoundsS Fence.wide N Try.prog 39 #[.pointer (some ⟨X, 0, none⟩)] encT (KpT W0.heap.size g X) (ChT g) (fun _ t W => StOk t ∧ t.fin = false ∧ ∃ a, RdrAt W0 W g B nb c b (.ok a)) (nxtT room) (FinT W0 g B nb c b (tellR room b 0)) (LvT room (tellR room b 0))
      (fun W => RdrAt W0 W g B nb c b (.ok 0) ∧ Blk W X 59 #[.pointer (some ⟨g, 0, none⟩)]) [] := by
  intro l J O W hIt hJ hY h0
  obtain ⟨hr0, hx0⟩ := hIt
  have hT0 := TkAt.start room b
  generalize tellR room b 0 = R at *
  have HJ := Lib.hid hJ
  have HY := Lib.hid hY
  have HT0 := Lib.hid hT0
  clear hJ hY hT0
  refine callsIn_wide.2 ?_
  show Calls Try.prog 39 #[.func (.yield l) #[] #[], .pointer (some ⟨X, 0, none⟩)] W _
  go_enter Try.func39, Try.ntmps39
  go_wp2_with fail
  go_loopg [3] (8 * nb + 1) (fun gk v3 wr => ∃ (told win : List Nat) (a : Nat), gk = 8 * nb + 1 - a ∧ Hid (TkAt room b R ⟨a, none, false, win, told⟩) ∧ J told wr ∧ RdrAt W0 wr g B nb c b (.ok a) ∧ Blk wr X 59 #[.pointer (some ⟨g, 0, none⟩)])
  case atStart => exact ⟨[], [], 0, by omega, HT0, h0, hr0, hx0⟩
  case round =>
    clear h0 hr0 hx0 HT0
    obtain ⟨told, win, a, hgk, HT, hJ, hr, hx⟩ := hrel
    have HG := Lib.hid hgk
    clear hgk
    have cx := Blk.cells hx
    have HH := Lib.hid (rdhead_any W0 wr g B nb c b a hr)
    have hgx : X ≠ g := by
      intro e; subst e
      obtain ⟨av, hb, _⟩ := hr.blk
      unfold Blk at hb hx
      rw [hb] at hx; cases hx
    go_upto_region 1 with (first
      | (go_at_call 40; refine HH.out.mono ?_; rintro e w1 ⟨kind, last, left, f1, C1, m1, d1, x1, f2, C2, m2, d2, x2, rfl, hk3, hleft, t1, t2, hr1, g1, his⟩)
      | (refine store_over rfl 28 (.tmp 3) (.tmp 7) rfl rfl rfl (show BkAt (w1.alloc (.cells (cellsOf 37 (bkH 0 false 0 (fun _ => 0) (.slice none 0 0) (fun _ => 0) (.slice none 0 0))) 28)) w1.heap.size 0 false 0 (fun _ => 0) (.slice none 0 0) (fun _ => 0) (.slice none 0 0) from Blk.new _ _ _) bk_size (fun i _ => bkH_one _ _ _ _ _ _ _ _ _ _ _ i) ?_; intro w3 k3 g3))
    have hb3 : Below w1.heap.size w1 w3 := Below.then_only ((Below.refl _ _).alloc (Nat.le_refl _) _) g3 (by simp) (Nat.le_refl _)
    have hr3 := hr1.below hb3
    have hx1 := Blk.grown hx g1 (by intro e; injection e with e; exact hgx e)
    have hx3 := Blk.below hx1 hb3 (Blk.lt hx1)
    have hJ3 := HJ.out _ _ _ (HJ.out _ _ _ hJ (ChT.of_only g1)) (ChT.of_below hb3)
    have hkb : W0.heap.size ≤ w1.heap.size := hr1.bel.size
    obtain ⟨kb, hkbe⟩ : ∃ kb, w1.heap.size = kb := ⟨_, rfl⟩
    rw [hkbe] at k3 hkb
    rw [hkbe]
    have hWr : W0.heap.size ≤ wr.heap.size := hr.bel.size
    clear hJ hx1 cx hr hx hr1
    cases hh : hdP b a with
    | error e =>
      rw [rsGo_err hh] at hr3
      have HR := Lib.hid (HT.out.head_err rfl hh)
      have HSB := Lib.hid (rdstep_bad W0 w3 g B nb c b e kind last left f1 f2 C1 m1 d1 C2 m2 d2 hk3 hleft hr3)
      have he0 := hr3.ne e rfl
      have HK3 := Lib.hid (And.intro hr3 (And.intro hx3 (And.intro k3 hJ3)))
      clear his t1 t2 hh hr3 hk3 hleft g1 g3 hb3 HT HG HH hJ3 hkbe hWr
      dsimp only [Act.put]
      go_loopg [4] 0 (fun gk2 v4 wr => wr = w3)
      case atStart => rfl
      case round =>
        have hw := hrel
        clear hrel
        subst hw
        have hx3 := HK3.out.2.1
        have k3 := HK3.out.2.2.1
        have cx := Blk.cells hx3
        go_upto_region 2 with (first
          | (go_at_call 41; refine HSB.out.mono ?_; rintro e w4 ⟨lit, dist, long, fin, rfl, hr4, g4⟩)
          | (refine load_arr rfl 28 (.tmp 3) rfl rfl k3 Try.underlying28 rfl bk_size ?_))
        have hx4 := Blk.grown hx3 g4 (by intro e; injection e with e; exact hgx e)
        have hJ4 := HJ.out _ _ _ HK3.out.2.2.2 (ChT.of_only g4)
        have hb5 : Below w4.heap.size w4 (w4.alloc (.cells #[.int .u8 (lit : Int), .int .i64 (dist : Int), .int .i64 (long : Int)] 73)) := (Below.refl _ _).alloc (Nat.le_refl _) _
        have hr5 := hr4.below hb5
        have hx5 := Blk.below hx4 hb5 (Blk.lt hx4)
        have hJ5 := HJ.out _ _ _ hJ4 (ChT.of_below hb5)
        clear hr4 hx4 hJ4 g4 hx3 cx k3
        generalize w4.alloc (.cells #[.int .u8 (lit : Int), .int .i64 (dist : Int), .int .i64 (long : Int)] 73) = w5 at *
        have cx := Blk.cells hx5
        obtain ⟨av, hbk, _⟩ := hr5.blk
        have c2 : w5.cell? ⟨g, 2, none⟩ = some (.int .i64 (e : Int)) := hbk.cell 2
        have hne : ¬ ((e : Int) = 0) := by omega
        go_wp2_with fail
        refine bodyPost_ret (v := .tuple #[]) (by simp [results, Try.results39, go_sem]) rfl ?_
        exact ⟨⟨_, rfl⟩, .inl ⟨told, FinT.stop HR.out rfl hr5, hJ5⟩⟩
    | ok r =>
      obtain ⟨k, m⟩ := r
      rw [rsGo_ok hh] at hr3
      obtain ⟨rfl, rfl, rfl, rfl, rfl, rfl, rfl⟩ := his k m hh
      have HT1 := Lib.hid (HT.out.head rfl hh)
      have hbh := hdP_gd.ok _ _ _ _ hh
      have hm3 : a + 3 ≤ m := hbh.1
      have hTk : TkIn W0 w3 g X kb B nb c b k (.ok m) C1 m1 d1 C2 m2 d2 :=
        ⟨hr3, hx3, ⟨own_below (own_far_base t1.own hWr) hb3, t1.len, t1.max⟩, ⟨own_below (own_far_base t2.own hWr) hb3, t2.len, t2.max⟩, k3, hkb⟩
      clear his t1 t2 hh hr3 hk3 hleft g1 g3 hb3 HT HH hkbe hbh hx3 k3 hWr
      dsimp only [Act.put]
      go_loopg [4] (8 * nb + 1 - m) (fun gk2 v4 wr => ∃ (k : Bk) (told win : List Nat) (a' : Nat), gk2 = 8 * nb + 1 - a' ∧ m ≤ a' ∧ a' ≤ 8 * nb ∧ Hid (TkAt room b R ⟨a', some k, false, win, told⟩) ∧ TkIn W0 wr g X kb B nb c b k (.ok a') C1 m1 d1 C2 m2 d2 ∧ J told wr)
      case atStart => exact ⟨k, told, win, m, rfl, Nat.le_refl _, by have := hTk.rd.in_ m rfl; omega, HT1, hTk, hJ3⟩
      case round =>
        clear hTk hJ3 HT1
        obtain ⟨k, told, win, a', hgk2, hma, ha', HT, hTk, hJ⟩ := hrel
        have HG2 := Lib.hid hgk2
        clear hgk2
        have hk : BkOk k := HT.out.ok.blk k rfl
        have HS := Lib.hid (hTk.step rfl hk)
        have cx := Blk.cells hTk.box
        have k3 := hTk.arr
        have hl := tk_left hk
        cases hh : stP k b a' with
        | error e =>
          have HR := Lib.hid (HT.out.step_err rfl hh)
          go_upto_region 2 with (first
            | (go_at_call 41; refine HS.out.mono ?_; rintro e w4 ⟨lit, dist, long, fin, rfl, hr4, g4, hst⟩)
            | (refine load_arr rfl 28 (.tmp 3) rfl rfl k3 Try.underlying28 rfl bk_size ?_))
          rw [rsGo_err hh] at hr4
          have hT4 := hTk.read hr4 g4
          have hJ4 := HJ.out _ _ _ hJ (ChT.of_only g4)
          have hb5 : Below w4.heap.size w4 (w4.alloc (.cells #[.int .u8 (lit : Int), .int .i64 (dist : Int), .int .i64 (long : Int)] 73)) := (Below.refl _ _).alloc (Nat.le_refl _) _
          have hT5 := hT4.below hb5
          have hJ5 := HJ.out _ _ _ hJ4 (ChT.of_below hb5)
          have he0 := hr4.ne e rfl
          clear hr4 hT4 hJ4 g4 cx k3 hh hst hTk hJ hb5
          generalize w4.alloc (.cells #[.int .u8 (lit : Int), .int .i64 (dist : Int), .int .i64 (long : Int)] 73) = w5 at *
          have cx := Blk.cells hT5.box
          obtain ⟨av, hbk, _⟩ := hT5.rd.blk
          have c2 : w5.cell? ⟨g, 2, none⟩ = some (.int .i64 (e : Int)) := hbk.cell 2
          have hne : ¬ ((e : Int) = 0) := by omega
          go_wp2_with fail
          refine bodyPost_ret (v := .tuple #[]) (by simp [results, Try.results39, go_sem]) rfl ?_
          exact ⟨⟨_, rfl⟩, .inl ⟨told, FinT.stop HR.out rfl hT5.rd, hJ5⟩⟩
        | ok r =>
          obtain ⟨t, m'⟩ := r
          go_upto_region 2 with (first
            | (go_at_call 41; refine HS.out.mono ?_; rintro e w4 ⟨lit, dist, long, fin, rfl, hr4, g4, hst⟩)
            | (refine load_arr rfl 28 (.tmp 3) rfl rfl k3 Try.underlying28 rfl bk_size ?_))
          rw [rsGo_ok hh] at hr4
          obtain rfl := hst a' t m' rfl hh
          have hT4 := hTk.read hr4 g4
          have hJ4 := HJ.out _ _ _ hJ (ChT.of_only g4)
          have hb5 : Below w4.heap.size w4 (w4.alloc (.cells #[.int .u8 (lit : Int), .int .i64 (dist : Int), .int .i64 (long : Int)] 73)) := (Below.refl _ _).alloc (Nat.le_refl _) _
          have hT5 := hT4.below hb5
          have hJ5 := HJ.out _ _ _ hJ4 (ChT.of_below hb5)
          have kt : Blk (w4.alloc (.cells #[.int .u8 (lit : Int), .int .i64 (dist : Int), .int .i64 (long : Int)] 73)) w4.heap.size 73 #[.int .u8 (lit : Int), .int .i64 (dist : Int), .int .i64 (long : Int)] := Blk.new _ _ _
          have hktk : kb < w4.heap.size := Blk.lt hT4.arr
          have hm8 : m' ≤ 8 * nb := hT5.rd.in_ m' rfl
          clear hr4 hT4 hJ4 g4 cx k3 hst hTk hJ hb5 HS
          generalize w4.alloc (.cells #[.int .u8 (lit : Int), .int .i64 (dist : Int), .int .i64 (long : Int)] 73) = w5 at *
          obtain ⟨tk, htk⟩ : ∃ tk, w4.heap.size = tk := ⟨_, rfl⟩
          rw [htk] at kt hktk
          rw [htk]
          clear htk
          have cx := Blk.cells hT5.box
          obtain ⟨av, hbk, _⟩ := hT5.rd.blk
          have c2 : w5.cell? ⟨g, 2, none⟩ = some (.int .i64 0) := hbk.cell 2
          have ct := Blk.cells kt
          cases fin with
          | true =>
            have HE := Lib.hid hh
            clear hh
            have c1 : w5.cell? ⟨kb, 1, none⟩ = some (.bool k.last) := Arr.cell hT5.arr 1 (by omega)
            cases hlast : k.last with
            | true =>
              rw [hlast] at c1
              go_wp2_with fail
              refine bodyPost_ret (v := .tuple #[]) (by simp [results, Try.results39, go_sem]) rfl ?_
              exact ⟨⟨_, rfl⟩, .inl ⟨told, FinT.last (HT.out.last rfl HE.out rfl hlast) hT5.rd, hJ5⟩⟩
            | false =>
              rw [hlast] at c1
              have hle := ((stP_gd hk).ok _ _ _ _ HE.out).1
              go_wp2_with fail
              go_roundg (8 * nb + 1 - m')
              case measure => have := HG.out; omega
              case rel => exact ⟨told, win, m', rfl, Lib.hid (HT.out.next rfl HE.out rfl hlast), hJ5, hT5.rd, hT5.box⟩
          | false =>
            have c3 : w5.cell? ⟨kb, 2, none⟩ = some (.int .i64 (k.left : Int)) := Arr.cell hT5.arr 2 (by omega)
            have f3 := Arr.free hT5.arr 2
            have hon := stP_on hk hh rfl
            have hst := stP_ok hh
            have HE := Lib.hid (And.intro hh (And.intro hon hst))
            clear hh hst hon
            go_upto_region 4 with fail
            rw [tk_dec]
            have hT6 := hT5.dec
            have gz : w5.grownBy (w5.setCell ⟨kb, 2, none⟩ (.int .i64 ((k.left - 1 : Nat) : Int))) (some kb) := only_set (only_self _ _) 2 _
            have hJ6 := HJ.out _ _ _ hJ5 (ChT.of_blk gz hT5.arr)
            have kt6 := Blk.grown kt gz (by intro e; injection e with e; omega)
            clear hT5 hJ5 kt gz ct cx c2 c3 f3 hbk
            generalize w5.setCell ⟨kb, 2, none⟩ (.int .i64 ((k.left - 1 : Nat) : Int)) = w6 at *
            have hy := HY.out told ⟨dist, long, lit, false⟩ w6 hJ6 ⟨HE.out.2.2, rfl, m', hT6.rd⟩
            have ct := Blk.cells kt6
            cases hp : plT room told ⟨dist, long, lit, false⟩ with
            | error e =>
              have hn : nxtT room told ⟨dist, long, lit, false⟩ = none := by unfold nxtT; rw [hp]
              rw [hn] at hy
              obtain ⟨fn, tmps, assign, body, hy, hR⟩ := hy
              (try dsimp only at hy)
              have HR := Lib.hid (HT.out.tok_err rfl HE.out.1 rfl hp)
              have HP := Lib.hid (And.intro hn hp)
              clear hn hp
              refine (wpIn_wide (n := N)).1 ?_
              gi_wp2
              refine hR.mono ?_
              rintro e2 w7 ⟨rfl, hO⟩
              gi_wp2
              go_wp2_with fail
              refine bodyPost_ret (v := .tuple #[]) (by simp [results, Try.results39, go_sem]) rfl ?_
              exact ⟨⟨_, rfl⟩, .inr ⟨told, _, HP.out.1, ⟨e, HP.out.2, HR.out⟩, hO⟩⟩
            | ok told' =>
              have hn : nxtT room told ⟨dist, long, lit, false⟩ = some told' := by unfold nxtT; rw [hp]
              rw [hn] at hy
              obtain ⟨fn, tmps, assign, body, hy, hR⟩ := hy
              (try dsimp only at hy)
              have HR := Lib.hid (HT.out.tok rfl HE.out.1 rfl hp)
              have HON := Lib.hid HE.out.2.1
              clear hn hp
              refine (wpIn_wide (n := N)).1 ?_
              gi_wp2
              refine hR.mono ?_
              rintro e2 w7 ⟨rfl, hJ7, hk7⟩
              have hT7 := hT6.kept hk7
              gi_wp2
              go_wp2_with fail
              go_roundg (8 * nb + 1 - m')
              case measure => have := HG2.out; have := HON.out; omega
              case rel => exact ⟨bkDec k, told', _, m', rfl, by have := HON.out; omega, hm8, HR, hT7, hJ7⟩
end Go.Proofs.Ytahboomghjdjhaa
