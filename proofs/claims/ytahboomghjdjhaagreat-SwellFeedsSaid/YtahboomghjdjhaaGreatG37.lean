/-
  Walks: plain's asked, Head, Step.
-/
import Derived.StillTailTactics
import Derived.Test.YtahboomghjdjhaaGreatG08
import Derived.Test.YtahboomghjdjhaaGreatG11
import Derived.Test.YtahboomghjdjhaaGreatG28
import Derived.Test.YtahboomghjdjhaaGreatG35
import Derived.Test.YtahboomghjdjhaaGreatG36
namespace Go.Proofs.YtahboomghjdjhaaGreat
open Go.RowKit

/-- What asked answers of bytes and a place that may be. -/
theorem rdasked_ok (B : Option Addr) (n c : Nat) (a : Nat) (w : World) (hn : n ≤ 100000) (ha : a ≤ 8 * n) :
    Calls Tryz.prog 58 #[.slice B n c, .int .i64 (a : Int)] w fun r w' => r = .returned (.tuple #[.pointer (some ⟨w.heap.size, 0, none⟩), .int .i64 0]) ∧ w' = w.alloc (.cells #[.slice B n c, .int .i64 (a : Int), .int .i64 0] 110) := by
  have h1 : ¬ ((131072 : Int) < (n : Int)) := by omega
  have h2 : ¬ ((a : Int) < 0) := by omega
  have h3 : ¬ ((8 : Int) * (n : Int) < (a : Int)) := by omega
  go_enter Tryz.func58, Tryz.ntmps58
  go_wp2_with fail
  go_ret2
  exact ⟨rfl, rfl⟩
theorem RdrAt.made (W w : World) (hW : Below W.heap.size W w) (B : Option Addr) (n c : Nat) (b : List Nat) (a : Nat) (hB : Rd W B (u8s b)) (hx : ∀ x ∈ b, x < 256) (hn : n = b.length) (hm : n ≤ 100000) (ha : a ≤ 8 * n) :
    RdrAt W (w.alloc (.cells #[.slice B n c, .int .i64 (a : Int), .int .i64 0] 110)) w.heap.size B n c b (.ok a) :=
  ⟨hW.alloc hW.size _, hW.size, ⟨a, Blk.new _ _ _, fun m h => (by cases h; rfl)⟩, hB, hx, hn, hm, fun e h => (by cases h), fun m h => (by cases h; exact ha)⟩

theorem results_three {P : Program} {fn : Func} {p s1 s2 : Tmp} {ty : TypeId} (h : fn.results = #[.cell p ty, .tmp s1, .tmp s2]) (tmps : Array Value) (w : World) (g : Nat) (t : TypeId) (cs : Array Value) (v1 v2 : Value) (d : TypeDesc)
    (hp : tmps.getD p undef = .pointer (some ⟨g, 0, none⟩)) (h1 : tmps.getD s1 undef = v1) (h2 : tmps.getD s2 undef = v2) (hg : Blk w g t cs)
    (hu : P.underlying ty = some d) (hd : (match d with | .struct _ | .array _ _ => true | _ => false) = true) (hi : (P.info? ty).map (·.size) = some cs.size) :
    (results fn tmps).run P w = .ok (.tuple #[.agg cs, v1, v2]) w := by
  have hp' : tmps[p]?.getD undef = .pointer (some ⟨g, 0, none⟩) := by simpa using hp
  have h1' : tmps[s1]?.getD undef = v1 := by simpa using h1
  have h2' : tmps[s2]?.getD undef = v2 := by simpa using h2
  simp [results, h, hp', h1', h2', asAddr, run_loadVar_row w g t ty cs (0, 0) d hg hu hd hi]

theorem TrOk.mono {w : World} {base base' : Nat} {C : Option Addr} {m d : Nat} {xs : List Int} (h : TrOk w base C m d xs) (hb : base' ≤ base) : TrOk w base' C m d xs := ⟨own_far_base h.own hb, h.len, h.max⟩

/-- What Head answers. -/
def HeadRes (w w' : World) (b : List Nat) (a : Nat) (r : Ending) : Prop := Below w.heap.size w w' ∧ match hdP b a with
  | .error e => r = .returned (.tuple #[.agg (cellsOf 37 (bkH 0 false 0 (fun _ => 0) (.slice none 0 0) (fun _ => 0) (.slice none 0 0))), .int .i64 0, .int .i64 ((e : Nat) : Int)])
  | .ok (k, m) => ∃ C1 m1 d1 C2 m2 d2, r = .returned (.tuple #[.agg (cellsOf 37 (bkH ((k.kind : Nat) : Int) k.last ((k.left : Nat) : Int) (trF k k.lo) (.slice C1 m1 d1) (trF k k.fa) (.slice C2 m2 d2))), .int .i64 ((m : Nat) : Int), .int .i64 0]) ∧ TrOk w' w.heap.size C1 m1 d1 (trX k k.lo) ∧ TrOk w' w.heap.size C2 m2 d2 (trX k k.fa)

set_option maxRecDepth 100000 in
set_option maxHeartbeats 8000000 in
theorem phead_any (B : Option Addr) (n c : Nat) (b : List Nat) (a : Nat) (w : World) (hB : Rd w B (u8s b)) (hx : ∀ x ∈ b, x < 256) (hn : n = b.length) (hm : n ≤ 100000) (ha : a ≤ 8 * n) :
    Calls Tryz.prog 42 #[.slice B n c, .int .i64 (a : Int)] w fun r w' => HeadRes w w' b a r := by
  have hbw : Below w.heap.size w (w.alloc (.cells (cellsOf 37 (bkH 0 false 0 (fun _ => 0) (.slice none 0 0) (fun _ => 0) (.slice none 0 0))) 28)) := (Below.refl _ _).alloc (Nat.le_refl _) _
  have k0 : BkAt (w.alloc (.cells (cellsOf 37 (bkH 0 false 0 (fun _ => 0) (.slice none 0 0) (fun _ => 0) (.slice none 0 0))) 28)) w.heap.size 0 false 0 (fun _ => 0) (.slice none 0 0) (fun _ => 0) (.slice none 0 0) := Blk.new _ _ _
  have HA := Lib.hid fun wx => rdasked_ok B n c a wx hm ha
  have HM := Lib.hid fun wx (h : Below w.heap.size w wx) => RdrAt.made w wx h B n c b a hB hx hn hm ha
  clear hx hn
  go_enter Tryz.func42, Tryz.ntmps42
  go_upto_region 1 with (fail)
  change Code.wp _ _ _ _ (w.alloc (.cells (cellsOf 37 (bkH 0 false 0 (fun _ => 0) (.slice none 0 0) (fun _ => 0) (.slice none 0 0))) 28))
  have hsz : w.heap.size < (w.alloc (.cells (cellsOf 37 (bkH 0 false 0 (fun _ => 0) (.slice none 0 0) (fun _ => 0) (.slice none 0 0))) 28)).heap.size := by simp
  generalize w.alloc (.cells (cellsOf 37 (bkH 0 false 0 (fun _ => 0) (.slice none 0 0) (fun _ => 0) (.slice none 0 0))) 28) = W0 at *
  have hr0 := HM.out W0 hbw
  have k1 := Arr.alloc k0 (.cells #[.slice B n c, .int .i64 (a : Int), .int .i64 0] 110)
  have hb1 : Below w.heap.size w (W0.alloc (.cells #[.slice B n c, .int .i64 (a : Int), .int .i64 0] 110)) := hbw.alloc hbw.size _
  go_upto_region 4 with (go_at_call 58; refine (HA.out _).mono ?_; rintro e w1 ⟨rfl, rfl⟩)
  obtain ⟨g, hg⟩ : ∃ g, W0.heap.size = g := ⟨_, rfl⟩
  rw [hg] at hr0 hsz
  rw [hg]
  have hW0 : (W0.alloc (.cells #[.slice B n c, .int .i64 (a : Int), .int .i64 0] 110)).heap.size = g + 1 := by simp [hg]
  have hww : W0.heap.size ≤ g := by omega
  generalize W0.alloc (.cells #[.slice B n c, .int .i64 (a : Int), .int .i64 0] 110) = w1 at *
  have HH := Lib.hid (rdhead_any w w1 g B n c b a hr0)
  have HG := Lib.hid (And.intro hg hW0)
  have hgk : g ≠ w.heap.size := by omega
  clear hg k0 HA HM hW0
  have hle1 : w.heap.size ≤ w1.heap.size := hb1.size
  go_upto_region 5 with (first
    | (go_at_call 59; refine HH.out.mono ?_; rintro e w2 ⟨kind, last, left, f1, C1, m1, d1, x1, f2, C2, m2, d2, x2, rfl, hk3, hl5, t1, t2, h2, g2, his⟩; have k2 : BkAt w2 w.heap.size 0 false 0 (fun _ => 0) (.slice none 0 0) (fun _ => 0) (.slice none 0 0) := Blk.grown k1 g2 (by intro e; injection e with e; omega))
    | (refine store_over rfl 28 (.tmp 4) (.tmp 19) rfl rfl rfl k2 bk_size (fun i _ => bkH_one _ _ _ _ _ _ _ _ _ _ _ i) ?_; intro w3 k3 g3))
  have k3 : BkAt w3 w.heap.size (kind : Int) last (left : Int) f1 (.slice C1 m1 d1) f2 (.slice C2 m2 d2) := k3
  have t1 := t1.only k2 g3
  have t2 := t2.only k2 g3
  have h3 := h2.other g3 hgk (Nat.le_refl _)
  have hb3 : Below w.heap.size w w3 := h3.bel
  clear hb1 hbw hB k1 k2 h2 HH hr0 g2 g3
  obtain ⟨av, hbk, hav⟩ := h3.blk
  have c1 : w3.cell? ⟨g, 1, none⟩ = some (.int .i64 av) := hbk.cell 1
  have c2 : w3.cell? ⟨g, 2, none⟩ = some (.int .i64 (rsE (rsGo (.ok a) hdP b) : Int)) := hbk.cell 2
  have h3g := h3.lt
  cases hh : hdP b a with
  | error e =>
    have hgo : rsGo (.ok a) hdP b = .error e := rsGo_err hh
    rw [hgo] at c2 h3 hbk
    have he := h3.ne e rfl
    have hne : ¬ (((rsE (.error e : Rs) : Nat) : Int) = 0) := by simp only [rsE]; omega
    have HR := Lib.hid (show ∀ w', Below w.heap.size w w' → HeadRes w w' b a (.returned (.tuple #[.agg (cellsOf 37 (bkH 0 false 0 (fun _ => 0) (.slice none 0 0) (fun _ => 0) (.slice none 0 0))), .int .i64 0, .int .i64 ((e : Nat) : Int)])) from fun w' hb => ⟨hb, by rw [hh]⟩)
    clear hh hgo hav his
    have hbe : ((((rsE (.error e : Rs) : Nat) : Int)) != 0) = true := by rw [bne_iff_ne]; exact hne
    replace c2 : w3.cell? ⟨g, 2, none⟩ = some (.int .i64 ((e : Nat) : Int)) := c2
    replace hne : ¬ (((e : Nat) : Int) = 0) := hne
    clear hbe
    go_upto_region 6 with (fail)
    replace hbk : Blk w3 g 110 #[.slice B n c, .int .i64 av, .int .i64 (e : Int)] := hbk
    refine wp_region_turn (phase 5 (fun w' => BkAt w' w.heap.size (kind : Int) last (left : Int) f1 (.slice C1 m1 d1) f2 (.slice C2 m2 d2) ∧ w3.grownBy w' (some w.heap.size)) (fun w' => BkAt w' w.heap.size 0 false 0 (fun _ => 0) (.slice none 0 0) (fun _ => 0) (.slice none 0 0) ∧ w3.grownBy w' (some w.heap.size))) (by kernel_rfl) (by kernel_rfl) (by kernel_rfl) (phase_new ⟨Arr.drew k3, only_drew (only_self _ _)⟩) ?_
    refine turn_read (v := .agg (cellsOf 37 (bkH 0 false 0 (fun _ => 0) (.slice none 0 0) (fun _ => 0) (.slice none 0 0)))) (by decide) rfl (fun wx h => run_built 28 _ rfl (by kernel_rfl)) (fun K hK => ?_)
    go_simp
    refine hK _ ?_
    clear hK K
    refine turn_read (v := .pointer (some ⟨g, 0, none⟩)) (by decide) rfl (fun wx h => ?_) (fun K hK => ?_)
    · have cs := Blk.cells (Blk.grown hbk (h.elim (·.2) (·.2)) (by intro e; injection e with e; omega))
      go_simp
    go_simp
    refine hK _ ?_
    clear hK K
    refine turn_read (v := .pointer (some ⟨g, 0, none⟩)) (by decide) rfl (fun wx h => ?_) (fun K hK => ?_)
    · have cs := Blk.cells (Blk.grown hbk (h.elim (·.2) (·.2)) (by intro e; injection e with e; omega))
      go_simp
    go_simp
    refine hK _ ?_
    clear hK K
    refine turn_read (v := .pointer (some ⟨g, 2, none⟩)) (by decide) rfl (fun wx h => ?_) (fun K hK => ?_)
    · have cs := Blk.cells (Blk.grown hbk (h.elim (·.2) (·.2)) (by intro e; injection e with e; omega))
      go_simp
    go_simp
    refine hK _ ?_
    clear hK K
    refine turn_read (v := .int .i64 ((e : Nat) : Int)) (by decide) rfl (fun wx h => ?_) (fun K hK => ?_)
    · have cs := Blk.cells (Blk.grown hbk (h.elim (·.2) (·.2)) (by intro e; injection e with e; omega))
      go_simp
    go_simp
    refine hK _ ?_
    clear hK K
    refine turn_over rfl 28 (.tmp 4) (.tmp 25) rfl rfl rfl (fun wx h => ⟨_, h.1⟩) bk_size (fun i _ => bkH_one _ _ _ _ _ _ _ _ _ _ _ i) (fun wx wy h e2 e3 => ⟨e2, only_trans h.2 e3⟩) (fun K hK => ?_)
    go_simp
    refine hK _ ?_
    clear hK K
    refine turn_read (v := .int .i64 0) (by decide) rfl (fun wx h => ?_) (fun K hK => ?_)
    · have cs := Blk.cells (Blk.grown hbk (h.elim (·.2) (·.2)) (by intro e; injection e with e; omega))
      go_simp
    go_simp
    refine hK _ ?_
    clear hK K
    refine turn_read (v := .int .i64 ((e : Nat) : Int)) (by decide) rfl (fun wx h => ?_) (fun K hK => ?_)
    · have cs := Blk.cells (Blk.grown hbk (h.elim (·.2) (·.2)) (by intro e; injection e with e; omega))
      go_simp
    go_simp
    refine hK _ ?_
    clear hK K
    refine turn_nil ?_
    intro L w4 hL hC
    obtain ⟨k4, g4⟩ := phase_end hC (hL 5 (by decide))
    clear hL hC
    go_wp2_with fail
    refine bodyPost_ret (results_three Tryz.results42 _ _ w.heap.size 28 _ _ _ _ rfl rfl rfl k4 Tryz.underlying28 rfl (by rw [cellsOf_size]; exact bk_size)) rfl ?_
    exact HR.out _ (Below.then_only hb3 g4 hb3.size (Nat.le_refl _))
  | ok r =>
    obtain ⟨k, m⟩ := r
    have hgo := rsGo_ok hh
    rw [hgo] at c2 h3 hbk
    have hbi := his k m hh
    replace c2 : w3.cell? ⟨g, 2, none⟩ = some (.int .i64 0) := c2
    have hm1 : av = m := hav m hgo
    have HOK := Lib.hid (show ∀ w', Below w.heap.size w w' → ∀ C1 m1 d1 C2 m2 d2, TrOk w' w.heap.size C1 m1 d1 (trX k k.lo) → TrOk w' w.heap.size C2 m2 d2 (trX k k.fa) → HeadRes w w' b a (.returned (.tuple #[.agg (cellsOf 37 (bkH ((k.kind : Nat) : Int) k.last ((k.left : Nat) : Int) (trF k k.lo) (.slice C1 m1 d1) (trF k k.fa) (.slice C2 m2 d2))), .int .i64 ((m : Nat) : Int), .int .i64 0])) from fun w' hb C1 m1 d1 C2 m2 d2 t1 t2 => ⟨hb, by rw [hh]; exact ⟨C1, m1, d1, C2, m2, d2, rfl, t1, t2⟩⟩)
    clear hh hgo hav his
    subst hm1
    go_upto_region 7 with (fail)
    refine wp_region_turn (phase 5 (fun w' => BkAt w' w.heap.size (kind : Int) last (left : Int) f1 (.slice C1 m1 d1) f2 (.slice C2 m2 d2) ∧ w3.grownBy w' (some w.heap.size)) (fun w' => BkAt w' w.heap.size (kind : Int) last (left : Int) f1 (.slice C1 m1 d1) f2 (.slice C2 m2 d2) ∧ w3.grownBy w' (some w.heap.size))) (by kernel_rfl) (by kernel_rfl) (by kernel_rfl) (phase_new ⟨Arr.drew k3, only_drew (only_self _ _)⟩) ?_
    refine turn_read (by decide) rfl (fun wx h => run_row 28 (.tmp 4) rfl rfl (h.elim (·.1) (·.1)) Tryz.underlying28 rfl bk_size) (fun K hK => ?_)
    go_simp
    refine hK _ ?_
    clear hK K
    refine turn_read (v := .pointer (some ⟨g, 0, none⟩)) (by decide) rfl (fun wx h => ?_) (fun K hK => ?_)
    · have cs := Blk.cells (Blk.grown hbk (h.elim (·.2) (·.2)) (by intro e; injection e with e; omega))
      go_simp
    go_simp
    refine hK _ ?_
    clear hK K
    refine turn_read (v := .pointer (some ⟨g, 0, none⟩)) (by decide) rfl (fun wx h => ?_) (fun K hK => ?_)
    · have cs := Blk.cells (Blk.grown hbk (h.elim (·.2) (·.2)) (by intro e; injection e with e; omega))
      go_simp
    go_simp
    refine hK _ ?_
    clear hK K
    refine turn_read (v := .pointer (some ⟨g, 1, none⟩)) (by decide) rfl (fun wx h => ?_) (fun K hK => ?_)
    · have cs := Blk.cells (Blk.grown hbk (h.elim (·.2) (·.2)) (by intro e; injection e with e; omega))
      go_simp
    go_simp
    refine hK _ ?_
    clear hK K
    refine turn_read (v := .int .i64 ((m : Nat) : Int)) (by decide) rfl (fun wx h => ?_) (fun K hK => ?_)
    · have cs := Blk.cells (Blk.grown hbk (h.elim (·.2) (·.2)) (by intro e; injection e with e; omega))
      go_simp
    go_simp
    refine hK _ ?_
    clear hK K
    refine turn_over rfl 28 (.tmp 4) (.tmp 30) rfl rfl rfl (fun wx h => ⟨_, h.1⟩) bk_size (fun i _ => bkH_one _ _ _ _ _ _ _ _ _ _ _ i) (fun wx wy h e2 e3 => ⟨e2, only_trans h.2 e3⟩) (fun K hK => ?_)
    go_simp
    refine hK _ ?_
    clear hK K
    refine turn_read (v := .int .i64 ((m : Nat) : Int)) (by decide) rfl (fun wx h => ?_) (fun K hK => ?_)
    · have cs := Blk.cells (Blk.grown hbk (h.elim (·.2) (·.2)) (by intro e; injection e with e; omega))
      go_simp
    go_simp
    refine hK _ ?_
    clear hK K
    refine turn_read (v := .int .i64 0) (by decide) rfl (fun wx h => ?_) (fun K hK => ?_)
    · have cs := Blk.cells (Blk.grown hbk (h.elim (·.2) (·.2)) (by intro e; injection e with e; omega))
      go_simp
    go_simp
    refine hK _ ?_
    clear hK K
    refine turn_nil ?_
    intro L w4 hL hC
    obtain ⟨k4, g4⟩ := phase_end hC (hL 5 (by decide))
    clear hL hC
    go_wp2_with fail
    refine bodyPost_ret (results_three Tryz.results42 _ _ w.heap.size 28 _ _ _ _ rfl rfl rfl k4 Tryz.underlying28 rfl (by rw [cellsOf_size]; exact bk_size)) rfl ?_
    have t1 := (t1.only k3 g4).mono hle1
    have t2 := (t2.only k3 g4).mono hle1
    obtain ⟨rfl, rfl, rfl, rfl, rfl, rfl, rfl⟩ := hbi
    exact HOK.out _ (Below.then_only hb3 g4 hb3.size (Nat.le_refl _)) _ _ _ _ _ _ t1 t2
end Go.Proofs.YtahboomghjdjhaaGreat

/-
  Walks: plain.Check.
-/
namespace Go.Proofs.YtahboomghjdjhaaGreat
open Go.RowKit

section
variable {P : Program}
/-- A part of a block loaded under a guard that holds. -/
theorem load_subG {ops : Array Oper} {rest : List Oper} {o : Oper} {a : Act} {w : World} {Q : Exit → Act → World → Prop} (hw : Region.wanted o (yielded ops a.tmps) = true) (ty : TypeId) (x : Operand) (ho : o.op = .load ty x)
    {g off : Nat} (hx : a.eval x = .pointer (some ⟨g, off, none⟩)) {t : TypeId} {n : Nat} {f : Nat → Value} {d : TypeDesc} (hA : Arr w g t n f) (m : Nat) (hm : off + m ≤ n)
    (hu : P.underlying ty = some d) (hd : d.isRow = true) (hi : (P.info? ty).map (·.size) = some m) (h' : Nat → Value) (he : ∀ k, k < m → f (off + k) = h' k)
    (h : wpList P ops Q rest (a.put o.dst (.agg (cellsOf m h'))) w) : wpList P ops Q (o :: rest) a w :=
  BigFrame.wpList_want hw fun _ hK => wp_load_mid ty x ho g off hx _ d (Arr.part hA off m hm) hu hd (by rw [hi]; simp) (by
    have e : ((List.range m).map fun k => f (off + k)).toArray = cellsOf m h' := cellsOf_congr he
    rw [e]
    exact hK _ _ h)
end

/-- Whether a block may be. -/
def ckA (kind : Nat) (left : Int) (f1 : Nat → Int) (x1 : List Int) (f2 : Nat → Int) (x2 : List Int) : Bool := decide (kind = 0) && (decide (0 ≤ left) && (decide (left ≤ 65535) && (sameT f1 (fun _ => 0) x1 [] && sameT f2 (fun _ => 0) x2 [])))
def ckC (kind : Nat) (left : Int) (f1 : Nat → Int) (x1 : List Int) (f2 : Nat → Int) (x2 : List Int) : Bool := (decide (kind = 1) || decide (kind = 2)) && (decide (left = 0) && ((chkT f1 x1).isSome && (chkT f2 x2).isSome))
def ckB (kind : Nat) (left : Int) (f1 : Nat → Int) (x1 : List Int) (f2 : Nat → Int) (x2 : List Int) : Bool := ckA kind left f1 x1 f2 x2 || ckC kind left f1 x1 f2 x2
theorem tree_zeroL : cellsOf 17 (treeH (fun _ => 0) (.slice none 0 0)) = #[.int .i64 0, .int .i64 0, .int .i64 0, .int .i64 0, .int .i64 0, .int .i64 0, .int .i64 0, .int .i64 0, .int .i64 0, .int .i64 0, .int .i64 0, .int .i64 0, .int .i64 0, .int .i64 0, .int .i64 0, .int .i64 0, .slice none 0 0] := rfl
theorem bkH_t1 (kind : Int) (last : Bool) (left : Int) (f1 : Nat → Int) (v1 : Value) (f2 : Nat → Int) (v2 : Value) (i : Nat) (hi : i < 17) : bkH kind last left f1 v1 f2 v2 (3 + i) = treeH f1 v1 i := by unfold bkH; rw [if_neg (by omega), if_pos (by omega), Nat.add_sub_cancel_left]
theorem bkH_t2 (kind : Int) (last : Bool) (left : Int) (f1 : Nat → Int) (v1 : Value) (f2 : Nat → Int) (v2 : Value) (i : Nat) (hi : i < 17) : bkH kind last left f1 v1 f2 v2 (20 + i) = treeH f2 v2 i := by unfold bkH; rw [if_neg (by omega), if_neg (by omega), Nat.add_sub_cancel_left]

theorem ck_ok {k : Bk} (h : BkOk k) : ckB k.kind (k.left : Int) (trF k k.lo) (trX k k.lo) (trF k k.fa) (trX k k.fa) = true := by
  unfold ckB ckA ckC trF trX
  by_cases h0 : k.kind = 0
  · have hz := h.zero h0
    rw [if_pos h0, if_pos h0, if_pos h0, if_pos h0, sameT_refl]
    simp [h0]
    omega
  · have hc := h.code h0
    have hl := h.len h0
    have hk := h.kind
    rw [if_neg h0, if_neg h0, if_neg h0, if_neg h0, chk_grown hc.2.1, chk_grown hc.2.2]
    have : k.kind = 1 ∨ k.kind = 2 := by omega
    simp [this, hc.1]
theorem ck_is {kind : Nat} {left : Int} {f1 f2 : Nat → Int} {x1 x2 : List Int} (last : Bool) (h : ckB kind left f1 x1 f2 x2 = true) : ∃ k : Bk, BkOk k ∧ k.kind = kind ∧ k.last = last ∧ left = (k.left : Int) ∧ (∀ i, i < 16 → f1 i = trF k k.lo i) ∧ x1 = trX k k.lo ∧ (∀ i, i < 16 → f2 i = trF k k.fa i) ∧ x2 = trX k k.fa := by
  unfold ckB ckA ckC at h
  simp only [Bool.or_eq_true, Bool.and_eq_true, decide_eq_true_eq] at h
  rcases h with ⟨h0, h1, h2, h3, h4⟩ | ⟨h0, h1, h3, h4⟩
  · obtain ⟨a1, a2⟩ := sameT_iff.1 h3
    obtain ⟨b1, b2⟩ := sameT_iff.1 h4
    refine ⟨⟨kind, last, left.toNat, [], []⟩, ⟨?_, fun _ => ⟨?_, rfl, rfl⟩, fun e => absurd h0 e, fun e => absurd h0 e⟩, rfl, rfl, ?_, ?_, ?_, ?_, ?_⟩
    · show kind ≤ 2; omega
    · show left.toNat ≤ 65535; omega
    · show left = (left.toNat : Int); omega
    · unfold trF; rw [if_pos h0]; exact a1
    · unfold trX; rw [if_pos h0]; exact a2
    · unfold trF; rw [if_pos h0]; exact b1
    · unfold trX; rw [if_pos h0]; exact b2
  · obtain ⟨l1, hl1⟩ := Option.isSome_iff_exists.1 h3
    obtain ⟨l2, hl2⟩ := Option.isSome_iff_exists.1 h4
    obtain ⟨a1, a2, a3⟩ := chk_some hl1
    obtain ⟨b1, b2, b3⟩ := chk_some hl2
    have hk : kind ≠ 0 := by omega
    refine ⟨⟨kind, last, 0, l1, l2⟩, ⟨?_, fun e => absurd e hk, fun _ => ⟨rfl, a1, b1⟩, fun _ => ⟨chk_320 hl1, chk_320 hl2⟩⟩, rfl, rfl, by simpa using h1, ?_, ?_, ?_, ?_⟩
    · show kind ≤ 2; omega
    · unfold trF; rw [if_neg hk]; exact a2
    · unfold trX; rw [if_neg hk]; exact a3
    · unfold trF; rw [if_neg hk]; exact b2
    · unfold trX; rw [if_neg hk]; exact b3

theorem tsame_zero (f : Nat → Int) (A : Option Addr) (n c : Nat) (xs : List Int) (w : World) (hx : Rd w A (ints xs)) (hn : n = xs.length) (hn1 : n ≤ 1001) :
    Calls Tryz.prog 39 #[.agg (cellsOf 17 (treeH f (.slice A n c))), .agg #[.int .i64 0, .int .i64 0, .int .i64 0, .int .i64 0, .int .i64 0, .int .i64 0, .int .i64 0, .int .i64 0, .int .i64 0, .int .i64 0, .int .i64 0, .int .i64 0, .int .i64 0, .int .i64 0, .int .i64 0, .int .i64 0, .slice none 0 0]] w fun e w' => e = .returned (.bool (sameT f (fun _ => 0) xs [])) ∧ Below w.heap.size w w' := by
  have h := tsame_any f (fun _ => 0) A none n c 0 0 xs [] w hx Rd.nil_ hn rfl hn1 (by omega)
  unfold treeV at h
  rw [tree_zeroL] at h
  exact h
/-- What a check answers. -/
def CkdRes (w w' : World) (b : Bool) (r : Ending) : Prop := r = .returned (.int .i64 ((if b = true then 0 else 8 : Nat) : Int)) ∧ Below w.heap.size w w'
theorem CkdRes.mk' {w w' : World} {b : Bool} {r : Ending} (E : Nat) (hE : (if b = true then 0 else 8) = E) (hr : r = .returned (.int .i64 (E : Int))) (hb : Below w.heap.size w w') : CkdRes w w' b r := ⟨by rw [hr, hE], hb⟩
set_option maxRecDepth 100000 in
set_option maxHeartbeats 8000000 in
theorem plck_any (kind : Nat) (last : Bool) (left : Int) (f1 : Nat → Int) (C1 : Option Addr) (m1 d1 : Nat) (x1 : List Int) (f2 : Nat → Int) (C2 : Option Addr) (m2 d2 : Nat) (x2 : List Int) (w : World)
    (hx1 : Rd w C1 (ints x1)) (hm1 : m1 = x1.length) (hd1 : m1 ≤ d1) (hb1 : m1 ≤ 1001) (hx2 : Rd w C2 (ints x2)) (hm2 : m2 = x2.length) (hd2 : m2 ≤ d2) (hb2 : m2 ≤ 1001) :
    Calls Tryz.prog 24 #[.agg (cellsOf 37 (bkH (kind : Int) last left f1 (.slice C1 m1 d1) f2 (.slice C2 m2 d2)))] w fun r w' => CkdRes w w' (ckB kind left f1 x1 f2 x2) r := by
  have hbw : Below w.heap.size w (w.alloc (.cells (cellsOf 37 (bkH (kind : Int) last left f1 (.slice C1 m1 d1) f2 (.slice C2 m2 d2))) 28)) := (Below.refl _ _).alloc (Nat.le_refl _) _
  have k0 : BkAt (w.alloc (.cells (cellsOf 37 (bkH (kind : Int) last left f1 (.slice C1 m1 d1) f2 (.slice C2 m2 d2))) 28)) w.heap.size kind last left f1 (.slice C1 m1 d1) f2 (.slice C2 m2 d2) := Blk.new _ _ _
  have H1 := Lib.hid fun wx (h : Below w.heap.size w wx) => tsame_zero f1 C1 m1 d1 x1 wx (hx1.below h) hm1 hb1
  have H2 := Lib.hid fun wx (h : Below w.heap.size w wx) => tsame_zero f2 C2 m2 d2 x2 wx (hx2.below h) hm2 hb2
  have H3 := Lib.hid fun wx (h : Below w.heap.size w wx) => (show Calls Tryz.prog 40 #[.agg (cellsOf 17 (treeH f1 (.slice C1 m1 d1)))] wx _ from trcheck_any f1 C1 m1 d1 x1 wx (hx1.below h) hm1 hd1 hb1)
  have H4 := Lib.hid fun wx (h : Below w.heap.size w wx) => (show Calls Tryz.prog 40 #[.agg (cellsOf 17 (treeH f2 (.slice C2 m2 d2)))] wx _ from trcheck_any f2 C2 m2 d2 x2 wx (hx2.below h) hm2 hd2 hb2)
  obtain ⟨s1, hs1⟩ : ∃ s, sameT f1 (fun _ => 0) x1 [] = s := ⟨_, rfl⟩
  obtain ⟨s2, hs2⟩ : ∃ s, sameT f2 (fun _ => 0) x2 [] = s := ⟨_, rfl⟩
  obtain ⟨b1, hb1'⟩ : ∃ s, (chkT f1 x1).isSome = s := ⟨_, rfl⟩
  obtain ⟨b2, hb2'⟩ : ∃ s, (chkT f2 x2).isSome = s := ⟨_, rfl⟩
  have HE1 : chkE f1 x1 = if b1 = true then 0 else 8 := by unfold chkE; rw [hb1']
  have HE2 : chkE f2 x2 = if b2 = true then 0 else 8 := by unfold chkE; rw [hb2']
  unfold ChkRes at H3 H4
  rw [hs1] at H1
  rw [hs2] at H2
  rw [HE1] at H3
  rw [HE2] at H4
  have HA := Lib.hid (show ckA kind left f1 x1 f2 x2 = (decide (kind = 0) && (decide (0 ≤ left) && (decide (left ≤ 65535) && (s1 && s2)))) by unfold ckA; rw [hs1, hs2])
  have HC := Lib.hid (show ckC kind left f1 x1 f2 x2 = ((decide (kind = 1) || decide (kind = 2)) && (decide (left = 0) && (b1 && b2))) by unfold ckC; rw [hb1', hb2'])
  clear hm1 hm2 hs1 hs2 hb1' hb2' HE1 HE2 hx1 hx2
  go_enter Tryz.func24, Tryz.ntmps24
  go_upto_region 1 with (fail)
  change Code.wp _ _ _ _ (w.alloc (.cells (cellsOf 37 (bkH (kind : Int) last left f1 (.slice C1 m1 d1) f2 (.slice C2 m2 d2))) 28))
  generalize w.alloc (.cells (cellsOf 37 (bkH (kind : Int) last left f1 (.slice C1 m1 d1) f2 (.slice C2 m2 d2))) 28) = w0 at *
  go_cut [3] (fun v wx => v = .bool (ckA kind left f1 x1 f2 x2) ∧ Below w.heap.size w wx ∧ BkAt wx w.heap.size kind last left f1 (.slice C1 m1 d1) f2 (.slice C2 m2 d2))
  case first =>
    clear H3 H4 HC
    have c0 : w0.cell? ⟨w.heap.size, 0, none⟩ = some (.int .u8 (kind : Int)) := Arr.cell k0 0 (by omega)
    have c2 : w0.cell? ⟨w.heap.size, 2, none⟩ = some (.int .i64 left) := Arr.cell k0 2 (by omega)
    by_cases a0 : kind = 0
    · subst a0
      by_cases a1 : 0 ≤ left
      · by_cases a2 : left ≤ 65535
        · have e1 : decide (0 ≤ left) = true := decide_eq_true a1
          have e2 : decide (left ≤ 65535) = true := decide_eq_true a2
          have HA2 := Lib.hid (show ckA 0 left f1 x1 f2 x2 = (s1 && s2) by rw [HA.out, e1, e2]; simp)
          clear HA
          cases s1 with
          | false =>
            go_wp2_with (first
              | (go_at_call 39; refine (H1.out _ hbw).mono ?_; rintro e w2 ⟨rfl, h2⟩; have kk2 := Arr.below k0 h2 (Blk.lt k0); have hh2 := hbw.trans (h2.mono hbw.size))
              | (refine load_subG (by rfl) 26 (.tmp 19) rfl rfl k0 17 (by omega) tree_under rfl tree_size (treeH f1 (.slice C1 m1 d1)) (fun i hi => bkH_t1 _ _ _ _ _ _ _ i hi) ?_))
            go_meet
            exact ⟨by rw [HA2.out] <;> rfl, hh2, kk2⟩
          | true =>
            cases s2 with
            | false =>
              go_wp2_with (first
                | (go_at_call 39; refine (H2.out _ hh2).mono ?_; rintro e w3 ⟨rfl, h3⟩; have kk3 := Arr.below kk2 h3 (Blk.lt kk2); have hh3 := hh2.trans (h3.mono hh2.size))
                | (go_at_call 39; refine (H1.out _ hbw).mono ?_; rintro e w2 ⟨rfl, h2⟩; have kk2 := Arr.below k0 h2 (Blk.lt k0); have hh2 := hbw.trans (h2.mono hbw.size))
                | (refine load_subG (by rfl) 26 (.tmp 25) rfl rfl kk2 17 (by omega) tree_under rfl tree_size (treeH f2 (.slice C2 m2 d2)) (fun i hi => bkH_t2 _ _ _ _ _ _ _ i hi) ?_)
                | (refine load_subG (by rfl) 26 (.tmp 19) rfl rfl k0 17 (by omega) tree_under rfl tree_size (treeH f1 (.slice C1 m1 d1)) (fun i hi => bkH_t1 _ _ _ _ _ _ _ i hi) ?_))
              go_meet
              exact ⟨by rw [HA2.out] <;> rfl, hh3, kk3⟩
            | true =>
              go_wp2_with (first
                | (go_at_call 39; refine (H2.out _ hh2).mono ?_; rintro e w3 ⟨rfl, h3⟩; have kk3 := Arr.below kk2 h3 (Blk.lt kk2); have hh3 := hh2.trans (h3.mono hh2.size))
                | (go_at_call 39; refine (H1.out _ hbw).mono ?_; rintro e w2 ⟨rfl, h2⟩; have kk2 := Arr.below k0 h2 (Blk.lt k0); have hh2 := hbw.trans (h2.mono hbw.size))
                | (refine load_subG (by rfl) 26 (.tmp 25) rfl rfl kk2 17 (by omega) tree_under rfl tree_size (treeH f2 (.slice C2 m2 d2)) (fun i hi => bkH_t2 _ _ _ _ _ _ _ i hi) ?_)
                | (refine load_subG (by rfl) 26 (.tmp 19) rfl rfl k0 17 (by omega) tree_under rfl tree_size (treeH f1 (.slice C1 m1 d1)) (fun i hi => bkH_t1 _ _ _ _ _ _ _ i hi) ?_))
              go_meet
              exact ⟨by rw [HA2.out] <;> rfl, hh3, kk3⟩
        · have e1 : decide (0 ≤ left) = true := decide_eq_true a1
          have e2 : decide (left ≤ 65535) = false := decide_eq_false a2
          have HA2 := Lib.hid (show ckA 0 left f1 x1 f2 x2 = false by rw [HA.out, e2]; simp)
          clear HA
          go_wp2_with fail
          go_meet
          exact ⟨by rw [HA2.out] <;> rfl, hbw, k0⟩
      · have e1 : decide (0 ≤ left) = false := decide_eq_false a1
        have HA2 := Lib.hid (show ckA 0 left f1 x1 f2 x2 = false by rw [HA.out, e1]; simp)
        clear HA
        go_wp2_with fail
        go_meet
        exact ⟨by rw [HA2.out] <;> rfl, hbw, k0⟩
    · have e0 : ((kind : Int) == 0) = false := by rw [beq_eq_false_iff_ne]; omega
      have HA2 := Lib.hid (show ckA kind left f1 x1 f2 x2 = false by rw [HA.out, decide_eq_false a0]; rfl)
      clear HA
      go_wp2_with fail
      go_meet
      exact ⟨by rw [HA2.out] <;> rfl, hbw, k0⟩
  case rest =>
    obtain ⟨rfl, hbw', k0'⟩ := hcut
    clear hbw k0 H1 H2 HA
    have hbw := hbw'
    have k0 := k0'
    clear hbw' k0' w0
    obtain ⟨ca, hca⟩ : ∃ v, ckA kind left f1 x1 f2 x2 = v := ⟨_, rfl⟩
    have HT := Lib.hid (show ckB kind left f1 x1 f2 x2 = (ca || ckC kind left f1 x1 f2 x2) by unfold ckB; rw [hca])
    rw [hca]
    clear hca
    go_upto_region 2 with (fail)
    go_cut [4] (fun v wx => v = .bool (ckC kind left f1 x1 f2 x2) ∧ Below w.heap.size w wx)
    case first =>
      have c0 : wc.cell? ⟨w.heap.size, 0, none⟩ = some (.int .u8 (kind : Int)) := Arr.cell k0 0 (by omega)
      have c2 : wc.cell? ⟨w.heap.size, 2, none⟩ = some (.int .i64 left) := Arr.cell k0 2 (by omega)
      clear HT
      by_cases a1 : kind = 1
      · subst a1
        by_cases a3 : left = 0
        · subst a3
          have HA2 := Lib.hid (show ckC 1 0 f1 x1 f2 x2 = (b1 && b2) by rw [HC.out]; simp)
          clear HC
          cases b1 with
          | false =>
            go_wp2_with (first
              | (go_at_call 40; refine (H3.out _ hbw).mono ?_; rintro e w2 ⟨rfl, h2⟩; have kk2 := Arr.below k0 h2 (Blk.lt k0); have hh2 := hbw.trans (h2.mono hbw.size))
              | (refine load_subG (by rfl) 26 (.tmp 44) rfl rfl k0 17 (by omega) tree_under rfl tree_size (treeH f1 (.slice C1 m1 d1)) (fun i hi => bkH_t1 _ _ _ _ _ _ _ i hi) ?_))
            go_meet
            exact ⟨by rw [HA2.out] <;> rfl, hh2⟩
          | true =>
            cases b2 with
            | false =>
              go_wp2_with (first
                | (go_at_call 40; refine (H4.out _ hh2).mono ?_; rintro e w3 ⟨rfl, h3⟩; have kk3 := Arr.below kk2 h3 (Blk.lt kk2); have hh3 := hh2.trans (h3.mono hh2.size))
                | (go_at_call 40; refine (H3.out _ hbw).mono ?_; rintro e w2 ⟨rfl, h2⟩; have kk2 := Arr.below k0 h2 (Blk.lt k0); have hh2 := hbw.trans (h2.mono hbw.size))
                | (refine load_subG (by rfl) 26 (.tmp 50) rfl rfl kk2 17 (by omega) tree_under rfl tree_size (treeH f2 (.slice C2 m2 d2)) (fun i hi => bkH_t2 _ _ _ _ _ _ _ i hi) ?_)
                | (refine load_subG (by rfl) 26 (.tmp 44) rfl rfl k0 17 (by omega) tree_under rfl tree_size (treeH f1 (.slice C1 m1 d1)) (fun i hi => bkH_t1 _ _ _ _ _ _ _ i hi) ?_))
              go_meet
              exact ⟨by rw [HA2.out] <;> rfl, hh3⟩
            | true =>
              go_wp2_with (first
                | (go_at_call 40; refine (H4.out _ hh2).mono ?_; rintro e w3 ⟨rfl, h3⟩; have kk3 := Arr.below kk2 h3 (Blk.lt kk2); have hh3 := hh2.trans (h3.mono hh2.size))
                | (go_at_call 40; refine (H3.out _ hbw).mono ?_; rintro e w2 ⟨rfl, h2⟩; have kk2 := Arr.below k0 h2 (Blk.lt k0); have hh2 := hbw.trans (h2.mono hbw.size))
                | (refine load_subG (by rfl) 26 (.tmp 50) rfl rfl kk2 17 (by omega) tree_under rfl tree_size (treeH f2 (.slice C2 m2 d2)) (fun i hi => bkH_t2 _ _ _ _ _ _ _ i hi) ?_)
                | (refine load_subG (by rfl) 26 (.tmp 44) rfl rfl k0 17 (by omega) tree_under rfl tree_size (treeH f1 (.slice C1 m1 d1)) (fun i hi => bkH_t1 _ _ _ _ _ _ _ i hi) ?_))
              go_meet
              exact ⟨by rw [HA2.out] <;> rfl, hh3⟩
        · have e3 : (left == 0) = false := by rw [beq_eq_false_iff_ne]; exact a3
          have HA2 := Lib.hid (show ckC 1 left f1 x1 f2 x2 = false by rw [HC.out, decide_eq_false a3]; simp)
          clear HC
          go_wp2_with fail
          go_meet
          exact ⟨by rw [HA2.out] <;> rfl, hbw⟩
      · by_cases a2 : kind = 2
        · subst a2
          by_cases a3 : left = 0
          · subst a3
            have HA2 := Lib.hid (show ckC 2 0 f1 x1 f2 x2 = (b1 && b2) by rw [HC.out]; simp)
            clear HC
            cases b1 with
            | false =>
              go_wp2_with (first
                | (go_at_call 40; refine (H3.out _ hbw).mono ?_; rintro e w2 ⟨rfl, h2⟩; have kk2 := Arr.below k0 h2 (Blk.lt k0); have hh2 := hbw.trans (h2.mono hbw.size))
                | (refine load_subG (by rfl) 26 (.tmp 44) rfl rfl k0 17 (by omega) tree_under rfl tree_size (treeH f1 (.slice C1 m1 d1)) (fun i hi => bkH_t1 _ _ _ _ _ _ _ i hi) ?_))
              go_meet
              exact ⟨by rw [HA2.out] <;> rfl, hh2⟩
            | true =>
              cases b2 with
              | false =>
                go_wp2_with (first
                  | (go_at_call 40; refine (H4.out _ hh2).mono ?_; rintro e w3 ⟨rfl, h3⟩; have kk3 := Arr.below kk2 h3 (Blk.lt kk2); have hh3 := hh2.trans (h3.mono hh2.size))
                  | (go_at_call 40; refine (H3.out _ hbw).mono ?_; rintro e w2 ⟨rfl, h2⟩; have kk2 := Arr.below k0 h2 (Blk.lt k0); have hh2 := hbw.trans (h2.mono hbw.size))
                  | (refine load_subG (by rfl) 26 (.tmp 50) rfl rfl kk2 17 (by omega) tree_under rfl tree_size (treeH f2 (.slice C2 m2 d2)) (fun i hi => bkH_t2 _ _ _ _ _ _ _ i hi) ?_)
                  | (refine load_subG (by rfl) 26 (.tmp 44) rfl rfl k0 17 (by omega) tree_under rfl tree_size (treeH f1 (.slice C1 m1 d1)) (fun i hi => bkH_t1 _ _ _ _ _ _ _ i hi) ?_))
                go_meet
                exact ⟨by rw [HA2.out] <;> rfl, hh3⟩
              | true =>
                go_wp2_with (first
                  | (go_at_call 40; refine (H4.out _ hh2).mono ?_; rintro e w3 ⟨rfl, h3⟩; have kk3 := Arr.below kk2 h3 (Blk.lt kk2); have hh3 := hh2.trans (h3.mono hh2.size))
                  | (go_at_call 40; refine (H3.out _ hbw).mono ?_; rintro e w2 ⟨rfl, h2⟩; have kk2 := Arr.below k0 h2 (Blk.lt k0); have hh2 := hbw.trans (h2.mono hbw.size))
                  | (refine load_subG (by rfl) 26 (.tmp 50) rfl rfl kk2 17 (by omega) tree_under rfl tree_size (treeH f2 (.slice C2 m2 d2)) (fun i hi => bkH_t2 _ _ _ _ _ _ _ i hi) ?_)
                  | (refine load_subG (by rfl) 26 (.tmp 44) rfl rfl k0 17 (by omega) tree_under rfl tree_size (treeH f1 (.slice C1 m1 d1)) (fun i hi => bkH_t1 _ _ _ _ _ _ _ i hi) ?_))
                go_meet
                exact ⟨by rw [HA2.out] <;> rfl, hh3⟩
          · have e3 : (left == 0) = false := by rw [beq_eq_false_iff_ne]; exact a3
            have HA2 := Lib.hid (show ckC 2 left f1 x1 f2 x2 = false by rw [HC.out, decide_eq_false a3]; simp)
            clear HC
            go_wp2_with fail
            go_meet
            exact ⟨by rw [HA2.out] <;> rfl, hbw⟩
        · have e1 : ((kind : Int) == 1) = false := by rw [beq_eq_false_iff_ne]; omega
          have e2 : ((kind : Int) == 2) = false := by rw [beq_eq_false_iff_ne]; omega
          have HA2 := Lib.hid (show ckC kind left f1 x1 f2 x2 = false by rw [HC.out, decide_eq_false a1, decide_eq_false a2]; rfl)
          clear HC
          go_wp2_with fail
          go_meet
          exact ⟨by rw [HA2.out] <;> rfl, hbw⟩
    case rest =>
      obtain ⟨rfl, hbw'⟩ := hcut
      obtain ⟨cc, hcc⟩ : ∃ v, ckC kind left f1 x1 f2 x2 = v := ⟨_, rfl⟩
      rw [hcc] at HT
      rw [hcc]
      have HT2 := HT
      clear HT hcc HC k0 hbw
      cases ca with
      | true =>
        go_wp2_with fail
        go_ret
        exact CkdRes.mk' 0 (by rw [HT2.out]; rfl) rfl hbw'
      | false =>
        cases cc with
        | true =>
          go_wp2_with fail
          go_ret
          exact CkdRes.mk' 0 (by rw [HT2.out]; rfl) rfl hbw'
        | false =>
          go_wp2_with fail
          go_ret
          exact CkdRes.mk' 8 (by rw [HT2.out]; rfl) rfl hbw'
end Go.Proofs.YtahboomghjdjhaaGreat

/-
  Walks: a reader's step of any block that may be; plain.Step.
-/
namespace Go.Proofs.YtahboomghjdjhaaGreat
open Go.RowKit

/-- A block's cells. -/
abbrev bkC (k : Bk) (v1 v2 : Value) : Nat → Value := bkH (k.kind : Int) k.last (k.left : Int) (trF k k.lo) v1 (trF k k.fa) v2
theorem trX_len {k : Bk} (h : BkOk k) : (trX k k.lo).length ≤ 320 ∧ (trX k k.fa).length ≤ 320 := by
  unfold trX
  by_cases h0 : k.kind = 0
  · rw [if_pos h0, if_pos h0]; exact ⟨by decide, by decide⟩
  · rw [if_neg h0, if_neg h0, symS_length, symS_length]
    have := h.len h0
    exact ⟨by rw [← this.1]; exact allP_le _ _, by rw [← this.2]; exact allP_le _ _⟩
theorem tr_chk {k : Bk} (h : BkOk k) (h0 : k.kind ≠ 0) : chkT (trF k k.lo) (trX k k.lo) = some k.lo ∧ chkT (trF k k.fa) (trX k k.fa) = some k.fa := by
  unfold trF trX
  have hc := h.code h0
  have hl := h.len h0
  rw [if_neg h0, if_neg h0, if_neg h0, if_neg h0, chk_grown hc.2.1, chk_grown hc.2.2, padL_full hl.1, padL_full hl.2]
  exact ⟨rfl, rfl⟩
theorem rdstep_any (W w : World) (g : Nat) (B : Option Addr) (n c : Nat) (b : List Nat) (a : Nat) (k : Bk) (hk : BkOk k) (C1 : Option Addr) (m1 d1 : Nat) (C2 : Option Addr) (m2 d2 : Nat)
    (hx1 : ∀ wx, w.grownBy wx (some g) → Rd wx C1 (ints (trX k k.lo))) (hm1 : m1 = (trX k k.lo).length) (hd1 : m1 ≤ d1)
    (hx2 : ∀ wx, w.grownBy wx (some g) → Rd wx C2 (ints (trX k k.fa))) (hm2 : m2 = (trX k k.fa).length) (hd2 : m2 ≤ d2) (h : RdrAt W w g B n c b (.ok a)) :
    Calls Tryz.prog 60 #[.pointer (some ⟨g, 0, none⟩), .agg (cellsOf 37 (bkC k (.slice C1 m1 d1) (.slice C2 m2 d2)))] w fun r w' => StepEnd W w w' g B n c b (.ok a) (stP k) r := by
  obtain ⟨kind, last, left, lo, fa⟩ := k
  by_cases h0 : kind = 0
  · subst h0
    exact rdstep_zero W w g B n c b (.ok a) last left _ _ _ _ lo fa (hk.zero rfl).1 h
  · have hl := trX_len hk
    have hc := tr_chk hk h0
    exact rdstep_code W w g B n c b a kind last left _ C1 m1 d1 _ _ C2 m2 d2 _ lo fa h0 hx1 hm1 hd1 (by omega) hc.1 hx2 hm2 hd2 (by omega) hc.2 h

/-- What Step answers. -/
def StepRes (w w' : World) (k : Bk) (b : List Nat) (a : Nat) (r : Ending) : Prop := Below w.heap.size w w' ∧ match stP k b a with
  | .error e => r = .returned (.tuple #[.agg #[.int .u8 0, .int .i64 0, .int .i64 0], .bool false, .int .i64 0, .int .i64 ((e : Nat) : Int)])
  | .ok (t, m) => r = .returned (.tuple #[.agg #[.int .u8 ((t.lit : Nat) : Int), .int .i64 ((t.dist : Nat) : Int), .int .i64 ((t.long : Nat) : Int)], .bool t.fin, .int .i64 ((m : Nat) : Int), .int .i64 0])

set_option maxRecDepth 100000 in
set_option maxHeartbeats 8000000 in
theorem pstep_any (B : Option Addr) (n c : Nat) (b : List Nat) (a : Nat) (w : World) (hB : Rd w B (u8s b)) (hx : ∀ x ∈ b, x < 256) (hn : n = b.length) (hm : n ≤ 100000) (ha : a ≤ 8 * n) (k : Bk) (hk : BkOk k) (C1 : Option Addr) (m1 d1 : Nat) (C2 : Option Addr) (m2 d2 : Nat)
    (hx1 : Rd w C1 (ints (trX k k.lo))) (hm1 : m1 = (trX k k.lo).length) (hd1 : m1 ≤ d1) (hx2 : Rd w C2 (ints (trX k k.fa))) (hm2 : m2 = (trX k k.fa).length) (hd2 : m2 ≤ d2) :
    Calls Tryz.prog 44 #[.agg (cellsOf 37 (bkC k (.slice C1 m1 d1) (.slice C2 m2 d2))), .slice B n c, .int .i64 (a : Int)] w fun r w' => StepRes w w' k b a r := by
  have hl := trX_len hk
  have HK := Lib.hid fun wx (h : Below w.heap.size w wx) => (ck_ok hk ▸ plck_any k.kind k.last (k.left : Int) (trF k k.lo) C1 m1 d1 (trX k k.lo) (trF k k.fa) C2 m2 d2 (trX k k.fa) wx (hx1.below h) hm1 hd1 (by omega) (hx2.below h) hm2 hd2 (by omega) : Calls Tryz.prog 24 _ wx fun r w' => CkdRes wx w' true r)
  have HA := Lib.hid fun wx => rdasked_ok B n c a wx hm ha
  have HM := Lib.hid fun wx (h : Below w.heap.size w wx) => RdrAt.made w wx h B n c b a hB hx hn hm ha
  have HS := Lib.hid fun wx g (hg : w.heap.size ≤ g) (h : RdrAt w wx g B n c b (.ok a)) => rdstep_any w wx g B n c b a k hk C1 m1 d1 C2 m2 d2 (fun wy hy => hx1.below (Below.then_only h.bel hy h.bel.size hg)) hm1 hd1 (fun wy hy => hx2.below (Below.then_only h.bel hy h.bel.size hg)) hm2 hd2 h
  clear hx1 hx2 hm1 hm2 hn hx hl
  unfold bkC at HS ⊢
  generalize bkH (k.kind : Int) k.last (k.left : Int) (trF k k.lo) (.slice C1 m1 d1) (trF k k.fa) (.slice C2 m2 d2) = F at HK HS ⊢
  have hbw : Below w.heap.size w (w.alloc (.cells (cellsOf 37 F) 28)) := (Below.refl _ _).alloc (Nat.le_refl _) _
  have k0 : Arr (w.alloc (.cells (cellsOf 37 F) 28)) w.heap.size 28 37 F := Blk.new _ _ _
  go_enter Tryz.func44, Tryz.ntmps44
  go_upto_region 1 with (fail)
  have k1 := Arr.alloc k0 (.cells #[.int .u8 0, .int .i64 0, .int .i64 0] 72)
  have kt : Blk ((w.alloc (.cells (cellsOf 37 F) 28)).alloc (.cells #[.int .u8 0, .int .i64 0, .int .i64 0] 72)) (w.heap.size + 1) 72 #[.int .u8 0, .int .i64 0, .int .i64 0] := Blk.new' _ _ _ _ (by simp)
  have hb1 : Below w.heap.size w ((w.alloc (.cells (cellsOf 37 F) 28)).alloc (.cells #[.int .u8 0, .int .i64 0, .int .i64 0] 72)) := hbw.alloc (by simp) _
  change Code.wp _ _ _ _ ((w.alloc (.cells (cellsOf 37 F) 28)).alloc (.cells #[.int .u8 0, .int .i64 0, .int .i64 0] 72))
  have hsz : ((w.alloc (.cells (cellsOf 37 F) 28)).alloc (.cells #[.int .u8 0, .int .i64 0, .int .i64 0] 72)).heap.size = w.heap.size + 2 := by simp
  generalize (w.alloc (.cells (cellsOf 37 F) 28)).alloc (.cells #[.int .u8 0, .int .i64 0, .int .i64 0] 72) = W1 at *
  have hr0 := HM.out W1 hb1
  have k2 := Arr.alloc k1 (.cells #[.slice B n c, .int .i64 (a : Int), .int .i64 0] 110)
  have kt2 := Blk.alloc kt (.cells #[.slice B n c, .int .i64 (a : Int), .int .i64 0] 110)
  have hb2 : Below w.heap.size w (W1.alloc (.cells #[.slice B n c, .int .i64 (a : Int), .int .i64 0] 110)) := hb1.alloc hb1.size _
  obtain ⟨g, hg⟩ : ∃ g, W1.heap.size = g := ⟨_, rfl⟩
  obtain ⟨gt, hgt⟩ : ∃ gt, w.heap.size + 1 = gt := ⟨_, rfl⟩
  rw [hg] at hr0
  rw [hgt] at kt kt2
  have HG := Lib.hid (show W1.heap.size = g ∧ w.heap.size + 1 = gt ∧ g = w.heap.size + 2 from ⟨hg, hgt, hg ▸ hsz⟩)
  clear hbw k0 k1 kt hb1 hg hgt hsz
  go_upto_region 4 with (go_at_call 58; refine (HA.out _).mono ?_; rintro e w1 ⟨rfl, rfl⟩)
  rw [HG.out.1, HG.out.2.1]
  have hg1 := HG.out.2.1
  have hg2 := HG.out.2.2
  have hgw : w.heap.size ≤ g := by omega
  have hgne : g ≠ gt := by omega
  have hgtw : w.heap.size ≤ gt := by omega
  have hgtk : w.heap.size ≠ gt := by omega
  have hgk : w.heap.size ≠ g := by omega
  have HG2 := Lib.hid (And.intro hg1 hg2)
  clear hg1 hg2 HA HM HG
  generalize W1.alloc (.cells #[.slice B n c, .int .i64 (a : Int), .int .i64 0] 110) = w1 at *
  go_upto_region 8 with (first
    | (refine load_arr rfl 28 (.tmp 3) rfl rfl k3 Tryz.underlying28 rfl bk_size ?_)
    | (refine load_arr rfl 28 (.tmp 3) rfl rfl k2 Tryz.underlying28 rfl bk_size ?_)
    | (go_at_call 24; refine (HK.out _ hb2).mono ?_; rintro e w3 ⟨rfl, h3⟩; have k3 := Arr.below k2 h3 (Blk.lt k2); have kt3 := Blk.below kt2 h3 (Blk.lt kt2); have hr3 := hr0.below h3; have hb3 := hb2.trans (h3.mono hb2.size); have hs := HS.out w3 g hgw hr3)
    | (go_at_call 60; refine hs.mono ?_; rintro e w4 ⟨lit, dist, long, fin, rfl, h4, g4, hv⟩; have kt4 : Blk w4 gt 72 #[.int .u8 0, .int .i64 0, .int .i64 0] := Blk.grown kt3 g4 (by intro e; injection e with e; omega); have ct4 := Blk.cells kt4; have ft4 := Blk.frozens kt4))
  have k5 : Blk _ gt 72 #[.int .u8 (lit : Int), .int .i64 (dist : Int), .int .i64 (long : Int)] := (((kt4.set_ 0 (.int .u8 (lit : Int))).set_ 1 (.int .i64 (dist : Int))).set_ 2 (.int .i64 (long : Int)))
  have g5 : w4.grownBy (((w4.setCell ⟨gt, 0, none⟩ (.int .u8 (lit : Int))).setCell ⟨gt, 1, none⟩ (.int .i64 (dist : Int))).setCell ⟨gt, 2, none⟩ (.int .i64 (long : Int))) (some gt) := only_set (only_set (only_set (only_self _ _) 0 _) 1 _) 2 _
  have h5 := h4.other g5 hgne hgtw
  clear k2 kt2 hb2 hr0 hr3 kt3 k3 hb3 h3 hs g4 kt4 ct4 ft4 HK HS h4
  generalize ((w4.setCell ⟨gt, 0, none⟩ (.int .u8 (lit : Int))).setCell ⟨gt, 1, none⟩ (.int .i64 (dist : Int))).setCell ⟨gt, 2, none⟩ (.int .i64 (long : Int)) = w5 at *
  have cz := Blk.cells k5
  have fz := Blk.frozens k5
  obtain ⟨av, hbk, hav⟩ := h5.blk
  have c1 : w5.cell? ⟨g, 1, none⟩ = some (.int .i64 av) := hbk.cell 1
  have c2 : w5.cell? ⟨g, 2, none⟩ = some (.int .i64 (rsE (rsGo (.ok a) (stP k) b) : Int)) := hbk.cell 2
  have hb5 := h5.bel
  cases hh : stP k b a with
  | error e =>
    have hgo : rsGo (.ok a) (stP k) b = .error e := rsGo_err hh
    rw [hgo] at c2 h5
    have he := h5.ne e rfl
    have hne : ¬ (((e : Nat) : Int) = 0) := by omega
    replace c2 : w5.cell? ⟨g, 2, none⟩ = some (.int .i64 ((e : Nat) : Int)) := c2
    have HR := Lib.hid (show ∀ w', Below w.heap.size w w' → StepRes w w' k b a (.returned (.tuple #[.agg #[.int .u8 0, .int .i64 0, .int .i64 0], .bool false, .int .i64 0, .int .i64 ((e : Nat) : Int)])) from fun w' hb => ⟨hb, by rw [hh]⟩)
    clear hh hgo hav hv hbk h5
    go_upto_region 9 with (fail)
    go_region
    go_wp2_with fail
    have kz := (((k5.set_ 0 (.int .u8 0)).set_ 1 (.int .i64 0)).set_ 2 (.int .i64 0))
    have cz2 := Blk.cells kz
    have gz : w5.grownBy (((w5.setCell ⟨gt, 0, none⟩ (.int .u8 0)).setCell ⟨gt, 1, none⟩ (.int .i64 0)).setCell ⟨gt, 2, none⟩ (.int .i64 0)) (some gt) := only_set (only_set (only_set (only_self _ _) 0 _) 1 _) 2 _
    refine bodyPost_ret (v := .tuple #[.agg #[.int .u8 0, .int .i64 0, .int .i64 0], .bool false, .int .i64 0, .int .i64 ((e : Nat) : Int)]) (by simp [results, Tryz.results44, go_sem, cz2]) rfl ?_
    exact HR.out _ (Below.then_only hb5 gz hb5.size hgtw).drew
  | ok r =>
    obtain ⟨t, m⟩ := r
    have hgo := rsGo_ok hh
    rw [hgo] at c2 h5
    have hm1 : av = m := hav m hgo
    have htt := hv a t m rfl hh
    have HR := Lib.hid (show ∀ w', Below w.heap.size w w' → StepRes w w' k b a (.returned (.tuple #[.agg #[.int .u8 ((t.lit : Nat) : Int), .int .i64 ((t.dist : Nat) : Int), .int .i64 ((t.long : Nat) : Int)], .bool t.fin, .int .i64 ((m : Nat) : Int), .int .i64 0])) from fun w' hb => ⟨hb, by rw [hh]⟩)
    clear hh hgo hav hv hbk h5
    subst hm1 htt
    go_upto_region 10 with (fail)
    go_region
    go_wp2_with fail
    have kz := (((k5.set_ 0 (.int .u8 (lit : Int))).set_ 1 (.int .i64 (dist : Int))).set_ 2 (.int .i64 (long : Int)))
    have cz2 := Blk.cells kz
    have gz : w5.grownBy (((w5.setCell ⟨gt, 0, none⟩ (.int .u8 (lit : Int))).setCell ⟨gt, 1, none⟩ (.int .i64 (dist : Int))).setCell ⟨gt, 2, none⟩ (.int .i64 (long : Int))) (some gt) := only_set (only_set (only_set (only_self _ _) 0 _) 1 _) 2 _
    refine bodyPost_ret (v := .tuple #[.agg #[.int .u8 (lit : Int), .int .i64 (dist : Int), .int .i64 (long : Int)], .bool fin, .int .i64 ((m : Nat) : Int), .int .i64 0]) (by simp [results, Tryz.results44, go_sem, cz2]) rfl ?_
    exact HR.out _ (Below.then_only hb5 gz hb5.size hgtw).drew
end Go.Proofs.YtahboomghjdjhaaGreat

/-
  A stream under way in memory.
-/
namespace Go.Proofs.YtahboomghjdjhaaGreat
open Go.RowKit

/-- A stream's cells. -/
def stH (most made : Int) (inV : Value) (at0 : Int) (bk : Nat → Value) (op : Bool) (winV : Value) (over : Bool) (bV : Value) (at_ : Int) (toldV : Value) (i : Nat) : Value :=
  if i < 4 then (if i = 0 then .int .i64 most else if i = 1 then .int .i64 made else if i = 2 then inV else .int .i64 at0) else if i < 41 then bk (i - 4) else if i = 41 then .bool op else if i = 42 then .int .i64 32768 else if i = 43 then winV else if i = 44 then .bool over else if i = 45 then bV else if i = 46 then .int .i64 at_ else toldV
section
variable {most made : Int} {inV : Value} {at0 : Int} {bk : Nat → Value} {op : Bool} {winV : Value} {over : Bool} {bV : Value} {at_ : Int} {toldV : Value}
theorem stH_at (x : Int) (i : Nat) : (if i = 46 then Value.int .i64 x else stH most made inV at0 bk op winV over bV at_ toldV i) = stH most made inV at0 bk op winV over bV x toldV i := by
  by_cases h : i = 46
  · subst h; rfl
  · rw [if_neg h]; unfold stH; (repeat' split) <;> first | rfl | omega
theorem stH_made (x : Int) (i : Nat) : (if i = 1 then Value.int .i64 x else stH most made inV at0 bk op winV over bV at_ toldV i) = stH most x inV at0 bk op winV over bV at_ toldV i := by
  by_cases h : i = 1
  · subst h; rfl
  · rw [if_neg h]; unfold stH; (repeat' split) <;> first | rfl | omega
theorem stH_told (x : Value) (i : Nat) (hi : i < 48) : (if i = 47 then x else stH most made inV at0 bk op winV over bV at_ toldV i) = stH most made inV at0 bk op winV over bV at_ x i := by
  by_cases h : i = 47
  · subst h; rfl
  · rw [if_neg h]; unfold stH; (repeat' split) <;> first | rfl | omega
theorem stH_over (x : Bool) (i : Nat) : (if i = 44 then Value.bool x else stH most made inV at0 bk op winV over bV at_ toldV i) = stH most made inV at0 bk op winV x bV at_ toldV i := by
  by_cases h : i = 44
  · subst h; rfl
  · rw [if_neg h]; unfold stH; (repeat' split) <;> first | rfl | omega
theorem stH_open (x : Bool) (i : Nat) : (if i = 41 then Value.bool x else stH most made inV at0 bk op winV over bV at_ toldV i) = stH most made inV at0 bk x winV over bV at_ toldV i := by
  by_cases h : i = 41
  · subst h; rfl
  · rw [if_neg h]; unfold stH; (repeat' split) <;> first | rfl | omega
theorem stH_win (x : Value) (i : Nat) : (if i = 43 then x else stH most made inV at0 bk op winV over bV at_ toldV i) = stH most made inV at0 bk op x over bV at_ toldV i := by
  by_cases h : i = 43
  · subst h; rfl
  · rw [if_neg h]; unfold stH; (repeat' split) <;> first | rfl | omega
theorem stH_in (x : Value) (i : Nat) : (if i = 2 then x else stH most made inV at0 bk op winV over bV at_ toldV i) = stH most made x at0 bk op winV over bV at_ toldV i := by
  by_cases h : i = 2
  · subst h; rfl
  · rw [if_neg h]; unfold stH; (repeat' split) <;> first | rfl | omega
theorem stH_at0 (x : Int) (i : Nat) : (if i = 3 then Value.int .i64 x else stH most made inV at0 bk op winV over bV at_ toldV i) = stH most made inV x bk op winV over bV at_ toldV i := by
  by_cases h : i = 3
  · subst h; rfl
  · rw [if_neg h]; unfold stH; (repeat' split) <;> first | rfl | omega
theorem stH_bk (k : Nat → Value) (i : Nat) : (if 4 ≤ i ∧ i < 4 + 37 then k (i - 4) else stH most made inV at0 bk op winV over bV at_ toldV i) = stH most made inV at0 k op winV over bV at_ toldV i := by
  by_cases h : 4 ≤ i ∧ i < 4 + 37
  · rw [if_pos h]; unfold stH; rw [if_neg (by omega), if_pos (by omega)]
  · rw [if_neg h]; unfold stH; (repeat' split) <;> first | rfl | omega
end

/-- Rows that may be read and stay: of the world at the beginning, or of the stream's own. -/
def TrSt (W w : World) (C : Option Addr) (m d : Nat) (xs : List Int) : Prop := m = xs.length ∧ m ≤ d ∧ (Rd W C (ints xs) ∨ TrOk w W.heap.size C m d xs)
theorem TrSt.nil (W w : World) : TrSt W w none 0 0 [] := ⟨rfl, Nat.le_refl _, .inl Rd.nil_⟩
/-- The block that is open, or the zero one. -/
def bkO (k : Option Bk) (v1 v2 : Value) : Nat → Value := match k with
  | none => bkH 0 false 0 (fun _ => 0) v1 (fun _ => 0) v2
  | some k => bkC k v1 v2
/-- Where a stream's rows lie. -/
structure Sv where
  C1 : Option Addr
  m1 : Nat
  d1 : Nat
  C2 : Option Addr
  m2 : Nat
  d2 : Nat
  A : Option Addr
  nl : Nat
  cl : Nat
  D : Option Addr
  nt : Nat
  ct : Nat
/-- What does not turn: the limit, what was made ahead, what the stream held of bits, the bytes. -/
structure Sc where
  most : Nat
  m0 : Nat
  inV : Value
  at0 : Int
  B : Option Addr
  n : Nat
  c : Nat
abbrev svF (q : Sc) (s : Ss) (v : Sv) : Nat → Value := stH (q.most : Int) ((q.m0 + s.told.length : Nat) : Int) q.inV q.at0 (bkO s.k (.slice v.C1 v.m1 v.d1) (.slice v.C2 v.m2 v.d2)) s.k.isSome (.slice v.A v.nl v.cl) s.over (.slice q.B q.n q.c) (s.a : Int) (.slice v.D v.nt v.ct)
/-- A stream under way, in memory. -/
structure StrB (W w : World) (sb : Nat) (q : Sc) (s : Ss) (v : Sv) : Prop where
  only : Below W.heap.size W w
  arr : Arr w sb 53 48 (svF q s v)
  tr : ∀ k, s.k = some k → TrSt W w v.C1 v.m1 v.d1 (trX k k.lo) ∧ TrSt W w v.C2 v.m2 v.d2 (trX k k.fa)
  tr0 : s.k = none → TrSt W w v.C1 v.m1 v.d1 [] ∧ TrSt W w v.C2 v.m2 v.d2 []
  win : w.ownsRow W.heap.size 5 1 (.slice v.A v.nl v.cl) v.nl (u8s s.win)
  nl_ : v.nl = s.win.length
  cl_ : v.nl ≤ v.cl
  told : w.ownsRow W.heap.size 5 1 (.slice v.D v.nt v.ct) v.nt (u8s s.told)
  nt_ : v.nt = s.told.length
  apart : ∀ g, (Value.slice v.D v.nt v.ct).ownBlock = some g → (Value.slice v.A v.nl v.cl).ownBlock ≠ some g
/-- .. what holds of its numbers and bytes. -/
structure StrP (W : World) (sb : Nat) (q : Sc) (room : Nat) (b w0 : List Nat) (s : Ss) : Prop where
  ge : W.heap.size ≤ sb
  rd : Rd W q.B (u8s b)
  byte : ∀ x ∈ b, x < 256
  len : q.n = b.length
  cap : q.n ≤ q.c
  max : q.n ≤ 100000
  ok : SsOk b s
  inv : SsInv room w0 s
  wb : ∀ x ∈ w0, x < 256
  room_ : q.m0 + room = q.most
  most_ : q.most ≤ 131072
theorem StrP.one {W : World} {sb : Nat} {q : Sc} {room : Nat} {b w0 : List Nat} {s s' : Ss} (h : StrP W sb q room b w0 s) (h1 : oneS room b s = .ok s') : StrP W sb q room b w0 s' :=
  ⟨h.ge, h.rd, h.byte, h.len, h.cap, h.max, (one_ok h.ok h1).1, one_inv h.wb h.inv h1, h.wb, h.room_, h.most_⟩

section
variable {W w w' : World} {sb : Nat} {q : Sc} {s : Ss} {v : Sv}
theorem TrOk.more {base : Nat} {C : Option Addr} {m d : Nat} {xs : List Int} {cs : Array Value} (h : TrOk w base C m d xs) (k : Blk w sb 53 cs) (g : w.grownBy w' (some sb)) : TrOk w' base C m d xs := ⟨own_only h.own k (by decide) g, h.len, h.max⟩
theorem TrSt.more {C : Option Addr} {m d : Nat} {xs : List Int} {cs : Array Value} (h : TrSt W w C m d xs) (k : Blk w sb 53 cs) (g : w.grownBy w' (some sb)) : TrSt W w' C m d xs := ⟨h.1, h.2.1, h.2.2.elim .inl fun o => .inr (o.more k g)⟩
theorem TrSt.rd {C : Option Addr} {m d : Nat} {xs : List Int} (h : TrSt W w C m d xs) (hb : Below W.heap.size W w) : Rd w C (ints xs) := h.2.2.elim (fun r => r.below hb) fun o => own_rd o.own
theorem StrB.win' (h : StrB W w sb q s v) (g : w.grownBy w' (some sb)) : w'.ownsRow W.heap.size 5 1 (.slice v.A v.nl v.cl) v.nl (u8s s.win) := own_only h.win h.arr (by decide) g
theorem StrB.told' (h : StrB W w sb q s v) (g : w.grownBy w' (some sb)) : w'.ownsRow W.heap.size 5 1 (.slice v.D v.nt v.ct) v.nt (u8s s.told) := own_only h.told h.arr (by decide) g
theorem StrB.only' (h : StrB W w sb q s v) (hge : W.heap.size ≤ sb) (g : w.grownBy w' (some sb)) : Below W.heap.size W w' := Below.then_only h.only g h.only.size hge
/-- .. where all but new blocks stands. -/
theorem StrB.below (h : StrB W w sb q s v) (hge : W.heap.size ≤ sb) (hb : Below w.heap.size w w') : StrB W w' sb q s v :=
  have g := only_of_below (row := some sb) hb
  ⟨h.only' hge g, Arr.below h.arr hb (Blk.lt h.arr), fun k hk => ⟨(h.tr k hk).1.more h.arr g, (h.tr k hk).2.more h.arr g⟩, fun hk => ⟨(h.tr0 hk).1.more h.arr g, (h.tr0 hk).2.more h.arr g⟩, h.win' g, h.nl_, h.cl_, h.told' g, h.nt_, h.apart⟩
/-- What a step answers. -/
def SOne (W w' : World) (sb : Nat) (q : Sc) (s : Ss) (o : Except Nat Ss) (r : Ending) : Prop := match o with
  | .error e => r = .returned (.int .i64 ((e : Nat) : Int)) ∧ Below W.heap.size W w' ∧ (e = 10 → ∃ v, StrB W w' sb q s v)
  | .ok s' => r = .returned (.int .i64 0) ∧ ∃ v, StrB W w' sb q s' v
end
end Go.Proofs.YtahboomghjdjhaaGreat

/-
  Walks: two blocks compared; a zero block.
-/
namespace Go.Proofs.YtahboomghjdjhaaGreat
open Go.RowKit

/-- A block held as a value, where its rows lie, what they hold. -/
structure Bv where
  kind : Nat
  last : Bool
  left : Int
  f1 : Nat → Int
  C1 : Option Addr
  m1 : Nat
  d1 : Nat
  x1 : List Int
  f2 : Nat → Int
  C2 : Option Addr
  m2 : Nat
  d2 : Nat
  x2 : List Int
structure Bv.ok (v : Bv) (w : World) : Prop where
  r1 : Rd w v.C1 (ints v.x1)
  l1 : v.m1 = v.x1.length
  c1 : v.m1 ≤ v.d1
  b1 : v.m1 ≤ 1001
  r2 : Rd w v.C2 (ints v.x2)
  l2 : v.m2 = v.x2.length
  c2 : v.m2 ≤ v.d2
  b2 : v.m2 ≤ 1001
theorem Bv.ok.below {v : Bv} {w w' : World} (h : v.ok w) (hb : Below w.heap.size w w') : v.ok w' := ⟨h.r1.below hb, h.l1, h.c1, h.b1, h.r2.below hb, h.l2, h.c2, h.b2⟩
abbrev Bv.F (v : Bv) : Nat → Value := bkH (v.kind : Int) v.last v.left v.f1 (.slice v.C1 v.m1 v.d1) v.f2 (.slice v.C2 v.m2 v.d2)
def sameV (a b : Bv) : Bool := decide (a.kind = b.kind) && ((a.last == b.last) && (decide (a.left = b.left) && (sameT a.f1 b.f1 a.x1 b.x1 && sameT a.f2 b.f2 a.x2 b.x2)))
def zeroV : Bv := ⟨0, false, 0, fun _ => 0, none, 0, 0, [], fun _ => 0, none, 0, 0, []⟩
theorem zeroV_ok (w : World) : zeroV.ok w := ⟨Rd.nil_, rfl, Nat.le_refl _, by decide, Rd.nil_, rfl, Nat.le_refl _, by decide⟩

set_option maxRecDepth 100000 in
set_option maxHeartbeats 8000000 in
theorem ssame_any (a b : Bv) (w : World) (ha : a.ok w) (hb : b.ok w) :
    Calls Tryz.prog 27 #[.agg (cellsOf 37 a.F), .agg (cellsOf 37 b.F)] w fun r w' => r = .returned (.bool (sameV a b)) ∧ Below w.heap.size w w' := by
  have H1 := Lib.hid fun wx (h : Below w.heap.size w wx) => (show Calls Tryz.prog 39 #[.agg (cellsOf 17 (treeH a.f1 (.slice a.C1 a.m1 a.d1))), .agg (cellsOf 17 (treeH b.f1 (.slice b.C1 b.m1 b.d1)))] wx _ from tsame_any a.f1 b.f1 a.C1 b.C1 a.m1 a.d1 b.m1 b.d1 a.x1 b.x1 wx (ha.r1.below h) (hb.r1.below h) ha.l1 hb.l1 ha.b1 hb.b1)
  have H2 := Lib.hid fun wx (h : Below w.heap.size w wx) => (show Calls Tryz.prog 39 #[.agg (cellsOf 17 (treeH a.f2 (.slice a.C2 a.m2 a.d2))), .agg (cellsOf 17 (treeH b.f2 (.slice b.C2 b.m2 b.d2)))] wx _ from tsame_any a.f2 b.f2 a.C2 b.C2 a.m2 a.d2 b.m2 b.d2 a.x2 b.x2 wx (ha.r2.below h) (hb.r2.below h) ha.l2 hb.l2 ha.b2 hb.b2)
  clear ha hb
  obtain ⟨ka, la, fa, a1, A1, am1, ad1, ax1, a2, A2, am2, ad2, ax2⟩ := a
  obtain ⟨kb, lb, fb, b1, B1, bm1, bd1, bx1, b2, B2, bm2, bd2, bx2⟩ := b
  dsimp only at H1 H2
  obtain ⟨s1, hs1⟩ : ∃ s, sameT a1 b1 ax1 bx1 = s := ⟨_, rfl⟩
  obtain ⟨s2, hs2⟩ : ∃ s, sameT a2 b2 ax2 bx2 = s := ⟨_, rfl⟩
  rw [hs1] at H1
  rw [hs2] at H2
  have HS : sameV ⟨ka, la, fa, a1, A1, am1, ad1, ax1, a2, A2, am2, ad2, ax2⟩ ⟨kb, lb, fb, b1, B1, bm1, bd1, bx1, b2, B2, bm2, bd2, bx2⟩ = (decide (ka = kb) && ((la == lb) && (decide (fa = fb) && (s1 && s2)))) := by unfold sameV; rw [hs1, hs2]
  rw [HS]
  clear HS hs1 hs2
  obtain ⟨RR, hRR⟩ : ∃ R, (decide (ka = kb) && ((la == lb) && (decide (fa = fb) && (s1 && s2)))) = R := ⟨_, rfl⟩
  rw [hRR]
  have HRR := Lib.hid hRR
  clear hRR
  unfold Bv.F
  dsimp only
  have hb0 : Below w.heap.size w ((w.alloc (.cells (cellsOf 37 (bkH (ka : Int) la fa a1 (.slice A1 am1 ad1) a2 (.slice A2 am2 ad2))) 28)).alloc (.cells (cellsOf 37 (bkH (kb : Int) lb fb b1 (.slice B1 bm1 bd1) b2 (.slice B2 bm2 bd2))) 28)) := ((Below.refl _ _).alloc (Nat.le_refl _) _).alloc (by simp) _
  have k0 : BkAt ((w.alloc (.cells (cellsOf 37 (bkH (ka : Int) la fa a1 (.slice A1 am1 ad1) a2 (.slice A2 am2 ad2))) 28)).alloc (.cells (cellsOf 37 (bkH (kb : Int) lb fb b1 (.slice B1 bm1 bd1) b2 (.slice B2 bm2 bd2))) 28)) w.heap.size ka la fa a1 (.slice A1 am1 ad1) a2 (.slice A2 am2 ad2) := Arr.alloc (Blk.new _ _ _) _
  have k1 : BkAt ((w.alloc (.cells (cellsOf 37 (bkH (ka : Int) la fa a1 (.slice A1 am1 ad1) a2 (.slice A2 am2 ad2))) 28)).alloc (.cells (cellsOf 37 (bkH (kb : Int) lb fb b1 (.slice B1 bm1 bd1) b2 (.slice B2 bm2 bd2))) 28)) (w.heap.size + 1) kb lb fb b1 (.slice B1 bm1 bd1) b2 (.slice B2 bm2 bd2) := Blk.new' _ _ _ _ (by simp)
  go_enter Tryz.func27, Tryz.ntmps27
  go_upto_region 1 with (fail)
  change Code.wp _ _ _ _ ((w.alloc (.cells (cellsOf 37 (bkH (ka : Int) la fa a1 (.slice A1 am1 ad1) a2 (.slice A2 am2 ad2))) 28)).alloc (.cells (cellsOf 37 (bkH (kb : Int) lb fb b1 (.slice B1 bm1 bd1) b2 (.slice B2 bm2 bd2))) 28))
  generalize (w.alloc (.cells (cellsOf 37 (bkH (ka : Int) la fa a1 (.slice A1 am1 ad1) a2 (.slice A2 am2 ad2))) 28)).alloc (.cells (cellsOf 37 (bkH (kb : Int) lb fb b1 (.slice B1 bm1 bd1) b2 (.slice B2 bm2 bd2))) 28) = w0 at *
  obtain ⟨ga, hga⟩ : ∃ g, w.heap.size = g := ⟨_, rfl⟩
  obtain ⟨gb, hgb⟩ : ∃ g, w.heap.size + 1 = g := ⟨_, rfl⟩
  rw [hgb] at k1
  rw [hgb]
  have HG := Lib.hid (And.intro hga hgb)
  clear hga hgb
  have c0 : w0.cell? ⟨w.heap.size, 0, none⟩ = some (.int .u8 (ka : Int)) := Arr.cell k0 0 (by omega)
  have c1 : w0.cell? ⟨w.heap.size, 1, none⟩ = some (.bool la) := Arr.cell k0 1 (by omega)
  have c2 : w0.cell? ⟨w.heap.size, 2, none⟩ = some (.int .i64 fa) := Arr.cell k0 2 (by omega)
  have d0 : w0.cell? ⟨gb, 0, none⟩ = some (.int .u8 (kb : Int)) := Arr.cell k1 0 (by omega)
  have d1 : w0.cell? ⟨gb, 1, none⟩ = some (.bool lb) := Arr.cell k1 1 (by omega)
  have d2 : w0.cell? ⟨gb, 2, none⟩ = some (.int .i64 fb) := Arr.cell k1 2 (by omega)
  by_cases h1 : ka = kb
  · subst h1
    by_cases h2 : la = lb
    · subst h2
      have e2 : (la == la) = true := by simp
      by_cases h3 : fa = fb
      · subst h3
        have HR := Lib.hid (show RR = (s1 && s2) by rw [← HRR.out]; simp)
        clear HRR
        cases s1 with
        | false =>
          go_wp2_with (first
            | (refine load_subG (by rfl) 26 (.tmp 27) rfl rfl k1 17 (by omega) tree_under rfl tree_size (treeH b1 (.slice B1 bm1 bd1)) (fun i hi => bkH_t1 _ _ _ _ _ _ _ i hi) ?_)
            | (refine load_subG (by rfl) 26 (.tmp 25) rfl rfl k0 17 (by omega) tree_under rfl tree_size (treeH a1 (.slice A1 am1 ad1)) (fun i hi => bkH_t1 _ _ _ _ _ _ _ i hi) ?_)
            | (go_at_call 39; refine (H1.out _ hb0).mono ?_; rintro e w2 ⟨rfl, h2⟩; have kk0 := Arr.below k0 h2 (Blk.lt k0); have kk1 := Arr.below k1 h2 (Blk.lt k1); have hh2 := hb0.trans (h2.mono hb0.size)))
          go_ret
          exact ⟨by rw [HR.out] <;> rfl, hh2⟩
        | true =>
          go_wp2_with (first
            | (refine load_subG (by rfl) 26 (.tmp 34) rfl rfl kk1 17 (by omega) tree_under rfl tree_size (treeH b2 (.slice B2 bm2 bd2)) (fun i hi => bkH_t2 _ _ _ _ _ _ _ i hi) ?_)
            | (refine load_subG (by rfl) 26 (.tmp 32) rfl rfl kk0 17 (by omega) tree_under rfl tree_size (treeH a2 (.slice A2 am2 ad2)) (fun i hi => bkH_t2 _ _ _ _ _ _ _ i hi) ?_)
            | (refine load_subG (by rfl) 26 (.tmp 27) rfl rfl k1 17 (by omega) tree_under rfl tree_size (treeH b1 (.slice B1 bm1 bd1)) (fun i hi => bkH_t1 _ _ _ _ _ _ _ i hi) ?_)
            | (refine load_subG (by rfl) 26 (.tmp 25) rfl rfl k0 17 (by omega) tree_under rfl tree_size (treeH a1 (.slice A1 am1 ad1)) (fun i hi => bkH_t1 _ _ _ _ _ _ _ i hi) ?_)
            | (go_at_call 39; refine (H2.out _ hh2).mono ?_; rintro e w3 ⟨rfl, h3⟩; have hh3 := hh2.trans (h3.mono hh2.size))
            | (go_at_call 39; refine (H1.out _ hb0).mono ?_; rintro e w2 ⟨rfl, h2⟩; have kk0 := Arr.below k0 h2 (Blk.lt k0); have kk1 := Arr.below k1 h2 (Blk.lt k1); have hh2 := hb0.trans (h2.mono hb0.size)))
          go_ret
          exact ⟨by rw [HR.out] <;> rfl, hh3⟩
      · have e3 : (fa == fb) = false := by rw [beq_eq_false_iff_ne]; exact h3
        have HR := Lib.hid (show RR = false by rw [← HRR.out]; rw [decide_eq_false h3]; simp)
        go_wp2_with fail
        go_ret
        exact ⟨by rw [HR.out] <;> rfl, hb0⟩
    · have e2 : (la == lb) = false := by rw [beq_eq_false_iff_ne]; exact h2
      have HR := Lib.hid (show RR = false by rw [← HRR.out]; rw [e2]; simp)
      go_wp2_with fail
      go_ret
      exact ⟨by rw [HR.out] <;> rfl, hb0⟩
  · have e1 : ((ka : Int) == (kb : Int)) = false := by rw [beq_eq_false_iff_ne]; omega
    have HR := Lib.hid (show RR = false by rw [← HRR.out]; rw [decide_eq_false h1]; rfl)
    go_wp2_with fail
    go_ret
    exact ⟨by rw [HR.out] <;> rfl, hb0⟩
end Go.Proofs.YtahboomghjdjhaaGreat

/-
  Walks: swell.New.
-/
namespace Go.Proofs.YtahboomghjdjhaaGreat
open Go.RowKit

theorem results_two {P : Program} {fn : Func} {p s1 : Tmp} {ty : TypeId} (h : fn.results = #[.cell p ty, .tmp s1]) (tmps : Array Value) (w : World) (g : Nat) (t : TypeId) (cs : Array Value) (v1 : Value) (d : TypeDesc)
    (hp : tmps.getD p undef = .pointer (some ⟨g, 0, none⟩)) (h1 : tmps.getD s1 undef = v1) (hg : Blk w g t cs)
    (hu : P.underlying ty = some d) (hd : (match d with | .struct _ | .array _ _ => true | _ => false) = true) (hi : (P.info? ty).map (·.size) = some cs.size) :
    (results fn tmps).run P w = .ok (.tuple #[.agg cs, v1]) w := by
  have hp' : tmps[p]?.getD undef = .pointer (some ⟨g, 0, none⟩) := by simpa using hp
  have h1' : tmps[s1]?.getD undef = v1 := by simpa using h1
  simp [results, h, hp', h1', asAddr, run_loadVar_row w g t ty cs (0, 0) d hg hu hd hi]
/-- A stream's cells, held as a value. -/
def swH (most made : Int) (inV : Value) (at0 : Int) (bk : Nat → Value) (op : Bool) (size : Int) (winV : Value) (over : Bool) (i : Nat) : Value :=
  if i < 4 then (if i = 0 then .int .i64 most else if i = 1 then .int .i64 made else if i = 2 then inV else .int .i64 at0) else if i < 41 then bk (i - 4) else if i = 41 then .bool op else if i = 42 then .int .i64 size else if i = 43 then winV else .bool over
theorem sw_size : (Tryz.prog.info? 32).map (·.size) = some 45 := by kernel_rfl
theorem swH_one (most made : Int) (A1 : Option Addr) (n1 c1 : Nat) (at0 : Int) (bk : Bv) (op : Bool) (size : Int) (A2 : Option Addr) (n2 c2 : Nat) (over : Bool) (i : Nat) : (swH most made (.slice A1 n1 c1) at0 bk.F op size (.slice A2 n2 c2) over i).oneCell' = true := by
  unfold swH
  (repeat' split) <;> first | rfl | exact bkH_one _ _ _ _ _ _ _ _ _ _ _ _
abbrev swZ : Nat → Value := swH 0 0 (.slice none 0 0) 0 zeroV.F false 0 (.slice none 0 0) false
abbrev swN (most : Int) : Nat → Value := swH most 0 (.slice none 0 0) 0 zeroV.F false 32768 (.slice none 0 0) false
/-- What New answers. -/
def NewRes (w w' : World) (most : Int) (r : Ending) : Prop := Below w.heap.size w w' ∧ r = .returned (.tuple #[.agg (cellsOf 45 (if 0 ≤ most ∧ most ≤ 131072 then swN most else swZ)), .int .i64 ((if 0 ≤ most ∧ most ≤ 131072 then 0 else 2 : Nat) : Int)])

set_option maxRecDepth 100000 in
set_option maxHeartbeats 4000000 in
theorem snew_any (most : Int) (w : World) : Calls Tryz.prog 6 #[.int .i64 most] w fun r w' => NewRes w w' most r := by
  have hb0 : Below w.heap.size w (w.alloc (.cells (cellsOf 45 swZ) 32)) := (Below.refl _ _).alloc (Nat.le_refl _) _
  have k0 : Arr (w.alloc (.cells (cellsOf 45 swZ) 32)) w.heap.size 32 45 swZ := Blk.new _ _ _
  go_enter Tryz.func6, Tryz.ntmps6
  go_upto_region 1 with (fail)
  change Code.wp _ _ _ _ (w.alloc (.cells (cellsOf 45 swZ) 32))
  generalize w.alloc (.cells (cellsOf 45 swZ) 32) = w0 at *
  by_cases h1 : most < 0
  · have HR := Lib.hid (show ∀ w', Below w.heap.size w w' → NewRes w w' most (.returned (.tuple #[.agg (cellsOf 45 swZ), .int .i64 2])) from fun w' hb => ⟨hb, by rw [if_neg (by omega), if_neg (by omega)]; rfl⟩)
    have e1 : decide (most < 0) = true := decide_eq_true h1
    go_wp2_with (refine store_over rfl 32 (.tmp 2) (.tmp 10) (f := swZ) rfl rfl rfl k0 sw_size (fun i _ => swH_one _ _ _ _ _ _ _ _ _ _ _ _ _ i) ?_; intro w3 k3 g3)
    refine bodyPost_ret (results_two Tryz.results6 _ _ w.heap.size 32 _ _ _ rfl rfl k3 Tryz.underlying32 rfl (by rw [cellsOf_size]; exact sw_size)) rfl ?_
    exact HR.out _ (Below.then_only hb0 g3 hb0.size (Nat.le_refl _))
  · have e1 : decide (most < 0) = false := decide_eq_false h1
    by_cases h2 : 131072 < most
    · have HR := Lib.hid (show ∀ w', Below w.heap.size w w' → NewRes w w' most (.returned (.tuple #[.agg (cellsOf 45 swZ), .int .i64 2])) from fun w' hb => ⟨hb, by rw [if_neg (by omega), if_neg (by omega)]; rfl⟩)
      have e2 : decide (131072 < most) = true := decide_eq_true h2
      go_wp2_with (refine store_over rfl 32 (.tmp 2) (.tmp 10) (f := swZ) rfl rfl rfl k0 sw_size (fun i _ => swH_one _ _ _ _ _ _ _ _ _ _ _ _ _ i) ?_; intro w3 k3 g3)
      refine bodyPost_ret (results_two Tryz.results6 _ _ w.heap.size 32 _ _ _ rfl rfl k3 Tryz.underlying32 rfl (by rw [cellsOf_size]; exact sw_size)) rfl ?_
      exact HR.out _ (Below.then_only hb0 g3 hb0.size (Nat.le_refl _))
    · have HR := Lib.hid (show ∀ w', Below w.heap.size w w' → NewRes w w' most (.returned (.tuple #[.agg (cellsOf 45 (swN most)), .int .i64 0])) from fun w' hb => ⟨hb, by rw [if_pos (by omega), if_pos (by omega)]; rfl⟩)
      have e2 : decide (131072 < most) = false := decide_eq_false h2
      go_wp2_with (refine store_over rfl 32 (.tmp 2) (.tmp 13) (f := swN most) rfl rfl rfl k0 sw_size (fun i _ => swH_one _ _ _ _ _ _ _ _ _ _ _ _ _ i) ?_; intro w3 k3 g3)
      refine bodyPost_ret (results_two Tryz.results6 _ _ w.heap.size 32 _ _ _ rfl rfl k3 Tryz.underlying32 rfl (by rw [cellsOf_size]; exact sw_size)) rfl ?_
      exact HR.out _ (Below.then_only hb0 g3 hb0.size (Nat.le_refl _))
end Go.Proofs.YtahboomghjdjhaaGreat

/-
  Walks: a stream's window and place.
-/
namespace Go.Proofs.YtahboomghjdjhaaGreat
open Go.RowKit

theorem wraps_q (q : Nat) (h : q ≤ 100000) : wrap64 ((q : Int)) = (q : Int) ∧ wrap64 ((q : Int) + 600) = (q : Int) + 600 ∧ wrap64 ((q : Int) + 600 + 8) = (q : Int) + 600 + 8 :=
  ⟨IntWalk.wrap64_in _ (by omega), IntWalk.wrap64_in _ (by omega), IntWalk.wrap64_in _ (by omega)⟩
theorem size_u8w : (Tryz.prog.info? 5).map (·.size) = some 1 := by kernel_rfl
section
variable {P : Program}
/-- 's[lo:hi]'. -/
theorem run_cut {t e : TypeId} (ht : P.underlying t = some (.slice e)) (hs : (P.info? e).map (·.size) = some 1) {A : Option Addr} {n c : Nat} {i j : Int} (lo hi : Nat) (hi1 : i = (lo : Int)) (hj : j = (hi : Int)) (h1 : lo ≤ hi) (h2 : hi ≤ c) :
    ∃ A', (∀ w, (Instr.slice t (.slice A n c) (some (.int .i64 i)) (some (.int .i64 j)) none).run P w = .ok (.slice A' (hi - lo) (c - lo)) w) ∧ ∀ (w : World) (xs : List Value), Rd w A xs → Rd w A' ((xs.drop lo).take (hi - lo)) := by
  subst hi1 hj
  have hsz : ∀ w, (sizeOf e).run P w = .ok 1 w := fun w => by
    cases hq : P.info? e with
    | none => simp [hq] at hs
    | some ti =>
      have : ti.size = 1 := by simpa [hq] using hs
      simp [sizeOf, typeInfo, hq, this]
  by_cases hc : c = lo
  · refine ⟨A, fun w => ?_, ?_⟩
    · have hnk : hi = lo := by omega
      subst hnk hc
      simp [Instr.slice, run_underlying ht, Instr.sliceBounds, run_sliceBound, hsz]
    · intro w xs hr
      rw [show hi - lo = 0 by omega, List.take_zero]
      exact ⟨fun hn => by simp at hn, fun _ => rfl⟩
  · refine ⟨A.map (fun x => x.add lo), fun w => ?_, fun w xs hr => (hr.drop _).take _⟩
    simp [Instr.slice, run_underlying ht, Instr.sliceBounds, run_sliceBound, hsz, h1, h2]
    intro h
    omega
theorem run_cutO {t e : TypeId} {o : Oper} {a : Act} {w : World} (x lo hi : Operand) (ho : o.op = .slice t x (some lo) (some hi) none) (ht : P.underlying t = some (.slice e)) {A : Option Addr} {n c : Nat} {i j : Int} (hx : a.eval x = .slice A n c) (hlo : a.eval lo = .int .i64 i) (hhi : a.eval hi = .int .i64 j) {v : Value}
    (h : (Instr.slice t (.slice A n c) (some (.int .i64 i)) (some (.int .i64 j)) none).run P w = .ok v w) : (execOp a.eval o).run P w = .ok (.value v) w := by
  unfold execOp
  simp only [ho, hx, hlo, hhi, Option.map_some, Option.map_none, Instr.sliceAt, run_underlying ht, h, Sem.run_bind, Sem.run_pure, Result.andThen_ok]
end

set_option maxRecDepth 100000 in
set_option maxHeartbeats 400000 in
theorem swin_any (W w : World) (sb room : Nat) (b w0 : List Nat) (q : Sc) (s : Ss) (v : Sv) (hB : StrB W w sb q s v) (hP : StrP W sb q room b w0 s) :
    Calls Tryz.prog 41 #[.pointer (some ⟨sb, 0, none⟩)] w fun r w' => ∃ B' c', r = .returned (.tuple #[.slice B' (winB b s.a).length c', .int .i64 ((s.a % 8 : Nat) : Int)]) ∧ Rd w' B' (u8s (winB b s.a)) ∧ Below w.heap.size w w' := by
  have k0 := hB.arr
  obtain ⟨most, m0, inV, at0, B, n, c⟩ := q
  have c45 : w.cell? ⟨sb, 45, none⟩ = some (.slice B n c) := Arr.cell k0 45 (by omega)
  have c46 : w.cell? ⟨sb, 46, none⟩ = some (.int .i64 (s.a : Int)) := Arr.cell k0 46 (by omega)
  have hat := hP.ok.at_
  have hlen := hP.len
  have hmax := hP.max
  have hcap := hP.cap
  dsimp only at hlen hmax hcap
  obtain ⟨q, hq⟩ : ∃ q, s.a / 8 = q := ⟨_, rfl⟩
  have hqn : q ≤ n := by omega
  have e0 : ((s.a : Int) / 8) = (q : Int) := by omega
  have HW := Lib.hid (wraps_q q (by omega))
  obtain ⟨hi, hhi⟩ : ∃ hi, min n (q + 608) = hi := ⟨_, rfl⟩
  have hqh : q ≤ hi := by omega
  have hhn : hi ≤ n := by omega
  obtain ⟨A', hA', hRd⟩ := run_cut (P := Tryz.prog) (t := 22) Tryz.underlying22 size_u8w (A := B) (n := n) (c := c) (i := (q : Int)) (j := (hi : Int)) q hi rfl rfl hqh (by omega)
  have H := Lib.hid (And.intro hB hP)
  have HL := Lib.hid (And.intro hlen (And.intro hq hhi))
  have HRd := Lib.hid hRd
  have HE := Lib.hid (show wrap64 ((s.a : Int) / 8) = (q : Int) by rw [e0, HW.out.1])
  have HM := Lib.hid (show (if (q : Int) + 600 + 8 < (n : Int) then (q : Int) + 600 + 8 else (n : Int)) = ((hi : Nat) : Int) by split <;> omega)
  clear e0 hB hP hlen hq hhi hRd k0
  go_enter Tryz.func41, Tryz.ntmps41
  go_upto_region 2 with (fail)
  refine wp_region_turn (phase 1000 (fun w' => w' = w.drew) (fun w' => w' = w.drew)) (by kernel_rfl) (by kernel_rfl) (by kernel_rfl) (phase_new rfl) ?_
  refine turn_read (v := .pointer (some ⟨sb, 0, none⟩)) (by decide) rfl (fun wx h => ?_) (fun K hK => ?_)
  · go_simp
  go_simp
  refine hK _ ?_
  clear hK K
  refine turn_read (v := .pointer (some ⟨sb, 0, none⟩)) (by decide) rfl (fun wx h => ?_) (fun K hK => ?_)
  · go_simp
  go_simp
  refine hK _ ?_
  clear hK K
  refine turn_read (v := .pointer (some ⟨sb, 45, none⟩)) (by decide) rfl (fun wx h => ?_) (fun K hK => ?_)
  · go_simp
  go_simp
  refine hK _ ?_
  clear hK K
  refine turn_read (v := .slice B n c) (by decide) rfl (fun wx h => ?_) (fun K hK => ?_)
  · have cs : wx.cell? ⟨sb, 45, none⟩ = some (.slice B n c) := (h.elim id id) ▸ c45; go_simp
  go_simp
  refine hK _ ?_
  clear hK K
  refine turn_read (v := .int .i64 (q : Int)) (by decide) rfl (fun wx h => ?_) (fun K hK => ?_)
  · go_simp; exact HE.out
  go_simp
  refine hK _ ?_
  clear hK K
  refine turn_read (v := .pointer (some ⟨sb, 0, none⟩)) (by decide) rfl (fun wx h => ?_) (fun K hK => ?_)
  · go_simp
  go_simp
  refine hK _ ?_
  clear hK K
  refine turn_read (v := .pointer (some ⟨sb, 0, none⟩)) (by decide) rfl (fun wx h => ?_) (fun K hK => ?_)
  · go_simp
  go_simp
  refine hK _ ?_
  clear hK K
  refine turn_read (v := .pointer (some ⟨sb, 45, none⟩)) (by decide) rfl (fun wx h => ?_) (fun K hK => ?_)
  · go_simp
  go_simp
  refine hK _ ?_
  clear hK K
  refine turn_read (v := .slice B n c) (by decide) rfl (fun wx h => ?_) (fun K hK => ?_)
  · have cs : wx.cell? ⟨sb, 45, none⟩ = some (.slice B n c) := (h.elim id id) ▸ c45; go_simp
  go_simp
  refine hK _ ?_
  clear hK K
  refine turn_read (v := .int .i64 (n : Int)) (by decide) rfl (fun wx h => ?_) (fun K hK => ?_)
  · go_simp
  go_simp
  refine hK _ ?_
  clear hK K
  refine turn_read (v := .int .i64 (q : Int)) (by decide) rfl (fun wx h => ?_) (fun K hK => ?_)
  · go_simp; exact HE.out
  go_simp
  refine hK _ ?_
  clear hK K
  refine turn_read (v := .int .i64 ((q : Int) + 600)) (by decide) rfl (fun wx h => ?_) (fun K hK => ?_)
  · go_simp; exact (IntWalk.i64_left _).trans HW.out.2.1
  go_simp
  refine hK _ ?_
  clear hK K
  refine turn_read (v := .int .i64 ((q : Int) + 600 + 8)) (by decide) rfl (fun wx h => ?_) (fun K hK => ?_)
  · go_simp; exact (IntWalk.i64_left _).trans HW.out.2.2
  go_simp
  refine hK _ ?_
  clear hK K
  refine turn_read (v := .int .i64 ((hi : Nat) : Int)) (by decide) rfl (fun wx h => ?_) (fun K hK => ?_)
  · go_simp; exact HM.out
  go_simp
  refine hK _ ?_
  clear hK K
  refine turn_read (v := .slice A' (hi - q) (c - q)) (by decide) rfl (fun wx h => ?_) (fun K hK => ?_)
  · exact run_cutO (.tmp 13) (.tmp 14) (.tmp 23) rfl Tryz.underlying22 rfl rfl rfl (hA' wx)
  go_simp
  refine hK _ ?_
  clear hK K
  refine turn_read (v := .pointer (some ⟨sb, 0, none⟩)) (by decide) rfl (fun wx h => ?_) (fun K hK => ?_)
  · go_simp
  go_simp
  refine hK _ ?_
  clear hK K
  refine turn_read (v := .pointer (some ⟨sb, 0, none⟩)) (by decide) rfl (fun wx h => ?_) (fun K hK => ?_)
  · go_simp
  go_simp
  refine hK _ ?_
  clear hK K
  refine turn_read (v := .pointer (some ⟨sb, 46, none⟩)) (by decide) rfl (fun wx h => ?_) (fun K hK => ?_)
  · go_simp
  go_simp
  refine hK _ ?_
  clear hK K
  refine turn_read (v := .int .i64 (s.a : Int)) (by decide) rfl (fun wx h => ?_) (fun K hK => ?_)
  · have cs : wx.cell? ⟨sb, 46, none⟩ = some (.int .i64 (s.a : Int)) := (h.elim id id) ▸ c46; go_simp
  go_simp
  refine hK _ ?_
  clear hK K
  refine turn_read (v := .int .i64 ((s.a % 8 : Nat) : Int)) (by decide) rfl (fun wx h => ?_) (fun K hK => ?_)
  · go_simp; exact Int.tmod_eq_emod_of_nonneg (Int.natCast_nonneg _)
  go_simp
  refine hK _ ?_
  clear hK K
  refine turn_read (v := .slice A' (hi - q) (c - q)) (by decide) rfl (fun wx h => ?_) (fun K hK => ?_)
  · go_simp
  go_simp
  refine hK _ ?_
  clear hK K
  refine turn_read (v := .int .i64 ((s.a % 8 : Nat) : Int)) (by decide) rfl (fun wx h => ?_) (fun K hK => ?_)
  · go_simp
  go_simp
  refine hK _ ?_
  clear hK K
  refine turn_nil ?_
  intro L w4 hL hC
  have hw4 : w4 = w.drew := (phase_or hC).elim id id
  clear hC hL
  subst hw4
  go_wp2_with fail
  refine bodyPost_ret (v := .tuple #[.slice A' (hi - q) (c - q), .int .i64 ((s.a % 8 : Nat) : Int)]) (by simp [results, Tryz.results41, go_sem]) rfl ?_
  obtain ⟨h1, h2, h3⟩ := HL.out
  have hl : (winB b s.a).length = hi - q := by unfold winB; rw [List.length_take, List.length_drop]; omega
  refine ⟨A', c - q, by rw [hl], ?_, (Below.refl _ _).drew⟩
  have h5 := HRd.out w.drew _ (H.out.2.rd.below H.out.1.only).drew
  have e : ((u8s b).drop q).take (hi - q) = u8s (winB b s.a) := by
    unfold winB u8s
    rw [h2, ← List.map_drop, ← List.map_take]
    congr 1
    rw [List.take_eq_take_iff, List.length_drop]
    omega
  rwa [e] at h5

theorem swent_any (w : World) (sb : Nat) (a x y m : Nat) (F : Nat → Value) (k0 : Arr w sb 53 48 F) (hF : F 46 = .int .i64 (a : Int)) (hm : m + x = a + y) (hmx : a + x + y ≤ 10000000) :
    Calls Tryz.prog 43 #[.pointer (some ⟨sb, 0, none⟩), .int .i64 (x : Int), .int .i64 (y : Int)] w fun r w' => r = .returned (.tuple #[]) ∧ w' = w.setCell ⟨sb, 46, none⟩ (.int .i64 (m : Int)) := by
  have c46 : w.cell? ⟨sb, 46, none⟩ = some (.int .i64 (a : Int)) := (Arr.cell k0 46 (by omega)).trans (congrArg some hF)
  have f46 : w.frozen? ⟨sb, 46, none⟩ = false := Arr.free k0 46
  have e1 : wrap64 ((y : Int) - x) = (y : Int) - x := IntWalk.wrap64_in _ (by omega)
  have HM := Lib.hid hm
  have HX := Lib.hid hmx
  clear hm hF hmx
  go_enter Tryz.func43, Tryz.ntmps43
  go_wp2_with fail
  go_end0
  have h1 := HM.out
  have h2 := HX.out
  have e : wrap64 ((a : Int) + ((y : Int) - x)) = (m : Int) := by rw [IntWalk.wrap64_in _ (by omega)]; omega
  exact ⟨rfl, by rw [e]⟩
end Go.Proofs.YtahboomghjdjhaaGreat

/-
  Walks: a stream's head.
-/
namespace Go.Proofs.YtahboomghjdjhaaGreat
open Go.RowKit

theorem win_room {b : List Nat} {a : Nat} (h : a ≤ 8 * b.length) : a % 8 ≤ 8 * (winB b a).length ∧ (winB b a).length ≤ 608 := by
  unfold winB
  rw [List.length_take, List.length_drop]
  omega
theorem win_mem {b : List Nat} {a x : Nat} (h : x ∈ winB b a) : x ∈ b := List.mem_of_mem_drop (List.mem_of_mem_take h)
theorem SOne.no {W w' : World} {sb : Nat} {q : Sc} {s : Ss} {o : Except Nat Ss} {r : Ending} {e : Nat} (h : o = .error e) (hr : r = .returned (.int .i64 ((e : Nat) : Int))) (hb : Below W.heap.size W w') (hv : e = 10 → ∃ v, StrB W w' sb q s v) : SOne W w' sb q s o r := by subst h; exact ⟨hr, hb, hv⟩
theorem SOne.yes {W w' : World} {sb : Nat} {q : Sc} {s s' : Ss} {o : Except Nat Ss} {r : Ending} (h : o = .ok s') (hr : r = .returned (.int .i64 0)) (hv : ∃ v, StrB W w' sb q s' v) : SOne W w' sb q s o r := by subst h; exact ⟨hr, hv⟩

set_option maxRecDepth 100000 in
set_option maxHeartbeats 4000000 in
theorem shead_any (W w : World) (sb room : Nat) (b w0 : List Nat) (q : Sc) (s : Ss) (v : Sv) (hk : s.k = none) (hB : StrB W w sb q s v) (hP : StrP W sb q room b w0 s) :
    Calls Tryz.prog 29 #[.pointer (some ⟨sb, 0, none⟩)] w fun r w' => SOne W w' sb q s (oneS room b s) r := by
  have HW := Lib.hid (swin_any W w sb room b w0 q s v hB hP)
  obtain ⟨hr1, hr2⟩ := win_room hP.ok.at_
  have HH := Lib.hid fun w1 B' c' (hr : Rd w1 B' (u8s (winB b s.a))) => phead_any B' _ c' (winB b s.a) (s.a % 8) w1 hr (fun x hx => hP.byte x (win_mem hx)) rfl (by omega) hr1
  have hpa := pa_win hdP_gd (by omega) hP.ok.at_
  have HP := Lib.hid hP
  have HB := Lib.hid hB
  cases hh : hdP (winB b s.a) (s.a % 8) with
  | error e =>
    have he := hdP_err _ _ _ hh
    have h1 : oneS room b s = .error e := one_head_no hk (by rw [hpa, hh]; rfl)
    have hne : ((e : Int) == 0) = false := by
      rw [beq_eq_false_iff_ne]
      intro h0
      have h0 : e = 0 := by omega
      subst h0
      revert he
      decide
    have HE := Lib.hid h1
    unfold HeadRes at HH
    rw [hh] at HH
    clear hpa h1 hh hP hB hk he
    go_enter Tryz.func29, Tryz.ntmps29
    go_upto_region 3 with (first
      | (go_at_call 41; refine HW.out.mono ?_; rintro e1 w1 ⟨B', c', rfl, hrd, hb1⟩)
      | (go_at_call 42; refine (HH.out _ _ _ hrd).mono ?_; rintro e2 w2 ⟨hb2, rfl⟩)
      | (refine store_over rfl 28 (.tmp 5) (.tmp 17) rfl rfl rfl (show BkAt (w2.alloc (.cells (cellsOf 37 (bkH 0 false 0 (fun _ => 0) (.slice none 0 0) (fun _ => 0) (.slice none 0 0))) 28)) w2.heap.size 0 false 0 (fun _ => 0) (.slice none 0 0) (fun _ => 0) (.slice none 0 0) from Blk.new _ _ _) bk_size (fun i _ => bkH_one _ _ _ _ _ _ _ _ _ _ _ i) ?_; intro w3 k3 g3))
    have hb3 : Below w2.heap.size w2 w3 := Below.then_only ((Below.refl _ _).alloc (Nat.le_refl _) _) g3 (by simp) (Nat.le_refl _)
    have hb : Below w.heap.size w w3 := hb1.trans ((hb2.mono hb1.size).trans (hb3.mono (Nat.le_trans hb1.size hb2.size)))
    go_wp2_with fail
    go_ret
    exact SOne.no HE.out rfl (Below.trans HB.out.only (hb.mono HB.out.only.size)) fun _ => ⟨v, HB.out.below HP.out.ge hb⟩
  | ok r =>
    obtain ⟨k, m⟩ := r
    have h1 : oneS room b s = .ok ⟨m + 8 * (s.a / 8), some k, s.over, s.win, s.told⟩ := one_head hk (by rw [hpa, hh]; rfl)
    have HE := Lib.hid h1
    have hkk := hdP_ok hh
    obtain ⟨z1, z2, z3⟩ := hdP_gd.ok _ _ _ _ hh
    have z4 := z3 hr1
    unfold HeadRes at HH
    rw [hh] at HH
    have HZ := Lib.hid (show s.a / 8 * 8 + s.a % 8 = s.a ∧ s.a % 8 ≤ m ∧ m ≤ 8 * (winB b s.a).length ∧ (winB b s.a).length ≤ 608 ∧ s.a ≤ 800000 from ⟨by omega, by omega, z4, hr2, by have := hP.ok.at_; have := hP.len; have := hP.max; omega⟩)
    clear hpa h1 hh hP hB hk z1 z2 z3 z4 hr1 hr2
    go_enter Tryz.func29, Tryz.ntmps29
    go_upto_region 4 with (first
      | (go_at_call 41; refine HW.out.mono ?_; rintro e1 w1 ⟨B', c', rfl, hrd, hb1⟩)
      | (go_at_call 42; refine (HH.out _ _ _ hrd).mono ?_; rintro e2 w2 ⟨hb2, C1, m1, d1, C2, m2, d2, rfl, t1, t2⟩)
      | (refine store_over rfl 28 (.tmp 5) (.tmp 17) rfl rfl rfl (show BkAt (w2.alloc (.cells (cellsOf 37 (bkH 0 false 0 (fun _ => 0) (.slice none 0 0) (fun _ => 0) (.slice none 0 0))) 28)) w2.heap.size 0 false 0 (fun _ => 0) (.slice none 0 0) (fun _ => 0) (.slice none 0 0) from Blk.new _ _ _) bk_size (fun i _ => bkH_one _ _ _ _ _ _ _ _ _ _ _ i) ?_; intro w3 k3 g3))
    have hb3 : Below w2.heap.size w2 w3 := Below.then_only ((Below.refl _ _).alloc (Nat.le_refl _) _) g3 (by simp) (Nat.le_refl _)
    have hb : Below w.heap.size w w3 := hb1.trans ((hb2.mono hb1.size).trans (hb3.mono (Nat.le_trans hb1.size hb2.size)))
    have h3 := HB.out.below HP.out.ge hb
    have ks := h3.arr
    go_upto_region 5 with (first
      | (refine load_arr rfl 28 (.tmp 5) rfl rfl k3 Tryz.underlying28 rfl bk_size ?_)
      | (refine store_sub rfl 28 (.tmp 27) (.tmp 24) rfl rfl 37 rfl ks (by omega) bk_size (fun i _ => bkH_one _ _ _ _ _ _ _ _ _ _ _ i) ?_; intro w4 k4 g4; have f41 := Arr.free k4 41; have c41 : w4.cell? ⟨sb, 41, none⟩ = some (.bool s.k.isSome) := Arr.cell k4 41 (by omega)))
    have k4' : Arr w4 sb 53 48 (stH (q.most : Int) ((q.m0 + s.told.length : Nat) : Int) q.inV q.at0 (bkC k (.slice C1 m1 d1) (.slice C2 m2 d2)) s.k.isSome (.slice v.A v.nl v.cl) s.over (.slice q.B q.n q.c) (s.a : Int) (.slice v.D v.nt v.ct)) := Arr.congr k4 fun i hi => stH_bk _ i
    have k5 := (Arr.set k4' 41 (.bool true)).congr fun i _ => stH_open true i
    have g5 : w3.grownBy (w4.setCell ⟨sb, 41, none⟩ (.bool true)) (some sb) := only_set g4 41 _
    have HG := Lib.hid (swent_any _ sb s.a (s.a % 8) m (m + 8 * (s.a / 8)) _ k5 rfl (by have := HZ.out; omega) (by have := HZ.out; omega))
    go_upto_region 6 with (go_at_call 43; refine HG.out.mono ?_; rintro e w6 ⟨rfl, rfl⟩)
    have k6 := (Arr.set k5 46 (.int .i64 ((m + 8 * (s.a / 8) : Nat) : Int))).congr fun i _ => stH_at _ i
    have g6 : w3.grownBy ((w4.setCell ⟨sb, 41, none⟩ (.bool true)).setCell ⟨sb, 46, none⟩ (.int .i64 ((m + 8 * (s.a / 8) : Nat) : Int))) (some sb) := only_set g5 46 _
    go_wp2_with fail
    go_ret
    have hle : W.heap.size ≤ w1.heap.size := Nat.le_trans HB.out.only.size hb1.size
    have u1 : TrOk w3 W.heap.size C1 m1 d1 (trX k k.lo) := ⟨own_far_base (own_below t1.own hb3) hle, t1.len, t1.max⟩
    have u2 : TrOk w3 W.heap.size C2 m2 d2 (trX k k.fa) := ⟨own_far_base (own_below t2.own hb3) hle, t2.len, t2.max⟩
    refine SOne.yes HE.out rfl ⟨⟨C1, m1, d1, C2, m2, d2, v.A, v.nl, v.cl, v.D, v.nt, v.ct⟩, h3.only' HP.out.ge g6, k6, fun k' hk' => ?_, fun hk' => (by cases hk'), h3.win' g6, h3.nl_, h3.cl_, h3.told' g6, h3.nt_, h3.apart⟩
    cases hk'
    exact ⟨⟨u1.len, own_cap u1.own, .inr (u1.more ks g6)⟩, ⟨u2.len, own_cap u2.own, .inr (u2.more ks g6)⟩⟩
end Go.Proofs.YtahboomghjdjhaaGreat

/-
  What a stream is behind a token. No walk.
-/
namespace Go.Proofs.YtahboomghjdjhaaGreat
open Go.RowKit

theorem own_ne_own {w : World} {b1 b2 : Nat} {e1 e2 : TypeId} {z1 z2 n1 n2 : Nat} {v1 v2 : Value} {xs1 xs2 : List Value} (h1 : w.ownsRow b1 e1 z1 v1 n1 xs1) (h2 : w.ownsRow b2 e2 z2 v2 n2 xs2) (hne : e1 ≠ e2) : v1.ownBlock = none ∨ v1.ownBlock ≠ v2.ownBlock := by
  rcases h1.2 with ⟨rfl, _⟩ | ⟨g, cap, cur, rfl, _, hh, _⟩
  · exact .inl rfl
  · right
    rcases h2.2 with ⟨rfl, _⟩ | ⟨g', cap', cur', rfl, _, hh', _⟩
    · simp [Value.ownBlock]
    · intro he
      have : g = g' := by simpa [Value.ownBlock] using he
      subst this
      rw [hh] at hh'
      injection hh' with hh'
      injection hh' with _ h4 _
      exact hne h4
theorem below_own {w w' : World} {base : Nat} {e : TypeId} {z n : Nat} {v : Value} {xs : List Value} (h : w.ownsRow base e z v n xs) (hg : w.grownBy w' v.ownBlock) (hb : base ≤ w.heap.size) : Below base w w' :=
  ⟨hg.os, hg.tape, hg.output, hg.size, fun k hk => hg.block k (by omega) (fun e => by have := (h.lt k e.symm).1; omega)⟩
theorem stH_size {most made : Int} {inV : Value} {at0 : Int} {bk : Nat → Value} {op : Bool} {winV : Value} {over : Bool} {bV : Value} {at_ : Int} {toldV : Value} (i : Nat) : (if i = 42 then Value.int .i64 32768 else stH most made inV at0 bk op winV over bV at_ toldV i) = stH most made inV at0 bk op winV over bV at_ toldV i := by
  by_cases h : i = 42
  · subst h; rfl
  · rw [if_neg h]

theorem tell_end {W w w6 w7 : World} {sb : Nat} {q : Sc} {room : Nat} {b w0 : List Nat} {s : Ss} {v : Sv} (hB : StrB W w sb q s v) (hP : StrP W sb q room b w0 s) (h6 : StrB W w6 sb q s v) {w3s : Nat} (hw3 : w.heap.size ≤ w3s) {more M : List Nat} {B5 : Option Addr} {d5 : Nat}
    (o6 : w6.ownsRow w3s 5 1 (.slice B5 M.length d5) M.length (u8s M)) {g7 ce7 k : Nat} (hk : k = (s.told ++ more).length) (o7 : w7.ownsRow W.heap.size 5 1 (.slice (some ⟨g7, 0, none⟩) k ce7) k (u8s (s.told ++ more)))
    (hg7 : w6.drew.grownBy w7 (Value.slice v.D v.nt v.ct).ownBlock) (hat : (Value.slice v.D v.nt v.ct).ownBlock = some g7 ∨ g7 = w6.drew.heap.size) {x : Int} (hx : x = ((q.m0 + (s.told ++ more).length : Nat) : Int)) :
    ∃ v', StrB W ((((w7.setCell ⟨sb, 42, none⟩ (.int .i64 32768)).setCell ⟨sb, 43, none⟩ (.slice B5 M.length d5)).setCell ⟨sb, 1, none⟩ (.int .i64 x)).setCell ⟨sb, 47, none⟩ (.slice (some ⟨g7, 0, none⟩) k ce7)) sb q ⟨s.a, s.k, s.over, M, s.told ++ more⟩ v' := by
  subst hx
  have hts : (Value.slice v.D v.nt v.ct).ownBlock ≠ some sb := own_blk_ne h6.told h6.arr (by decide)
  have k7 : Arr w7 sb 53 48 (svF q s v) := Blk.grown (Arr.drew h6.arr) hg7 hts.symm
  have g8 : w7.grownBy ((((w7.setCell ⟨sb, 42, none⟩ (.int .i64 32768)).setCell ⟨sb, 43, none⟩ (.slice B5 M.length d5)).setCell ⟨sb, 1, none⟩ (.int .i64 ((q.m0 + (s.told ++ more).length : Nat) : Int))).setCell ⟨sb, 47, none⟩ (.slice (some ⟨g7, 0, none⟩) k ce7)) (some sb) := only_set (only_set (only_set (only_set (only_self _ _) 42 _) 43 _) 1 _) 47 _
  have k8 := (Arr.set ((Arr.set ((Arr.set ((Arr.set k7 42 (.int .i64 32768)).congr fun i _ => stH_size i) 43 (.slice B5 M.length d5)).congr fun i _ => stH_win _ i) 1 (.int .i64 ((q.m0 + (s.told ++ more).length : Nat) : Int))).congr fun i _ => stH_made _ i) 47 (.slice (some ⟨g7, 0, none⟩) k ce7)).congr fun i hi => stH_told _ i hi
  have hb7 : Below W.heap.size w6.drew w7 := below_own (own_drew h6.told) hg7 h6.only.size
  have hneq : (Value.slice B5 M.length d5).ownBlock = none ∨ (Value.slice B5 M.length d5).ownBlock ≠ (Value.slice v.D v.nt v.ct).ownBlock := by
    cases hb5 : (Value.slice B5 M.length d5).ownBlock with
    | none => exact .inl rfl
    | some g =>
      right
      intro he
      have h1 := (o6.lt g hb5).1
      have h2 := (hB.told.lt g he.symm).2
      omega
  have o7w := (own_drew o6).kept hg7 hneq
  have tr7 : ∀ {C : Option Addr} {m d : Nat} {xs : List Int}, TrSt W w6 C m d xs → TrSt W w7 C m d xs := fun h => ⟨h.1, h.2.1, h.2.2.elim .inl fun o => .inr ⟨(own_drew o.own).kept hg7 (own_ne_own o.own h6.told (by decide)), o.len, o.max⟩⟩
  refine ⟨⟨v.C1, v.m1, v.d1, v.C2, v.m2, v.d2, B5, M.length, d5, some ⟨g7, 0, none⟩, k, ce7⟩, Below.then_only ((h6.only.drew).trans hb7) g8 (Nat.le_trans h6.only.size hb7.size) hP.ge, k8, fun k' hk' => ⟨(tr7 (h6.tr k' hk').1).more k7 g8, (tr7 (h6.tr k' hk').2).more k7 g8⟩, fun hk' => ⟨(tr7 (h6.tr0 hk').1).more k7 g8, (tr7 (h6.tr0 hk').2).more k7 g8⟩, own_far_base (own_only o7w k7 (by decide) g8) (Nat.le_trans hB.only.size hw3), rfl, own_cap o6, own_only o7 k7 (by decide) g8, hk, ?_⟩
  intro g hg he
  have hg : g7 = g := by simpa [Value.ownBlock] using hg
  subst hg
  have h1 := o6.lt g7 he
  rcases hat with hat | hat
  · have := (hB.told.lt g7 hat).2
    omega
  · have h2 : w6.drew.heap.size = w6.heap.size := rfl
    omega
end Go.Proofs.YtahboomghjdjhaaGreat

/-
  Two blocks compared, by the document.
-/
namespace Go.Proofs.YtahboomghjdjhaaGreat
open Go.RowKit

set_option maxRecDepth 100000 in
set_option maxHeartbeats 2000000 in
theorem rsame13_any (a b : Bv) (w : World) (ha : a.ok w) (hb : b.ok w) :
    Calls Tryz.prog 22 #[.agg (cellsOf 37 a.F), .agg (cellsOf 37 b.F)] w fun r w' => r = .returned (.bool (sameV a b)) ∧ Below w.heap.size w w' := by
  have H1 := Lib.hid fun wx (h : Below w.heap.size w wx) => (show Calls Tryz.prog 38 #[.agg (cellsOf 17 (treeH a.f1 (.slice a.C1 a.m1 a.d1))), .agg (cellsOf 17 (treeH b.f1 (.slice b.C1 b.m1 b.d1)))] wx _ from rsame_any a.f1 b.f1 a.C1 b.C1 a.m1 a.d1 b.m1 b.d1 a.x1 b.x1 wx (ha.r1.below h) (hb.r1.below h) ha.l1 hb.l1 ha.b1 hb.b1)
  have H2 := Lib.hid fun wx (h : Below w.heap.size w wx) => (show Calls Tryz.prog 38 #[.agg (cellsOf 17 (treeH a.f2 (.slice a.C2 a.m2 a.d2))), .agg (cellsOf 17 (treeH b.f2 (.slice b.C2 b.m2 b.d2)))] wx _ from rsame_any a.f2 b.f2 a.C2 b.C2 a.m2 a.d2 b.m2 b.d2 a.x2 b.x2 wx (ha.r2.below h) (hb.r2.below h) ha.l2 hb.l2 ha.b2 hb.b2)
  clear ha hb
  obtain ⟨ka, la, fa, a1, A1, am1, ad1, ax1, a2, A2, am2, ad2, ax2⟩ := a
  obtain ⟨kb, lb, fb, b1, B1, bm1, bd1, bx1, b2, B2, bm2, bd2, bx2⟩ := b
  dsimp only at H1 H2
  obtain ⟨s1, hs1⟩ : ∃ s, sameT a1 b1 ax1 bx1 = s := ⟨_, rfl⟩
  obtain ⟨s2, hs2⟩ : ∃ s, sameT a2 b2 ax2 bx2 = s := ⟨_, rfl⟩
  rw [hs1] at H1
  rw [hs2] at H2
  have HS : sameV ⟨ka, la, fa, a1, A1, am1, ad1, ax1, a2, A2, am2, ad2, ax2⟩ ⟨kb, lb, fb, b1, B1, bm1, bd1, bx1, b2, B2, bm2, bd2, bx2⟩ = (decide (ka = kb) && ((la == lb) && (decide (fa = fb) && (s1 && s2)))) := by unfold sameV; rw [hs1, hs2]
  rw [HS]
  clear HS hs1 hs2
  obtain ⟨RR, hRR⟩ : ∃ R, (decide (ka = kb) && ((la == lb) && (decide (fa = fb) && (s1 && s2)))) = R := ⟨_, rfl⟩
  rw [hRR]
  have HRR := Lib.hid hRR
  clear hRR
  unfold Bv.F
  dsimp only
  have hb0 : Below w.heap.size w ((w.alloc (.cells (cellsOf 37 (bkH (ka : Int) la fa a1 (.slice A1 am1 ad1) a2 (.slice A2 am2 ad2))) 28)).alloc (.cells (cellsOf 37 (bkH (kb : Int) lb fb b1 (.slice B1 bm1 bd1) b2 (.slice B2 bm2 bd2))) 28)) := ((Below.refl _ _).alloc (Nat.le_refl _) _).alloc (by simp) _
  have k0 : BkAt ((w.alloc (.cells (cellsOf 37 (bkH (ka : Int) la fa a1 (.slice A1 am1 ad1) a2 (.slice A2 am2 ad2))) 28)).alloc (.cells (cellsOf 37 (bkH (kb : Int) lb fb b1 (.slice B1 bm1 bd1) b2 (.slice B2 bm2 bd2))) 28)) w.heap.size ka la fa a1 (.slice A1 am1 ad1) a2 (.slice A2 am2 ad2) := Arr.alloc (Blk.new _ _ _) _
  have k1 : BkAt ((w.alloc (.cells (cellsOf 37 (bkH (ka : Int) la fa a1 (.slice A1 am1 ad1) a2 (.slice A2 am2 ad2))) 28)).alloc (.cells (cellsOf 37 (bkH (kb : Int) lb fb b1 (.slice B1 bm1 bd1) b2 (.slice B2 bm2 bd2))) 28)) (w.heap.size + 1) kb lb fb b1 (.slice B1 bm1 bd1) b2 (.slice B2 bm2 bd2) := Blk.new' _ _ _ _ (by simp)
  go_enter Tryz.func22, Tryz.ntmps22
  go_upto_region 1 with (fail)
  change Code.wp _ _ _ _ ((w.alloc (.cells (cellsOf 37 (bkH (ka : Int) la fa a1 (.slice A1 am1 ad1) a2 (.slice A2 am2 ad2))) 28)).alloc (.cells (cellsOf 37 (bkH (kb : Int) lb fb b1 (.slice B1 bm1 bd1) b2 (.slice B2 bm2 bd2))) 28))
  generalize (w.alloc (.cells (cellsOf 37 (bkH (ka : Int) la fa a1 (.slice A1 am1 ad1) a2 (.slice A2 am2 ad2))) 28)).alloc (.cells (cellsOf 37 (bkH (kb : Int) lb fb b1 (.slice B1 bm1 bd1) b2 (.slice B2 bm2 bd2))) 28) = w0 at *
  obtain ⟨ga, hga⟩ : ∃ g, w.heap.size = g := ⟨_, rfl⟩
  obtain ⟨gb, hgb⟩ : ∃ g, w.heap.size + 1 = g := ⟨_, rfl⟩
  rw [hgb] at k1
  rw [hgb]
  have HG := Lib.hid (And.intro hga hgb)
  clear hga hgb
  have c0 : w0.cell? ⟨w.heap.size, 0, none⟩ = some (.int .u8 (ka : Int)) := Arr.cell k0 0 (by omega)
  have c1 : w0.cell? ⟨w.heap.size, 1, none⟩ = some (.bool la) := Arr.cell k0 1 (by omega)
  have c2 : w0.cell? ⟨w.heap.size, 2, none⟩ = some (.int .i64 fa) := Arr.cell k0 2 (by omega)
  have d0 : w0.cell? ⟨gb, 0, none⟩ = some (.int .u8 (kb : Int)) := Arr.cell k1 0 (by omega)
  have d1 : w0.cell? ⟨gb, 1, none⟩ = some (.bool lb) := Arr.cell k1 1 (by omega)
  have d2 : w0.cell? ⟨gb, 2, none⟩ = some (.int .i64 fb) := Arr.cell k1 2 (by omega)
  by_cases h1 : ka = kb
  · subst h1
    by_cases h2 : la = lb
    · subst h2
      have e2 : (la == la) = true := by simp
      by_cases h3 : fa = fb
      · subst h3
        have HR := Lib.hid (show RR = (s1 && s2) by rw [← HRR.out]; simp)
        clear HRR
        cases s1 with
        | false =>
          go_wp2_with (first
            | (refine load_subG (by rfl) 26 (.tmp 27) rfl rfl k1 17 (by omega) tree_under rfl tree_size (treeH b1 (.slice B1 bm1 bd1)) (fun i hi => bkH_t1 _ _ _ _ _ _ _ i hi) ?_)
            | (refine load_subG (by rfl) 26 (.tmp 25) rfl rfl k0 17 (by omega) tree_under rfl tree_size (treeH a1 (.slice A1 am1 ad1)) (fun i hi => bkH_t1 _ _ _ _ _ _ _ i hi) ?_)
            | (go_at_call 38; refine (H1.out _ hb0).mono ?_; rintro e w2 ⟨rfl, h2⟩; have kk0 := Arr.below k0 h2 (Blk.lt k0); have kk1 := Arr.below k1 h2 (Blk.lt k1); have hh2 := hb0.trans (h2.mono hb0.size)))
          go_ret
          exact ⟨by rw [HR.out] <;> rfl, hh2⟩
        | true =>
          go_wp2_with (first
            | (refine load_subG (by rfl) 26 (.tmp 34) rfl rfl kk1 17 (by omega) tree_under rfl tree_size (treeH b2 (.slice B2 bm2 bd2)) (fun i hi => bkH_t2 _ _ _ _ _ _ _ i hi) ?_)
            | (refine load_subG (by rfl) 26 (.tmp 32) rfl rfl kk0 17 (by omega) tree_under rfl tree_size (treeH a2 (.slice A2 am2 ad2)) (fun i hi => bkH_t2 _ _ _ _ _ _ _ i hi) ?_)
            | (refine load_subG (by rfl) 26 (.tmp 27) rfl rfl k1 17 (by omega) tree_under rfl tree_size (treeH b1 (.slice B1 bm1 bd1)) (fun i hi => bkH_t1 _ _ _ _ _ _ _ i hi) ?_)
            | (refine load_subG (by rfl) 26 (.tmp 25) rfl rfl k0 17 (by omega) tree_under rfl tree_size (treeH a1 (.slice A1 am1 ad1)) (fun i hi => bkH_t1 _ _ _ _ _ _ _ i hi) ?_)
            | (go_at_call 38; refine (H2.out _ hh2).mono ?_; rintro e w3 ⟨rfl, h3⟩; have hh3 := hh2.trans (h3.mono hh2.size))
            | (go_at_call 38; refine (H1.out _ hb0).mono ?_; rintro e w2 ⟨rfl, h2⟩; have kk0 := Arr.below k0 h2 (Blk.lt k0); have kk1 := Arr.below k1 h2 (Blk.lt k1); have hh2 := hb0.trans (h2.mono hb0.size)))
          go_ret
          exact ⟨by rw [HR.out] <;> rfl, hh3⟩
      · have e3 : (fa == fb) = false := by rw [beq_eq_false_iff_ne]; exact h3
        have HR := Lib.hid (show RR = false by rw [← HRR.out]; rw [decide_eq_false h3]; simp)
        go_wp2_with fail
        go_ret
        exact ⟨by rw [HR.out] <;> rfl, hb0⟩
    · have e2 : (la == lb) = false := by rw [beq_eq_false_iff_ne]; exact h2
      have HR := Lib.hid (show RR = false by rw [← HRR.out]; rw [e2]; simp)
      go_wp2_with fail
      go_ret
      exact ⟨by rw [HR.out] <;> rfl, hb0⟩
  · have e1 : ((ka : Int) == (kb : Int)) = false := by rw [beq_eq_false_iff_ne]; omega
    have HR := Lib.hid (show RR = false by rw [← HRR.out]; rw [decide_eq_false h1]; rfl)
    go_wp2_with fail
    go_ret
    exact ⟨by rw [HR.out] <;> rfl, hb0⟩
end Go.Proofs.YtahboomghjdjhaaGreat

/-
  A block checked, by the document.
-/
namespace Go.Proofs.YtahboomghjdjhaaGreat
open Go.RowKit

theorem rtsame_zero (f : Nat → Int) (A : Option Addr) (n c : Nat) (xs : List Int) (w : World) (hx : Rd w A (ints xs)) (hn : n = xs.length) (hn1 : n ≤ 1001) :
    Calls Tryz.prog 38 #[.agg (cellsOf 17 (treeH f (.slice A n c))), .agg #[.int .i64 0, .int .i64 0, .int .i64 0, .int .i64 0, .int .i64 0, .int .i64 0, .int .i64 0, .int .i64 0, .int .i64 0, .int .i64 0, .int .i64 0, .int .i64 0, .int .i64 0, .int .i64 0, .int .i64 0, .int .i64 0, .slice none 0 0]] w fun e w' => e = .returned (.bool (sameT f (fun _ => 0) xs [])) ∧ Below w.heap.size w w' := by
  have h := rsame_any f (fun _ => 0) A none n c 0 0 xs [] w hx Rd.nil_ hn rfl hn1 (by omega)
  unfold treeV at h
  rw [tree_zeroL] at h
  exact h
set_option maxRecDepth 100000 in
set_option maxHeartbeats 1500000 in
theorem rck13_any (kind : Nat) (last : Bool) (left : Int) (f1 : Nat → Int) (C1 : Option Addr) (m1 d1 : Nat) (x1 : List Int) (f2 : Nat → Int) (C2 : Option Addr) (m2 d2 : Nat) (x2 : List Int) (w : World)
    (hx1 : Rd w C1 (ints x1)) (hm1 : m1 = x1.length) (hb1 : m1 ≤ 1001) (hx2 : Rd w C2 (ints x2)) (hm2 : m2 = x2.length) (hb2 : m2 ≤ 1001) (hkind : kind ≤ 255) :
    Calls Tryz.prog 31 #[.agg (cellsOf 37 (bkH (kind : Int) last left f1 (.slice C1 m1 d1) f2 (.slice C2 m2 d2)))] w fun r w' => CkdRes w w' (ckB kind left f1 x1 f2 x2) r := by
  have hbw : Below w.heap.size w (w.alloc (.cells (cellsOf 37 (bkH (kind : Int) last left f1 (.slice C1 m1 d1) f2 (.slice C2 m2 d2))) 28)) := (Below.refl _ _).alloc (Nat.le_refl _) _
  have k0 : BkAt (w.alloc (.cells (cellsOf 37 (bkH (kind : Int) last left f1 (.slice C1 m1 d1) f2 (.slice C2 m2 d2))) 28)) w.heap.size kind last left f1 (.slice C1 m1 d1) f2 (.slice C2 m2 d2) := Blk.new _ _ _
  have H1 := Lib.hid fun wx (h : Below w.heap.size w wx) => rtsame_zero f1 C1 m1 d1 x1 wx (hx1.below h) hm1 hb1
  have H2 := Lib.hid fun wx (h : Below w.heap.size w wx) => rtsame_zero f2 C2 m2 d2 x2 wx (hx2.below h) hm2 hb2
  have H3 := Lib.hid fun wx (h : Below w.heap.size w wx) => (show Calls Tryz.prog 46 #[.agg (cellsOf 17 (treeH f1 (.slice C1 m1 d1)))] wx _ from rchk_any f1 C1 m1 d1 x1 wx (hx1.below h) hm1 hb1)
  have H4 := Lib.hid fun wx (h : Below w.heap.size w wx) => (show Calls Tryz.prog 46 #[.agg (cellsOf 17 (treeH f2 (.slice C2 m2 d2)))] wx _ from rchk_any f2 C2 m2 d2 x2 wx (hx2.below h) hm2 hb2)
  obtain ⟨s1, hs1⟩ : ∃ s, sameT f1 (fun _ => 0) x1 [] = s := ⟨_, rfl⟩
  obtain ⟨s2, hs2⟩ : ∃ s, sameT f2 (fun _ => 0) x2 [] = s := ⟨_, rfl⟩
  obtain ⟨b1, hb1'⟩ : ∃ s, (chkT f1 x1).isSome = s := ⟨_, rfl⟩
  obtain ⟨b2, hb2'⟩ : ∃ s, (chkT f2 x2).isSome = s := ⟨_, rfl⟩
  have HE1 : chkE f1 x1 = if b1 = true then 0 else 8 := by unfold chkE; rw [hb1']
  have HE2 : chkE f2 x2 = if b2 = true then 0 else 8 := by unfold chkE; rw [hb2']
  unfold ChkRes at H3 H4
  rw [hs1] at H1
  rw [hs2] at H2
  rw [HE1] at H3
  rw [HE2] at H4
  obtain ⟨RR, hRR⟩ : ∃ R, ckB kind left f1 x1 f2 x2 = R := ⟨_, rfl⟩
  rw [hRR]
  have HB := Lib.hid (show RR = (decide (kind = 0) && (decide (0 ≤ left) && (decide (left ≤ 65535) && (s1 && s2))) || (decide (kind = 1) || decide (kind = 2)) && (decide (left = 0) && (b1 && b2))) by rw [← hRR]; unfold ckB ckA ckC; rw [hs1, hs2, hb1', hb2'])
  clear hm1 hm2 hs1 hs2 hb1' hb2' HE1 HE2 hx1 hx2 hRR
  go_enter Tryz.func31, Tryz.ntmps31
  go_upto_region 1 with (fail)
  change Code.wp _ _ _ _ (w.alloc (.cells (cellsOf 37 (bkH (kind : Int) last left f1 (.slice C1 m1 d1) f2 (.slice C2 m2 d2))) 28))
  generalize w.alloc (.cells (cellsOf 37 (bkH (kind : Int) last left f1 (.slice C1 m1 d1) f2 (.slice C2 m2 d2))) 28) = w0 at *
  have c0 : w0.cell? ⟨w.heap.size, 0, none⟩ = some (.int .u8 (kind : Int)) := Arr.cell k0 0 (by omega)
  by_cases h0 : kind = 0
  · have q0 : ((kind : Int) == 0) = true := by rw [h0]; rfl
    have H0 := Lib.hid h0
    clear h0
    cases s1 with
    | false =>
      go_upto_region 3 with (first
        | (refine load_subG (by rfl) 26 (.tmp 12) rfl rfl kk2 17 (by omega) tree_under rfl tree_size (treeH f2 (.slice C2 m2 d2)) (fun i hi => bkH_t2 _ _ _ _ _ _ _ i hi) ?_)
        | (refine load_subG (by rfl) 26 (.tmp 7) rfl rfl k0 17 (by omega) tree_under rfl tree_size (treeH f1 (.slice C1 m1 d1)) (fun i hi => bkH_t1 _ _ _ _ _ _ _ i hi) ?_)
        | (go_at_call 38; refine (H2.out _ hh2).mono ?_; rintro e w3 ⟨rfl, h3⟩; have kk3 := Arr.below kk2 h3 (Blk.lt kk2); have hh3 := hh2.trans (h3.mono hh2.size))
        | (go_at_call 38; refine (H1.out _ hbw).mono ?_; rintro e w2 ⟨rfl, h2⟩; have kk2 := Arr.below k0 h2 (Blk.lt k0); have hh2 := hbw.trans (h2.mono hbw.size)))
      have h0 := H0.out
      have c2 : w2.cell? ⟨w.heap.size, 2, none⟩ = some (.int .i64 left) := Arr.cell kk2 2 (by omega)
      by_cases a1 : left < 0
      · have q1 : decide (left < 0) = true := decide_eq_true a1
        have HR := Lib.hid (show RR = false by rw [HB.out, decide_eq_false (by omega : ¬ 0 ≤ left)]; simp [h0])
        clear h0
        go_wp2_with fail
        go_ret
        exact CkdRes.mk' 8 (by rw [HR.out]; rfl) rfl hh2
      · have q1 : decide (left < 0) = false := decide_eq_false a1
        by_cases a2 : 65535 < left
        · have q2 : decide (65535 < left) = true := decide_eq_true a2
          have HR := Lib.hid (show RR = false by rw [HB.out, decide_eq_false (by omega : ¬ left ≤ 65535)]; simp [h0])
          clear h0
          go_wp2_with fail
          go_ret
          exact CkdRes.mk' 8 (by rw [HR.out]; rfl) rfl hh2
        · have q2 : decide (65535 < left) = false := decide_eq_false a2
          have HR := Lib.hid (show RR = false by rw [HB.out]; simp [h0])
          clear h0
          go_wp2_with fail
          go_ret
          exact CkdRes.mk' 8 (by rw [HR.out]; rfl) rfl hh2
    | true =>
      cases s2 with
      | false =>
        go_upto_region 3 with (first
          | (refine load_subG (by rfl) 26 (.tmp 12) rfl rfl kk2 17 (by omega) tree_under rfl tree_size (treeH f2 (.slice C2 m2 d2)) (fun i hi => bkH_t2 _ _ _ _ _ _ _ i hi) ?_)
          | (refine load_subG (by rfl) 26 (.tmp 7) rfl rfl k0 17 (by omega) tree_under rfl tree_size (treeH f1 (.slice C1 m1 d1)) (fun i hi => bkH_t1 _ _ _ _ _ _ _ i hi) ?_)
          | (go_at_call 38; refine (H2.out _ hh2).mono ?_; rintro e w3 ⟨rfl, h3⟩; have kk3 := Arr.below kk2 h3 (Blk.lt kk2); have hh3 := hh2.trans (h3.mono hh2.size))
          | (go_at_call 38; refine (H1.out _ hbw).mono ?_; rintro e w2 ⟨rfl, h2⟩; have kk2 := Arr.below k0 h2 (Blk.lt k0); have hh2 := hbw.trans (h2.mono hbw.size)))
        have h0 := H0.out
        have c2 : w3.cell? ⟨w.heap.size, 2, none⟩ = some (.int .i64 left) := Arr.cell kk3 2 (by omega)
        by_cases a1 : left < 0
        · have q1 : decide (left < 0) = true := decide_eq_true a1
          have HR := Lib.hid (show RR = false by rw [HB.out, decide_eq_false (by omega : ¬ 0 ≤ left)]; simp [h0])
          clear h0
          go_wp2_with fail
          go_ret
          exact CkdRes.mk' 8 (by rw [HR.out]; rfl) rfl hh3
        · have q1 : decide (left < 0) = false := decide_eq_false a1
          by_cases a2 : 65535 < left
          · have q2 : decide (65535 < left) = true := decide_eq_true a2
            have HR := Lib.hid (show RR = false by rw [HB.out, decide_eq_false (by omega : ¬ left ≤ 65535)]; simp [h0])
            clear h0
            go_wp2_with fail
            go_ret
            exact CkdRes.mk' 8 (by rw [HR.out]; rfl) rfl hh3
          · have q2 : decide (65535 < left) = false := decide_eq_false a2
            have HR := Lib.hid (show RR = false by rw [HB.out]; simp [h0])
            clear h0
            go_wp2_with fail
            go_ret
            exact CkdRes.mk' 8 (by rw [HR.out]; rfl) rfl hh3
      | true =>
        go_upto_region 3 with (first
          | (refine load_subG (by rfl) 26 (.tmp 12) rfl rfl kk2 17 (by omega) tree_under rfl tree_size (treeH f2 (.slice C2 m2 d2)) (fun i hi => bkH_t2 _ _ _ _ _ _ _ i hi) ?_)
          | (refine load_subG (by rfl) 26 (.tmp 7) rfl rfl k0 17 (by omega) tree_under rfl tree_size (treeH f1 (.slice C1 m1 d1)) (fun i hi => bkH_t1 _ _ _ _ _ _ _ i hi) ?_)
          | (go_at_call 38; refine (H2.out _ hh2).mono ?_; rintro e w3 ⟨rfl, h3⟩; have kk3 := Arr.below kk2 h3 (Blk.lt kk2); have hh3 := hh2.trans (h3.mono hh2.size))
          | (go_at_call 38; refine (H1.out _ hbw).mono ?_; rintro e w2 ⟨rfl, h2⟩; have kk2 := Arr.below k0 h2 (Blk.lt k0); have hh2 := hbw.trans (h2.mono hbw.size)))
        have h0 := H0.out
        have c2 : w3.cell? ⟨w.heap.size, 2, none⟩ = some (.int .i64 left) := Arr.cell kk3 2 (by omega)
        by_cases a1 : left < 0
        · have q1 : decide (left < 0) = true := decide_eq_true a1
          have HR := Lib.hid (show RR = false by rw [HB.out, decide_eq_false (by omega : ¬ 0 ≤ left)]; simp [h0])
          clear h0
          go_wp2_with fail
          go_ret
          exact CkdRes.mk' 8 (by rw [HR.out]; rfl) rfl hh3
        · have q1 : decide (left < 0) = false := decide_eq_false a1
          by_cases a2 : 65535 < left
          · have q2 : decide (65535 < left) = true := decide_eq_true a2
            have HR := Lib.hid (show RR = false by rw [HB.out, decide_eq_false (by omega : ¬ left ≤ 65535)]; simp [h0])
            clear h0
            go_wp2_with fail
            go_ret
            exact CkdRes.mk' 8 (by rw [HR.out]; rfl) rfl hh3
          · have q2 : decide (65535 < left) = false := decide_eq_false a2
            have HR := Lib.hid (show RR = true by rw [HB.out, decide_eq_true h0, decide_eq_true (by omega : 0 ≤ left), decide_eq_true (by omega : left ≤ 65535)]; simp)
            clear h0
            go_wp2_with fail
            go_ret
            exact CkdRes.mk' 0 (by rw [HR.out]; rfl) rfl hh3
  · have q0 : ((kind : Int) == 0) = false := by rw [beq_eq_false_iff_ne]; omega
    have c2 : w0.cell? ⟨w.heap.size, 2, none⟩ = some (.int .i64 left) := Arr.cell k0 2 (by omega)
    by_cases h2 : 2 < kind
    · have q2 : decide ((2 : Int) < (kind : Int)) = true := decide_eq_true (by omega)
      have q2' : decide (2 < kind) = true := decide_eq_true h2
      have HR := Lib.hid (show RR = false by rw [HB.out, decide_eq_false h0, decide_eq_false (by omega : ¬ kind = 1), decide_eq_false (by omega : ¬ kind = 2)]; rfl)
      clear h0
      go_wp2_with fail
      go_ret
      exact CkdRes.mk' 8 (by rw [HR.out]; rfl) rfl hbw
    · have q2 : decide ((2 : Int) < (kind : Int)) = false := decide_eq_false (by omega)
      have q2' : decide (2 < kind) = false := decide_eq_false h2
      by_cases hl : left = 0
      · have q3 : (left != 0) = false := by rw [hl]; rfl
        have HK := Lib.hid (show (decide (kind = 1) || decide (kind = 2)) = true by rcases (show kind = 1 ∨ kind = 2 by omega) with h | h <;> simp [h])
        have HL := Lib.hid hl
        clear hl
        cases b1 with
        | false =>
          have HR := Lib.hid (show RR = false by rw [HB.out, decide_eq_false h0]; simp)
          clear h0
          go_wp2_with (first
            | (refine load_subG (by rfl) 26 (.tmp 44) rfl rfl kk2 17 (by omega) tree_under rfl tree_size (treeH f2 (.slice C2 m2 d2)) (fun i hi => bkH_t2 _ _ _ _ _ _ _ i hi) ?_)
            | (refine load_subG (by rfl) 26 (.tmp 38) rfl rfl k0 17 (by omega) tree_under rfl tree_size (treeH f1 (.slice C1 m1 d1)) (fun i hi => bkH_t1 _ _ _ _ _ _ _ i hi) ?_)
            | (go_at_call 46; refine (H4.out _ hh2).mono ?_; rintro e w3 ⟨rfl, h3⟩; have kk3 := Arr.below kk2 h3 (Blk.lt kk2); have hh3 := hh2.trans (h3.mono hh2.size))
            | (go_at_call 46; refine (H3.out _ hbw).mono ?_; rintro e w2 ⟨rfl, h2⟩; have kk2 := Arr.below k0 h2 (Blk.lt k0); have hh2 := hbw.trans (h2.mono hbw.size)))
          go_ret
          exact CkdRes.mk' 8 (by rw [HR.out]; rfl) rfl hh2
        | true =>
          cases b2 with
          | false =>
            have HR := Lib.hid (show RR = false by rw [HB.out, decide_eq_false h0]; simp)
            clear h0
            go_wp2_with (first
              | (refine load_subG (by rfl) 26 (.tmp 44) rfl rfl kk2 17 (by omega) tree_under rfl tree_size (treeH f2 (.slice C2 m2 d2)) (fun i hi => bkH_t2 _ _ _ _ _ _ _ i hi) ?_)
              | (refine load_subG (by rfl) 26 (.tmp 38) rfl rfl k0 17 (by omega) tree_under rfl tree_size (treeH f1 (.slice C1 m1 d1)) (fun i hi => bkH_t1 _ _ _ _ _ _ _ i hi) ?_)
              | (go_at_call 46; refine (H4.out _ hh2).mono ?_; rintro e w3 ⟨rfl, h3⟩; have kk3 := Arr.below kk2 h3 (Blk.lt kk2); have hh3 := hh2.trans (h3.mono hh2.size))
              | (go_at_call 46; refine (H3.out _ hbw).mono ?_; rintro e w2 ⟨rfl, h2⟩; have kk2 := Arr.below k0 h2 (Blk.lt k0); have hh2 := hbw.trans (h2.mono hbw.size)))
            go_ret
            exact CkdRes.mk' 8 (by rw [HR.out]; rfl) rfl hh3
          | true =>
            have HR := Lib.hid (show RR = true by rw [HB.out, HK.out, HL.out]; simp)
            go_wp2_with (first
              | (refine load_subG (by rfl) 26 (.tmp 44) rfl rfl kk2 17 (by omega) tree_under rfl tree_size (treeH f2 (.slice C2 m2 d2)) (fun i hi => bkH_t2 _ _ _ _ _ _ _ i hi) ?_)
              | (refine load_subG (by rfl) 26 (.tmp 38) rfl rfl k0 17 (by omega) tree_under rfl tree_size (treeH f1 (.slice C1 m1 d1)) (fun i hi => bkH_t1 _ _ _ _ _ _ _ i hi) ?_)
              | (go_at_call 46; refine (H4.out _ hh2).mono ?_; rintro e w3 ⟨rfl, h3⟩; have kk3 := Arr.below kk2 h3 (Blk.lt kk2); have hh3 := hh2.trans (h3.mono hh2.size))
              | (go_at_call 46; refine (H3.out _ hbw).mono ?_; rintro e w2 ⟨rfl, h2⟩; have kk2 := Arr.below k0 h2 (Blk.lt k0); have hh2 := hbw.trans (h2.mono hbw.size)))
            go_ret
            exact CkdRes.mk' 0 (by rw [HR.out]; rfl) rfl hh3
      · have q3 : (left != 0) = true := by rw [bne_iff_ne]; exact hl
        have HR := Lib.hid (show RR = false by rw [HB.out, decide_eq_false h0, decide_eq_false hl]; simp)
        clear h0
        go_wp2_with fail
        go_ret
        exact CkdRes.mk' 8 (by rw [HR.out]; rfl) rfl hbw
end Go.Proofs.YtahboomghjdjhaaGreat
