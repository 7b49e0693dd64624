/-
  Walks: a reader's tell.
-/
import Derived.Test.YtahboomghjdjhaaG04
import Derived.Test.YtahboomghjdjhaaG36
import Derived.Test.YtahboomghjdjhaaG37
import Derived.Test.YtahboomghjdjhaaG46
import Derived.Test.YtahboomghjdjhaaG51
import Derived.Test.YtahboomghjdjhaaGMovesR
namespace Go.Proofs.Ytahboomghjdjhaa
open Go.RowKit Go.Shelf
attribute [local go_sem] Oper.semAt_some

/-- Cells stand, but the reader's and those of blocks. -/
def CsT (g : Nat) (W W' : World) : Prop := ∀ (j : Nat) (cs : Array Value) (t : TypeId) (fr : Nat × Nat), W.heap[j]? = some (Obj.cells cs t fr) → t ≠ 28 → j ≠ g → W'.heap[j]? = W.heap[j]?
theorem CsT.of_ch {g : Nat} {W W' : World} (h : ChT g W W') : CsT g W W' := fun j cs t fr hj ht hne => h.blk j (Array.getElem?_eq_some_iff.1 hj).1 hne fun cs' fr' e => by
  rw [hj] at e
  injection e with e
  injection e with _ e _
  exact ht e
theorem CsT.of_own {g N : Nat} {W W' : World} {row : Option Nat} (hg : W.grownBy W' row) (hr : ∀ r, row = some r → N ≤ r ∧ ∃ o : Obj, W.heap[r]? = some o ∧ o.isCells = false) : CsT g W W' := fun j cs t fr hj _ _ => hg.block j (Array.getElem?_eq_some_iff.1 hj).1 fun e => by
  obtain ⟨_, o, h1, h2⟩ := hr j e.symm
  rw [hj] at h1
  injection h1 with h1
  subst h1
  cases h2
theorem CsT.of_below {g : Nat} {W W' : World} (h : Below W.heap.size W W') : CsT g W W' := fun j _ _ _ hj _ _ => h.block j (Array.getElem?_eq_some_iff.1 hj).1
theorem CsT.of_only {g : Nat} {W W' : World} (h : W.grownBy W' (some g)) : CsT g W W' := fun j _ _ _ hj _ hne => h.block j (Array.getElem?_eq_some_iff.1 hj).1 fun e => hne (by injection e)
/-- What stands while tell goes on. -/
structure TellX (base room g X X2 X3 X4 : Nat) (told : List Nat) (A : Option Addr) (cc : Nat) (W : World) : Prop where
  xb : Blk W X 59 #[.pointer (some ⟨g, 0, none⟩)]
  x2 : Blk W X2 59 #[.pointer (some ⟨g, 0, none⟩)]
  x3 : Blk W X3 3 #[.int .i64 (room : Int)]
  x4 : Blk W X4 22 #[.slice A told.length cc]
  own : W.ownsRow base 5 1 (.slice A told.length cc) told.length (u8s told)
  len : told.length ≤ room
  byte : ∀ x ∈ told, x < 256
  ne : X2 ≠ g ∧ X3 ≠ g ∧ X4 ≠ g ∧ g < base
  xg : X ≠ g
theorem TellX.kept {base room g X X2 X3 X4 : Nat} {told : List Nat} {A : Option Addr} {cc : Nat} {W W' : World} (h : TellX base room g X X2 X3 X4 told A cc W) (k : CsT g W W') : TellX base room g X X2 X3 X4 told A cc W' := by
  refine ⟨(k _ _ _ _ h.xb (by decide) h.xg).trans h.xb, (k _ _ _ _ h.x2 (by decide) h.ne.1).trans h.x2, (k _ _ _ _ h.x3 (by decide) h.ne.2.1).trans h.x3, (k _ _ _ _ h.x4 (by decide) h.ne.2.2.1).trans h.x4, ⟨h.own.1, h.own.2.imp id ?_⟩, h.len, h.byte, h.ne, h.xg⟩
  rintro ⟨g', cap, cur, e1, e2, hh, e3⟩
  exact ⟨g', cap, cur, e1, e2, (k _ _ _ _ hh (by decide) (by have := h.ne.2.2.2; omega)).trans hh, e3⟩
/-- A step that keeps what a round must keep. -/
structure Stp (B N g X : Nat) (W W' : World) : Prop where
  kp : KpT B g X W W'
  kf : KeepsFrom N W W'
theorem Stp.trans {B N g X : Nat} {a b c : World} (h : Stp B N g X a b) (k : Stp B N g X b c) : Stp B N g X a c := ⟨h.kp.trans k.kp, h.kf.trans k.kf⟩
theorem Stp.grown {B N g X : Nat} {w w' : World} {row : Option Nat} (hg : w.grownBy w' row) (hB : B ≤ w.heap.size) (h1 : g < w.heap.size) (h2 : X < w.heap.size) (hr : ∀ r, row = some r → B ≤ r ∧ r ≠ g ∧ r ≠ X ∧ ∃ cs t fr, w.heap[r]? = some (Obj.cells cs t fr) ∧ t ≠ 3 ∧ t ≠ 28) : Stp B N g X w w' :=
  ⟨⟨fun j hj => hg.block j (by omega) (fun e => by have := (hr j e.symm).1; omega), hg.block g h1 (fun e => (hr g e.symm).2.1 rfl), hg.block X h2 (fun e => (hr X e.symm).2.2.1 rfl), fun j cs t fr hj ht => hg.block j (Array.getElem?_eq_some_iff.1 hj).1 (fun e => by
    obtain ⟨_, _, _, cs', t', fr', h3, h4, h5⟩ := hr j e.symm
    rw [hj] at h3
    injection h3 with h3
    injection h3 with _ h3 _
    subst h3
    exact ht.elim h4 h5), hg.size, hg.os, hg.tape, hg.output⟩, ⟨hg.size, fun k o _ hk ho => (hg.block k (Array.getElem?_eq_some_iff.1 hk).1 (fun e => by
    obtain ⟨_, _, _, cs', t', fr', h3, _, _⟩ := hr k e.symm
    rw [hk] at h3
    injection h3 with h3
    subst h3
    cases ho)).trans hk⟩⟩
theorem Stp.below {B N g X : Nat} {w w' : World} (hb : Below w.heap.size w w') (hB : B ≤ w.heap.size) (h1 : g < w.heap.size) (h2 : X < w.heap.size) : Stp B N g X w w' :=
  Stp.grown (row := none) ⟨hb.os, hb.tape, hb.output, hb.size, fun k hk _ => hb.block k hk⟩ hB h1 h2 fun r h => by cases h
theorem Stp.own {B N g X base n c : Nat} {A : Option Addr} {xs : List Value} {cs : Array Value} {w w' : World} (ho : w.ownsRow base 5 1 (.slice A n c) n xs) (hg : w.grownBy w' (Value.slice A n c).ownBlock) (hbase : base ≤ w.heap.size) (hB : B ≤ base) (hgb : g < base) (kx : Blk w X 59 cs) : Stp B N g X w w' := by
  refine Stp.grown hg (by omega) (by omega) (Blk.lt kx) fun r hr => ?_
  rcases ho.2 with ⟨h1, _⟩ | ⟨g', cap, cur, e1, e2, hh, _⟩
  · rw [h1] at hr; cases hr
  · rw [e1] at hr
    have hr' : some g' = some r := hr
    injection hr' with hr'
    subst hr'
    refine ⟨by omega, by omega, fun e => ?_, _, _, _, hh, by decide, by decide⟩
    subst e
    unfold Blk at kx
    rw [kx] at hh
    injection hh with hh
    injection hh with _ hh
    exact absurd hh (by decide)
theorem Stp.set {B N g X X4 : Nat} {w : World} {cs cs' : Array Value} (k4 : Blk w X4 22 cs) (kx : Blk w X 59 cs') (hB : B ≤ X4) (hg4 : X4 ≠ g) (hg : g < w.heap.size) (v : Value) : Stp B N g X w (w.setCell ⟨X4, 0, none⟩ v) := by
  refine Stp.grown (row := some X4) (only_set (only_self _ _) 0 _) (by have := Blk.lt k4; omega) hg (Blk.lt kx) fun r hr => ?_
  injection hr with hr
  subst hr
  refine ⟨hB, hg4, fun e => ?_, _, _, _, k4, by decide, by decide⟩
  subst e
  unfold Blk at kx k4
  rw [k4] at kx
  injection kx with kx
  injection kx with _ kx
  exact absurd kx (by decide)
/-- .. and the told kept anew. -/
theorem TellX.next {base room g X X2 X3 X4 : Nat} {told : List Nat} {A : Option Addr} {cc : Nat} {W Wa W7 : World} (h : TellX base room g X X2 X3 X4 told A cc W) (hb : Below W.heap.size W Wa) (hg : Wa.grownBy W7 (Value.slice A told.length cc).ownBlock) {told' : List Nat} {A' : Option Addr} {cc' n' : Nat} (ho : W7.ownsRow base 5 1 (.slice A' n' cc') n' (u8s told')) (hl : told'.length ≤ room) (hby : ∀ x ∈ told', x < 256) (hn : n' = told'.length) :
    Blk W7 X4 22 #[.slice A told.length cc] ∧ TellX base room g X X2 X3 X4 told' A' cc' (W7.setCell ⟨X4, 0, none⟩ (.slice A' n' cc')) ∧ ∀ B N, B ≤ base → B ≤ X4 → base ≤ W.heap.size → Stp B N g X W (W7.setCell ⟨X4, 0, none⟩ (.slice A' n' cc')) := by
  subst hn
  have own := own_below h.own hb
  have k2 := Blk.grown (Blk.below h.x2 hb (Blk.lt h.x2)) hg (own_blk_ne own (Blk.below h.x2 hb (Blk.lt h.x2)) (by decide)).symm
  have k3 := Blk.grown (Blk.below h.x3 hb (Blk.lt h.x3)) hg (own_blk_ne own (Blk.below h.x3 hb (Blk.lt h.x3)) (by decide)).symm
  have k4 := Blk.grown (Blk.below h.x4 hb (Blk.lt h.x4)) hg (own_blk_ne own (Blk.below h.x4 hb (Blk.lt h.x4)) (by decide)).symm
  have gz : W7.grownBy (W7.setCell ⟨X4, 0, none⟩ (.slice A' told'.length cc')) (some X4) := only_set (only_self _ _) 0 _
  have h2 : X2 ≠ X4 := fun e => by
    unfold Blk at k2 k4
    rw [e, k4] at k2
    injection k2 with k2
    injection k2 with _ k2
    exact absurd k2 (by decide)
  have h3 : X3 ≠ X4 := fun e => by
    unfold Blk at k3 k4
    rw [e, k4] at k3
    injection k3 with k3
    injection k3 with _ k3
    exact absurd k3 (by decide)
  have kb := Blk.grown (Blk.below h.xb hb (Blk.lt h.xb)) hg (own_blk_ne own (Blk.below h.xb hb (Blk.lt h.xb)) (by decide)).symm
  have hxb : X ≠ X4 := fun e => by
    unfold Blk at kb k4
    rw [e, k4] at kb
    injection kb with kb
    injection kb with _ kb
    exact absurd kb (by decide)
  refine ⟨k4, ⟨Blk.grown kb gz (by intro e; injection e with e; omega), Blk.grown k2 gz (by intro e; injection e with e; omega), Blk.grown k3 gz (by intro e; injection e with e; omega), Blk.set_ k4 0 _, own_only ho k4 (by decide) gz, hl, hby, h.ne, h.xg⟩, fun B N h1 h2 h3 => ?_⟩
  have hn := h.ne
  have hsa := hb.size
  have hs7 := hg.size
  exact (Stp.below hb (by omega) (by omega) (Blk.lt h.xb)).trans ((Stp.own own hg (by omega) h1 hn.2.2.2 (Blk.below h.xb hb (Blk.lt h.xb))).trans (Stp.set k4 kb h2 hn.2.2.1 (by omega) _))
def TellI (base room g X X2 X3 X4 : Nat) (told : List Nat) (W : World) : Prop := ∃ A cc, TellX base room g X X2 X3 X4 told A cc W
theorem TellI.kept {base room g X X2 X3 X4 : Nat} {told : List Nat} {W W' : World} (h : TellI base room g X X2 X3 X4 told W) (k : CsT g W W') : TellI base room g X X2 X3 X4 told W' := by
  obtain ⟨A, cc, hx⟩ := h
  exact ⟨A, cc, hx.kept k⟩
theorem TellI.own {base room g X X2 X3 X4 N : Nat} : OwnFrom N (TellI base room g X X2 X3 X4) := fun _ _ _ _ hs hg hr => hs.kept (CsT.of_own hg hr)
/-- A round has left: why, and what stands. -/
def LeftT (W0 : World) (B : Option Addr) (nb c : Nat) (b : List Nat) (base room g X X2 X3 X4 : Nat) (told : List Nat) (t : St) (W : World) : Prop :=
  ∃ e, plT room told t = .error e ∧ RdrAt W0 W g B nb c b (.error e) ∧ TellI base room g X X2 X3 X4 told W
/-- What tell answers. -/
def TellRes (W0 : World) (g : Nat) (B : Option Addr) (nb c : Nat) (b : List Nat) (R : Except Nat Ss) (r : Ending) (w' : World) : Prop :=
  ∃ (s : Rs) (told : List Nat) (A : Option Addr) (cc : Nat), r = .returned (.slice A told.length cc) ∧ Rd w' A (u8s told) ∧ RdrAt W0 w' g B nb c b s ∧ (∀ x ∈ told, x < 256) ∧
    ((∃ s1, R = .ok s1 ∧ s1.told = told ∧ (s1.over = true → s = .ok s1.a) ∧ (s1.over = false → s = .error 10)) ∨ ∃ e, e ≠ 10 ∧ R = .error e ∧ s = .error e)
theorem rdr_put {W0 w : World} {g : Nat} {B : Option Addr} {nb c : Nat} {b : List Nat} {s : Rs} (h : RdrAt W0 w g B nb c b s) {l : Nat} {o o' : Obj} (hl : w.heap[l]? = some o) (ho : o.isCells = false) (hW : W0.heap.size ≤ l) : RdrAt W0 (w.putObj l o') g B nb c b s := by
  obtain ⟨a, hb, hm⟩ := h.blk
  have hne : g ≠ l := by
    intro e; subst e
    unfold Blk at hb
    rw [hb] at hl
    injection hl with hl
    subst hl
    cases ho
  exact h.other (grownBy_putObj' _ _ _) hne hW
theorem rdr_own {W0 w w' : World} {g N : Nat} {B : Option Addr} {nb c : Nat} {b : List Nat} {s : Rs} (h : RdrAt W0 w g B nb c b s) {row : Option Nat} (hg : w.grownBy w' row) (hr : ∀ r, row = some r → N ≤ r ∧ ∃ o : Obj, w.heap[r]? = some o ∧ o.isCells = false) (hN : W0.heap.size ≤ N) : RdrAt W0 w' g B nb c b s := by
  cases row with
  | none => exact h.below ⟨hg.os, hg.tape, hg.output, hg.size, fun j hj => hg.block j hj (fun e => by cases e)⟩
  | some r =>
    obtain ⟨h1, o, h2, h3⟩ := hr r rfl
    obtain ⟨a, hb, hm⟩ := h.blk
    refine h.other hg (fun e => ?_) (Nat.le_trans hN h1)
    subst e
    unfold Blk at hb
    rw [hb] at h2
    injection h2 with h2
    subst h2
    cases h3
theorem FinT.put {W0 w : World} {g : Nat} {B : Option Addr} {nb c : Nat} {b : List Nat} {R : Except Nat Ss} {told : List Nat} (h : FinT W0 g B nb c b R told w) {l : Nat} {o o' : Obj} (hl : w.heap[l]? = some o) (ho : o.isCells = false) (hW : W0.heap.size ≤ l) : FinT W0 g B nb c b R told (w.putObj l o') := by
  obtain ⟨s, hr, h2⟩ := h
  exact ⟨s, rdr_put hr hl ho hW, h2⟩
theorem KpT.alloc {B g X N : Nat} {w : World} (o : Obj) (hB : B ≤ N) (hg : g < N) (hX : X < N) (hN : N ≤ w.heap.size) : KpT B g X w (w.alloc o) :=
  ⟨fun j hj => Below.heap_alloc _ _ _ (by omega), Below.heap_alloc _ _ _ (by omega), Below.heap_alloc _ _ _ (by omega), fun j cs t fr hj _ => Below.heap_alloc _ _ _ (Array.getElem?_eq_some_iff.1 hj).1, by simp, rfl, rfl, rfl⟩
theorem ChT.other {g : Nat} {A B : World} (h : ChT g A B) (j : Nat) (o : Obj) (hne : j ≠ g) (hj : A.heap[j]? = some o) (ho : o.isCells = false) : B.heap[j]? = some o :=
  (h.blk j (Array.getElem?_eq_some_iff.1 hj).1 hne (fun cs fr e => by
    rw [hj] at e
    injection e with e
    subst e
    cases ho)).trans hj
/-- append, in a round. -/
theorem growR {l m0 : Nat} {P : Program} {ops : Array Oper} {rest : List Oper} {o : Oper} {a : Act} {w : World} {Q : Exit → Act → World → Prop} {t e : TypeId} {size bytes : Nat} (E : Elem P t e size bytes) (hgd : o.guard = none) (s x : Operand)
    (ho : o.op = .call { callee := .builtin .append, args := #[s, x], argTypes := #[t, t] })
    {base : Nat} {A : Option Addr} {n c : Nat} {xs : List Value} (hs : a.eval s = .slice A n c) (hown : w.ownsRow base e size (.slice A n c) n xs) (hbase : base ≤ w.heap.size)
    {B : Option Addr} {m d : Nat} {news : List Value} (hx : a.eval x = .slice B m d) (hr : Rd w B news) (hlen : news.length = m * size) (h1 : ∀ u ∈ news, u.oneCell' = true)
    (k : Nat) (hk : n + m = k) (ys : List Value) (hys : xs ++ news = ys) (h63 : k ≤ 1000000000) (hby : bytes ≤ 1000)
    (h : ∀ A' c' w', w'.ownsRow base e size (.slice A' k c') k ys → w.grownBy w' (Value.slice A n c).ownBlock → wpListIn (Fence.wide.inRound l) m0 P ops Q rest (a.put o.dst (.slice A' k c')) w') : wpListIn (Fence.wide.inRound l) m0 P ops Q (o :: rest) a w :=
  wpListIn_plain hgd fun K hK => by
    subst hk hys
    obtain ⟨A', c', w', hrun, h2, h3⟩ := run_grow_own E o.type hown hbase d hr hlen h1 h63 hby
    unfold Oper.wpIn
    refine ⟨fun _ _ => trivial, ?_⟩
    rw [Oper.semAt_eq _ _ _ (fun c hc => by rw [ho] at hc; cases hc)]
    unfold execOp
    simp only [ho, resolve, invoke, builtin, Sem.run_bind, Sem.run_pure, Result.andThen_ok, List.map_toArray, List.map_cons, List.map_nil, hs, hx, hrun]
    exact hK _ _ (h A' c' w' h2 h3)
theorem tel_dd {ds : List (Option Tmp)} {k : Nat} {dst : Option Tmp} (h : ((List.range ds.length).all fun m => m == k || dst.isNone || ds.getD m none != dst) = true) : ∀ m d, m ≠ k → dst = some d → ds.getD m none ≠ some d := by
  intro m d hm hd he
  subst hd
  rcases Nat.lt_or_ge m ds.length with hlt | hge
  · have := List.all_eq_true.1 h m (List.mem_range.2 hlt)
    rw [he] at this
    simp [hm] at this
  · rw [List.getD_eq_getElem?_getD, List.getElem?_eq_none hge] at he; cases he
/-- append, as an operation of a drawn region. -/
theorem lands_app {P : Program} {o : Oper} {a : Act} {w : World} {D : Value → World → Prop} {t e : TypeId} {size bytes : Nat} (E : Elem P t e size bytes) (s x : Operand)
    (ho : o.op = .call { callee := .builtin .append, args := #[s, x], argTypes := #[t, t] })
    {base : Nat} {A : Option Addr} {n c : Nat} {xs : List Value} (hs : a.eval s = .slice A n c) (hown : w.ownsRow base e size (.slice A n c) n xs) (hbase : base ≤ w.heap.size)
    {B : Option Addr} {m d : Nat} {news : List Value} (hx : a.eval x = .slice B m d) (hr : Rd w B news) (hlen : news.length = m * size) (h1 : ∀ u ∈ news, u.oneCell' = true)
    (k : Nat) (hk : n + m = k) (ys : List Value) (hys : xs ++ news = ys) (h63 : k ≤ 1000000000) (hby : bytes ≤ 1000)
    (h : ∀ A' c' w', w'.ownsRow base e size (.slice A' k c') k ys → w.grownBy w' (Value.slice A n c).ownBlock → D (.slice A' k c') w') : lands P D ((execOp a.eval o).run P w) := by
  subst hk hys
  obtain ⟨A', c', w', hrun, h2, h3⟩ := run_grow_own E o.type hown hbase d hr hlen h1 h63 hby
  unfold execOp
  simp only [ho, resolve, invoke, builtin, Sem.run_bind, Sem.run_pure, Result.andThen_ok, List.map_toArray, List.map_cons, List.map_nil, hs, hx, hrun]
  exact h A' c' w' h2 h3
/-- The worlds of a region that appends a byte that stands in the row. -/
def telD (w0 : World) (X2 X4 M x cc : Nat) (A : Option Addr) (L : List Nat) (k : Nat) (vs : Nat → Value) (w : World) : Prop :=
  if k = 0 then w = w0
  else if k = 1 then vs 0 = .slice (some ⟨w0.heap.size, 0, none⟩) 1 1 ∧ w = w0.alloc (.cells #[.int .u8 (x : Int)] 5)
  else if k = 2 then ∃ A' c', vs 1 = .slice A' (M + 1) c' ∧ w.ownsRow X2 5 1 (.slice A' (M + 1) c') (M + 1) (u8s L) ∧ (w0.alloc (.cells #[.int .u8 (x : Int)] 5)).grownBy w (Value.slice A M cc).ownBlock
  else ∃ A' c' wc, wc.ownsRow X2 5 1 (.slice A' (M + 1) c') (M + 1) (u8s L) ∧ (w0.alloc (.cells #[.int .u8 (x : Int)] 5)).grownBy wc (Value.slice A M cc).ownBlock ∧ w = wc.setCell ⟨X4, 0, none⟩ (.slice A' (M + 1) c')
/-- A block that stands in the region's worlds ahead of the store. -/
theorem telD.blk {w0 w : World} {X2 X4 M x cc k g : Nat} {A : Option Addr} {L : List Nat} {vs : Nat → Value} {t : TypeId} {cs : Array Value} {xs : List Value} (h : telD w0 X2 X4 M x cc A L k vs w) (hk : k ≤ 2) (ho : w0.ownsRow X2 5 1 (.slice A M cc) M xs) (hb : Blk w0 g t cs) (ht : 5 ≠ t) : Blk w g t cs := by
  unfold telD at h
  by_cases h0 : k = 0
  · rw [if_pos h0] at h; subst h; exact hb
  · rw [if_neg h0] at h
    have hb1 : Blk (w0.alloc (.cells #[.int .u8 (x : Int)] 5)) g t cs := Blk.alloc hb _
    by_cases h1 : k = 1
    · rw [if_pos h1] at h; rw [h.2]; exact hb1
    · rw [if_neg h1, if_pos (by omega)] at h
      obtain ⟨A', c', _, _, hg⟩ := h
      exact Blk.grown hb1 hg (own_blk_ne (own_below ho ((Below.refl _ _).alloc (Nat.le_refl _) _)) hb1 ht).symm
/-- A reader that stands at the same place is the same block. -/
theorem rdr_same {W0 w w' : World} {g : Nat} {B : Option Addr} {nb c : Nat} {b : List Nat} {a : Nat} (h : RdrAt W0 w g B nb c b (.ok a)) (h' : RdrAt W0 w' g B nb c b (.ok a)) (hg : w.grownBy w' (some g)) : Below w.heap.size w w' := by
  obtain ⟨av, hb, h1⟩ := h.blk
  obtain ⟨av', hb', h1'⟩ := h'.blk
  rw [h1 a rfl] at hb
  rw [h1' a rfl] at hb'
  refine ⟨hg.os, hg.tape, hg.output, hg.size, fun k hk => ?_⟩
  by_cases e : k = g
  · subst e; exact Eq.trans hb' (Eq.symm hb)
  · exact hg.block k hk (fun e' => e (by injection e'))
/-- Behind the loop. -/
theorem TellX.end_ {base room g X X2 X3 X4 : Nat} {told : List Nat} {A : Option Addr} {cc : Nat} {W0 W : World} {B : Option Addr} {nb c : Nat} {b : List Nat} {s : Rs} {D : Nat} {o : Obj} (h : TellX base room g X X2 X3 X4 told A cc W) (hr : RdrAt W0 W g B nb c b s) (hd : W.heap[D]? = some o) (ho : o.isCells = false) (hD : W0.heap.size ≤ D) (o' : Obj) :
    (W.putObj D o').cell? ⟨X4, 0, none⟩ = some (.slice A told.length cc) ∧ Rd (W.putObj D o') A (u8s told) ∧ RdrAt W0 (W.putObj D o') g B nb c b s := by
  have h2 := h.kept (CsT.of_own (g := g) (N := 0) (grownBy_putObj' W D o') (fun r e => by injection e with e; subst e; exact ⟨Nat.zero_le _, o, hd, ho⟩))
  exact ⟨Blk.cell h2.x4 0, own_rd h2.own, rdr_put hr hd ho hD⟩
theorem max_one (n : Nat) : (if (1 : Int) < (n : Int) then (n : Int) else 1) = (((if n = 0 then 1 else n : Nat) : Nat) : Int) := by
  by_cases h : n = 0
  · subst h; rfl
  · rw [if_neg h]; split <;> omega

set_option maxRecDepth 100000 in
set_option maxHeartbeats 8000000 in
theorem rdtell_any (W0 W : World) (room g : Nat) (B : Option Addr) (nb c : Nat) (b : List Nat) (hroom : room ≤ 131072) (h : RdrAt W0 W g B nb c b (.ok 0)) :
    Calls Try.prog 24 #[.pointer (some ⟨g, 0, none⟩), .int .i64 (room : Int)] W fun r w' => TellRes W0 g B nb c b (tellR room b 0) r w' := by
  have HTK := Lib.hid fun wx => tokens_is g wx
  have hglt := h.lt
  have hWW := h.bel.size
  refine (callsIn_wide (n := 9)).1 ?_
  refine callsIn_of_wp_marks Try.func24 rfl trivial ?_ rfl
  simp only [Try.ntmps24, List.size_toArray, List.length_cons, List.length_nil, Nat.reduceAdd, Nat.reduceSub, Array.replicate_succ, Array.replicate_zero, List.push_toArray, List.append_toArray, List.nil_append, List.cons_append]
  refine wpIn_wide.2 ?_
  go_upto_region 1 with fail
  obtain ⟨W1, hW1⟩ : ∃ W1, ((W.alloc (.cells #[.pointer (some ⟨g, 0, none⟩)] 59)).alloc (.cells #[.int .i64 (room : Int)] 3)).alloc (.cells #[.slice none 0 0] 22) = W1 := ⟨_, rfl⟩
  have hb1 : Below W.heap.size W W1 := by rw [← hW1]; exact (((Below.refl _ _).alloc (Nat.le_refl _) _).alloc (by simp) _).alloc (by simp only [World.size_alloc]; omega) _
  have hs1 : W1.heap.size = W.heap.size + 3 := by rw [← hW1]; simp
  have k2 : Blk W1 W.heap.size 59 #[.pointer (some ⟨g, 0, none⟩)] := by rw [← hW1]; exact Blk.alloc (Blk.alloc (Blk.new _ _ _) _) _
  have k3 : Blk W1 (W.heap.size + 1) 3 #[.int .i64 (room : Int)] := by rw [← hW1]; exact Blk.alloc (Blk.new' _ _ _ _ (by simp)) _
  have k4 : Blk W1 (W.heap.size + 2) 22 #[.slice none 0 0] := by rw [← hW1]; exact Blk.new' _ _ _ _ (by simp)
  have e3 : W.heap.size + 1 + 1 = W.heap.size + 2 := rfl
  rw [hW1, e3]
  have hr1 := h.below hb1
  have hX4X : W.heap.size + 2 < W1.heap.size := Blk.lt k4
  have hX2 : W.heap.size ≠ g ∧ W.heap.size + 1 ≠ g ∧ W.heap.size + 2 ≠ g ∧ g < W.heap.size := by omega
  obtain ⟨X2, hX2e⟩ : ∃ X2, W.heap.size = X2 := ⟨_, rfl⟩
  obtain ⟨X3, hX3e⟩ : ∃ X3, W.heap.size + 1 = X3 := ⟨_, rfl⟩
  obtain ⟨X4, hX4e⟩ : ∃ X4, W.heap.size + 2 = X4 := ⟨_, rfl⟩
  rw [hX4e, hX3e, hX2e] at hX2
  rw [hX2e] at k2 hs1
  rw [hX3e] at k3
  rw [hX4e] at k4 hX4X
  have hW4 : W0.heap.size ≤ X4 := by omega
  have hWX2 : W0.heap.size ≤ X2 := by omega
  rw [hX4e, hX3e, hX2e]
  have HX := Lib.hid (And.intro hX2e (And.intro hX3e (And.intro hX4e hWW)))
  have c2 := Blk.cells k2
  clear hW1 hX2e hX3e hX4e hs1 e3 hglt hWW hb1 h
  go_wp2_with (go_at_call 30; refine (HTK.out _).mono ?_; rintro e w2 ⟨rfl, hw2⟩)
  obtain ⟨X, hXe⟩ : ∃ X, W1.heap.size = X := ⟨_, rfl⟩
  have hbw2 : Below W1.heap.size W1 w2 := by rw [hw2]; exact (Below.refl _ _).alloc (Nat.le_refl _) _
  have hx2 : Blk w2 X 59 #[.pointer (some ⟨g, 0, none⟩)] := by rw [hw2, ← hXe]; exact Blk.new _ _ _
  have hsz : w2.heap.size = X + 1 := by rw [hw2, ← hXe]; simp
  have hr2 := hr1.below hbw2
  have hgX : g < X := by have := hr1.lt; omega
  have hI2 : TellI X2 room g X X2 X3 X4 [] w2 := ⟨none, 0, hx2, Blk.below k2 hbw2 (Blk.lt k2), Blk.below k3 hbw2 (Blk.lt k3), Blk.below k4 hbw2 (Blk.lt k4), World.ownsRow_nil _ _ _ _, Nat.zero_le _, fun x hx => (by cases hx), hX2, by omega⟩
  have hW0 : W0.heap.size ≤ X := by have := hr1.bel.size; omega
  rw [hXe] at hX4X
  rw [hXe, ← hw2]
  clear c2 hw2 hbw2 hr1 hXe k2 k3 k4
  refine' wpIn_wide.1 (wpIn_rowsS (F := Fence.wide) (n := 9) (encs := encT) (Kp := KpT W0.heap.size g X) (Ch := ChT g) rfl (by omega) (gf := 39) (lb := #[.pointer (some ⟨X, 0, none⟩)]) ?geval trivial (enters_of Try.func39 (by kernel_rfl) rfl)
    (tk_rounds 8 (by omega) W0 room g X B nb c b) (fun h k => h.trans k) (fun _ _ _ _ hl hlo hc _ => KpT.put (by omega) (by omega) (by omega) hlo hc) (fun A B j o hj hc h1 h2 => ChT.other hc j o (by omega) h1 h2) (fun o o' => ⟨(hr2.alloc o).alloc o', Blk.alloc (Blk.alloc hx2 o) o'⟩) (fun _ => rfl)
    (TellI X2 room g X X2 X3 X4) (LeftT W0 B nb c b X2 room g X X2 X3 X4) TellI.own (fun t A B h k => h.kept (CsT.of_ch k)) (fun p A B row hs hg hr => by
      obtain ⟨e, h1, h2, h3⟩ := hs
      exact ⟨e, h1, rdr_own h2 hg hr (by omega), h3.kept (CsT.of_own hg hr)⟩) (fun t W l o o' hl hlo hc hf => hf.put hlo hc (by omega)) hI2
    (fun t => .cells #[.int .u8 (t.lit : Int), .int .i64 (t.dist : Int), .int .i64 (t.long : Int)] 73) _ (fun W o hW => KpT.alloc o (by omega) (by omega) (by omega) hW) (fun t x W o hok => ⟨hok.1, hok.2.1, hok.2.2.choose, hok.2.2.choose_spec.alloc o⟩) ?assign (fun t x W l o o' hl hlo hc hok => ⟨hok.1, hok.2.1, hok.2.2.choose, rdr_put hok.2.2.choose_spec hlo hc (by omega)⟩) ?body ?done ?left)
  case assign =>
    intro l x W p K hp hK
    gi_wp2
    exact hK
  case geval => rfl
  case body =>
    rintro lp told ⟨dist, long, lit, fin⟩ W4 p hI ⟨hst, hfin, a, hr⟩ hp
    dsimp only at hfin
    subst hfin
    have kt : Blk W4 p 73 #[.int .u8 (lit : Int), .int .i64 (dist : Int), .int .i64 (long : Int)] := hp
    obtain ⟨A, cc, hX⟩ := hI
    have hpg : p ≠ g := by
      intro e; subst e
      obtain ⟨av, hb, _⟩ := hr.blk
      unfold Blk at hb kt
      rw [hb] at kt
      injection kt with kt
      injection kt with _ kt
      exact absurd kt (by decide)
    have hd := hst.dist
    have hlg := hst.long
    dsimp only at hd hlg
    have hLr := hX.len
    obtain ⟨L, hL⟩ : ∃ L, told.length = L := ⟨_, rfl⟩
    obtain ⟨n, hn⟩ : ∃ n, (if long = 0 then 1 else long) = n := ⟨_, rfl⟩
    have hn1 : 1 ≤ n ∧ n ≤ 258 := by split at hn <;> omega
    have em : (if (1 : Int) < (long : Int) then (long : Int) else 1) = (n : Int) := by rw [max_one, hn]
    have HF1 := Lib.hid fun wx u (hx : RdrAt W0 wx g B nb c b (.ok a)) => rfail_any W0 wx g B nb c b (.ok a) u 60 (fun _ => by omega) hx
    have HF2 := Lib.hid fun wx s u (hx : RdrAt W0 wx g B nb c b s) => rfail_any W0 wx g B nb c b s u 140 (fun _ => by omega) hx
    have ct := Blk.cells kt
    have cx2 := Blk.cells hX.x2
    have cx3 := Blk.cells hX.x3
    have cx4 := Blk.cells hX.x4
    rw [hL] at cx4 hLr
    have HN := Lib.hid (And.intro hL (And.intro hn hst))
    have HI := Lib.hid (And.intro hX (And.intro kt hr))
    clear hL hn hst hX hr hp kt
    dsimp only
    gi_wp2
    refine ⟨trivial, (CallsIn.inRound lp (callsIn_wide.2 (HF1.out W4 _ HI.out.2.2))).mono ?_⟩
    rintro e w5 ⟨rfl, hr5, g5⟩
    have hX5 := HI.out.1.kept (CsT.of_only g5)
    have kt5 := Blk.grown HI.out.2.1 g5 (by intro e; injection e with e; exact hpg e)
    clear ct cx2 cx3 cx4
    have ct := Blk.cells kt5
    have cx2 := Blk.cells hX5.x2
    have cx3 := Blk.cells hX5.x3
    have cx4 := Blk.cells hX5.x4
    rw [HN.out.1] at cx4
    gi_wp2
    refine ⟨trivial, (CallsIn.inRound lp (callsIn_wide.2 (HF2.out w5 _ _ hr5))).mono ?_⟩
    rintro e w6 ⟨rfl, hr6, g6⟩
    have hX6 := hX5.kept (CsT.of_only g6)
    have kt6 := Blk.grown kt5 g6 (by intro e; injection e with e; exact hpg e)
    have g46 := only_trans g5 g6
    clear hX5 kt5 g5 g6 hr5 ct cx2 cx3 cx4
    have ct := Blk.cells kt6
    have cx2 := Blk.cells hX6.x2
    have cx3 := Blk.cells hX6.x3
    have cx4 := Blk.cells hX6.x4
    have fx4 := Blk.frozens hX6.x4
    rw [HN.out.1] at cx4
    by_cases hbad : L < dist ∨ room < L + n
    · obtain ⟨e, he1, he2, he0⟩ : ∃ e, rsFail (rsFail (.ok a) (decide (dist ≤ L)) 60) (decide ((L : Int) + (n : Int) ≤ (room : Int))) 140 = .error e ∧ plT room told ⟨dist, long, lit, false⟩ = .error e ∧ e ≠ 0 := by
        unfold plT
        rw [HN.out.1]
        dsimp only
        rw [HN.out.2.1]
        by_cases h1 : L < dist
        · exact ⟨60, by rw [decide_eq_false (by omega : ¬ dist ≤ L)]; rfl, by rw [if_pos h1], by omega⟩
        · exact ⟨140, by rw [decide_eq_true (by omega : dist ≤ L), decide_eq_false (by omega : ¬ ((L : Int) + (n : Int) ≤ (room : Int)))]; rfl, by rw [if_neg h1, if_pos (by omega)], by omega⟩
      rw [he1] at hr6
      obtain ⟨av, hbk, _⟩ := hr6.blk
      have c2 : w6.cell? ⟨g, 2, none⟩ = some (.int .i64 (e : Int)) := hbk.cell 2
      have hne : ¬ ((e : Int) = 0) := by omega
      have hn0 : nxtT room told ⟨dist, long, lit, false⟩ = none := by unfold nxtT; rw [he2]
      have HE := Lib.hid (And.intro he2 hn0)
      clear he1 he2 hn0 hbk
      gi_wp2
      have gz : w6.grownBy (w6.setCell ⟨X4, 0, none⟩ (.slice A L cc)) (some X4) := only_set (only_self _ _) 0 _
      have hX7 := (hX6.next (Below.refl _ _) (World.grownBy.refl _ _) hX6.own hX6.len hX6.byte rfl).2.1
      rw [HN.out.1] at hX7
      have hgh : g < w6.heap.size := hr6.lt
      unfold WentS
      rw [HE.out.2]
      exact ⟨rfl, (KeepsFrom.of_grownBy g46 (fun j hj => by injection hj with hj; omega)).trans (Stp.set hX6.x4 hX6.xb hW4 hX6.ne.2.2.1 hgh _).kf, e, HE.out.1, hr6.other gz hX6.ne.2.2.1.symm hW4, A, cc, hX7⟩
    · obtain ⟨he1, he2⟩ : rsFail (rsFail (.ok a) (decide (dist ≤ L)) 60) (decide ((L : Int) + (n : Int) ≤ (room : Int))) 140 = .ok a ∧ plT room told ⟨dist, long, lit, false⟩ = .ok (told ++ moreT told ⟨dist, long, lit, false⟩) := by
        unfold plT
        rw [HN.out.1]
        dsimp only
        rw [HN.out.2.1, decide_eq_true (by omega : dist ≤ L), decide_eq_true (by omega : ((L : Int) + (n : Int) ≤ (room : Int))), if_neg (by omega), if_neg (by omega)]
        exact ⟨rfl, rfl⟩
      rw [he1] at hr6
      obtain ⟨av, hbk, _⟩ := hr6.blk
      have c2 : w6.cell? ⟨g, 2, none⟩ = some (.int .i64 0) := hbk.cell 2
      have hn0 : nxtT room told ⟨dist, long, lit, false⟩ = some (told ++ moreT told ⟨dist, long, lit, false⟩) := by unfold nxtT; rw [he2]
      have HE := Lib.hid hn0
      have hb46 : Below W4.heap.size W4 w6 := rdr_same HI.out.2.2 hr6 g46
      have hg6 := hr6.lt
      have hown6 : w6.ownsRow X2 5 1 (.slice A L cc) L (u8s told) := HN.out.1 ▸ hX6.own
      have hb26 : X2 ≤ w6.heap.size := Nat.le_of_lt (Blk.lt hX6.x2)
      have hba : ∀ o, Below w6.heap.size w6 (w6.alloc o) := fun o => (Below.refl _ _).alloc (Nat.le_refl _) o
      have hg4 : g < W4.heap.size := HI.out.2.2.lt
      have hW04 : W0.heap.size ≤ W4.heap.size := HI.out.2.2.bel.size
      clear he1 he2 hn0 hbk hr6 g46
      by_cases hlong : long = 0
      · subst hlong
        gi_wp2_with (gi_at_builtin; go_loud (refine growR selem_u8 rfl (.tmp 37) (.tmp 40) rfl rfl (own_below hown6 (hba _)) (Nat.le_trans hb26 (hba _).size) rfl (Rd.new' _ _ _ (u8s [lit]) _ (by simp) rfl) rfl (u8s_one _) (L + 1) rfl (u8s (told ++ [lit])) (u8s_append told [lit]).symm (by omega) (by omega) ?_); intro A2 c2' w7 own7 hg7; have hX7 := hX6.next (n' := L + 1) (hba _) (HN.out.1.symm ▸ hg7) own7 (by rw [List.length_append, HN.out.1]; simp only [List.length_cons, List.length_nil]; omega) (by intro x hx; rcases List.mem_append.1 hx with h | h; exact hX6.byte x h; rw [List.mem_singleton.1 h]; exact HN.out.2.2.lit) (by rw [List.length_append, HN.out.1]; rfl); have cx7 := Blk.cells hX7.1; have fx7 := Blk.frozens hX7.1)
        have hst := (Stp.below (B := W0.heap.size) (N := w2.heap.size) (X := X) hb46 (by omega) hg4 (Blk.lt HI.out.1.xb)).trans (hX7.2.2 _ w2.heap.size hWX2 hW4 hb26)
        unfold WentS
        rw [HE.out]
        exact ⟨rfl, hst.kf, hst.kp, A2, c2', hX7.2.1⟩
      · have hl0 : ((long : Int) == 0) = false := by rw [beq_eq_false_iff_ne]; omega
        have hnl : n = long := by rw [← HN.out.2.1, if_neg hlong]
        have hd1 := (HN.out.2.2.both hlong).2
        dsimp only at hd1
        have hst0 := Stp.below (B := W0.heap.size) (N := w2.heap.size) (X := X) hb46 hW04 hg4 (Blk.lt HI.out.1.xb)
        have HML := Lib.hid (show told ++ moreT told ⟨dist, long, lit, false⟩ = copyL told dist n by unfold moreT; dsimp only; rw [if_neg hlong, hnl]; exact copyL_split _ _ _)
        clear hnl
        gi_wp2
        gi_loopw [43] (fun v43 wr => ∃ (j : Nat) (A : Option Addr) (cc : Nat), j ≤ n ∧ v43 = .int .i64 (j : Int) ∧ TellX X2 room g X X2 X3 X4 (copyL told dist j) A cc wr ∧ Stp W0.heap.size w2.heap.size g X W4 wr ∧ Blk wr p 73 #[.int .u8 (lit : Int), .int .i64 (dist : Int), .int .i64 (long : Int)])
          (fun v43 _ => n - (intOf v43).toNat)
        case atStart => exact ⟨0, A, cc, Nat.zero_le _, rfl, hX6, hst0, kt6⟩
        case round =>
          clear hst0 hX6 kt6 ct cx2 cx3 cx4 fx4 hown6 hba hb46 c2
          obtain ⟨j, A, cc, hj, rfl, hX6, hst, kt6⟩ := hrel
          have ct := Blk.cells kt6
          have cx4 := Blk.cells hX6.x4
          have fx4 := Blk.frozens hX6.x4
          obtain ⟨M, hM⟩ : ∃ M, (copyL told dist j).length = M := ⟨_, rfl⟩
          have hML : M = L + j := by rw [← hM, copyL_length, HN.out.1]
          rw [hM] at cx4
          have HML2 := Lib.hid hML
          have hM1 : M ≤ 1000000 := by have := hX6.len; omega
          have hdM : dist ≤ M := by omega
          clear hML
          by_cases hlt : j < n
          · have hlt' : (j : Int) < (n : Int) := by omega
            gi_wp2
            obtain ⟨ga, rfl, _⟩ := own_at (hM ▸ hX6.own : wr.ownsRow X2 5 1 (.slice A M cc) M (u8s (copyL told dist j))) (by omega)
            have hX6o : wr.drew.ownsRow X2 5 1 (.slice (some ⟨ga, 0, none⟩) M cc) M (u8s (copyL told dist j)) := own_drew (hM ▸ hX6.own)
            have kx4d : Blk wr.drew X4 22 #[.slice (some ⟨ga, 0, none⟩) M cc] := Blk.drew (by have := hX6.x4; rw [hM] at this; exact this)
            have ktd : Blk wr.drew p 73 #[.int .u8 (lit : Int), .int .i64 (dist : Int), .int .i64 (long : Int)] := Blk.drew kt6
            obtain ⟨x, hx⟩ : ∃ x, nth (copyL told dist j) (M - dist) = x := ⟨_, rfl⟩
            have hx256 : x < 256 := by rw [← hx]; exact nth_lt (copyL_bytes HI.out.1.byte dist j) (by omega) _
            have hcopy : copyL told dist j ++ [x] = copyL told dist (j + 1) := by rw [← hx, ← hM]; rfl
            have celt : wr.drew.cell? ⟨ga, M - dist, none⟩ = some (.int .u8 (x : Int)) := by
              obtain ⟨b', off', he', hcell⟩ := (own_rd hX6o).at_ (by rw [u8s_length, hM]; omega)
              simp only [Option.some.injEq, Addr.mk.injEq, and_true] at he'
              obtain ⟨rfl, rfl⟩ := he'
              have := hcell (M - dist) _ (u8s_get _ _ (by rw [hM]; omega))
              rw [Nat.zero_add, hx] at this
              exact this
            have e6 : IntKind.i64.wrap ((M : Int) - (dist : Int)) = ((M - dist : Nat) : Int) := by rw [IntWalk.i64_in _ (by omega)]; omega
            have hmd : M - dist < M := by omega
            have hmc : M ≤ cc := own_cap hX6o
            have hX2w : X2 ≤ wr.drew.heap.size := Nat.le_of_lt (Blk.lt (Blk.drew hX6.x2))
            refine wpIn_region_moves wr.drew (fun i => if i = 9 then some (fun u => u = .slice (some ⟨wr.drew.heap.size, 0, none⟩) 1 1) else if i = 10 then some (fun u => ∃ A' c', u = .slice A' (M + 1) c') else if i = 11 then some (fun _ => True) else none)
              (chainC 58 [9, 10, 11] [some 54, some 55, none] [(2, 0), (2, 1), (2, 2), (2, 5), (0, 8)] (telD wr.drew X2 X4 M x cc (some ⟨ga, 0, none⟩) (copyL told dist (j + 1)))) (by kernel_rfl) (by kernel_rfl) (by kernel_rfl) (by kernel_rfl) (chain_new rfl rfl) ?_
            refine move_early 2 (v := .slice (some ⟨ga, 0, none⟩) M cc) (by decide) (by decide) rfl rfl ⟨0, fun _ => undef, Nat.zero_le _, rfl⟩ (by decide) (by decide) (fun k vs w hk h => ?_) (fun K hK => ?_)
            · have cx := Blk.cells (h.blk hk hX6o kx4d (by decide))
              clear h
              go_simp
            go_simp
            refine hK _ ?_
            clear hK K
            refine move_early 2 (v := .slice (some ⟨ga, 0, none⟩) M cc) (by decide) (by decide) rfl rfl ⟨0, fun _ => undef, Nat.zero_le _, rfl⟩ (by decide) (by decide) (fun k vs w hk h => ?_) (fun K hK => ?_)
            · have cx := Blk.cells (h.blk hk hX6o kx4d (by decide))
              clear h
              go_simp
            go_simp
            refine hK _ ?_
            clear hK K
            refine move_early 2 (v := .slice (some ⟨ga, 0, none⟩) M cc) (by decide) (by decide) rfl rfl ⟨0, fun _ => undef, Nat.zero_le _, rfl⟩ (by decide) (by decide) (fun k vs w hk h => ?_) (fun K hK => ?_)
            · have cx := Blk.cells (h.blk hk hX6o kx4d (by decide))
              clear h
              go_simp
            go_simp
            refine hK _ ?_
            clear hK K
            refine move_read (v := .int .i64 (M : Int)) (by decide) (by decide) rfl (.inl rfl) (fun k vs w h => ?_) (fun K hK => ?_)
            · go_simp
            go_simp
            refine hK _ ?_
            clear hK K
            refine move_read (v := .pointer (some ⟨p, 1, none⟩)) (by decide) (by decide) rfl (.inl rfl) (fun k vs w h => ?_) (fun K hK => ?_)
            · go_simp
            go_simp
            refine hK _ ?_
            clear hK K
            refine move_early 2 (v := .int .i64 (dist : Int)) (by decide) (by decide) rfl rfl ⟨0, fun _ => undef, Nat.zero_le _, rfl⟩ (by decide) (by decide) (fun k vs w hk h => ?_) (fun K hK => ?_)
            · have cx := Blk.cells (h.blk hk hX6o ktd (by decide))
              clear h
              go_simp
            go_simp
            refine hK _ ?_
            clear hK K
            refine move_read (v := .int .i64 ((M - dist : Nat) : Int)) (by decide) (by decide) rfl (.inl rfl) (fun k vs w h => ?_) (fun K hK => ?_)
            · go_simp
            go_simp
            refine hK _ ?_
            clear hK K
            refine move_read (v := .pointer (some ⟨ga, M - dist, none⟩)) (by decide) (by decide) rfl (.inl rfl) (fun k vs w h => ?_) (fun K hK => ?_)
            · go_simp
            go_simp
            refine hK _ ?_
            clear hK K
            refine move_early 0 (v := .int .u8 (x : Int)) (by decide) (by decide) rfl rfl ⟨0, fun _ => undef, Nat.zero_le _, rfl⟩ (by decide) (by decide) (fun k vs w hk h => ?_) (fun K hK => ?_)
            · obtain rfl : k = 0 := by omega
              obtain rfl : w = wr.drew := h
              go_simp
            go_simp
            refine hK _ ?_
            clear hK K
            refine move_at 0 (fun u => u = .slice (some ⟨wr.drew.heap.size, 0, none⟩) 1 1) rfl (by decide) rfl (by decide) rfl (tel_dd rfl) (by first | kernel_rfl | decide | simp [Region.binds]) (fun d hd => by first | (cases hd; done) | (cases hd; decide)) rfl ⟨_, rfl⟩ (fun vs w h hvs => ?_) (fun v hv K hK => ?_)
            · obtain rfl : w = wr.drew := h
              go_simp
              exact ⟨rfl, rfl, rfl⟩
            subst hv
            go_simp
            refine hK _ ?_
            clear hK K
            refine move_at 1 (fun u => ∃ A' c', u = .slice A' (M + 1) c') rfl (by decide) rfl (by decide) rfl (tel_dd rfl) (by first | kernel_rfl | decide | simp [Region.binds]) (fun d hd => by first | (cases hd; done) | (cases hd; decide)) rfl ⟨_, none, 0, rfl⟩ (fun vs w h hvs => ?_) (fun v hv K hK => ?_)
            · obtain ⟨_, rfl⟩ := h
              exact lands_app selem_u8 (.tmp 45) (.tmp 54) rfl rfl (own_below hX6o ((Below.refl _ _).alloc (Nat.le_refl _) _)) (Nat.le_trans hX2w (by simp)) rfl (Rd.new' _ _ _ (u8s [x]) _ rfl rfl) rfl (u8s_one _) (M + 1) rfl (u8s (copyL told dist (j + 1))) (by rw [← hcopy]; exact (u8s_append _ [x]).symm) (by omega) (by omega) (fun A' c' w' own hg => ⟨⟨A', c', rfl⟩, A', c', rfl, own, hg⟩)
            obtain ⟨A', c', rfl⟩ := hv
            go_simp
            refine hK _ ?_
            clear hK K
            refine move_at 2 (fun _ => True) rfl (by decide) rfl (by decide) rfl (tel_dd rfl) (by first | kernel_rfl | decide | simp [Region.binds]) (fun d hd => by first | (cases hd; done) | (cases hd; decide)) rfl ⟨undef, trivial⟩ (fun vs w h hvs => ?_) (fun v hv K hK => ?_)
            · have kb := h.blk (by omega) hX6o kx4d (by decide)
              obtain ⟨A2, c2, hv1, own, hg⟩ := h
              have h55 : vs 1 = .slice A' (M + 1) c' := hvs 1 55 rfl (by simp [Op.operands])
              have e1 : Value.slice A' (M + 1) c' = .slice A2 (M + 1) c2 := h55.symm.trans hv1
              injection e1 with e1 _ e2
              subst e1 e2
              have cx := Blk.cells kb
              have fx := Blk.frozens kb
              clear hvs
              go_simp
              exact ⟨A', c', w, own, hg, rfl⟩
            clear hv
            go_simp
            refine hK _ ?_
            clear hK K
            show ∀ L w', _ → _ → _
            intro Lz wz hL hC
            have hE := chain_end hC hL (by decide)
            obtain ⟨A2, c2, wc, own, hg, rfl⟩ := hE
            have hb0 : Below wr.heap.size wr (wr.drew.alloc (.cells #[.int .u8 (x : Int)] 5)) := ((Below.refl _ _).drew).alloc (Nat.le_refl _) _
            have hX7 := hX6.next (n' := M + 1) hb0 (hM.symm ▸ hg) own (by rw [copyL_length, HN.out.1]; omega) (copyL_bytes HI.out.1.byte dist _) (by rw [copyL_length, HN.out.1]; have := HML2.out; omega)
            have hst7 := hst.trans (hX7.2.2 W0.heap.size w2.heap.size hWX2 hW4 hX2w)
            have kt7 : Blk wc p 73 #[.int .u8 (lit : Int), .int .i64 (dist : Int), .int .i64 (long : Int)] := Blk.grown (Blk.alloc ktd _) hg (own_blk_ne (own_below hX6o ((Below.refl _ _).alloc (Nat.le_refl _) (.cells #[.int .u8 (x : Int)] 5))) (Blk.alloc ktd (.cells #[.int .u8 (x : Int)] 5)) (by decide)).symm
            have kt8 : Blk (wc.setCell ⟨X4, 0, none⟩ (.slice A2 (M + 1) c2)) p 73 #[.int .u8 (lit : Int), .int .i64 (dist : Int), .int .i64 (long : Int)] := Blk.grown kt7 (only_set (only_self wc X4) 0 _) (by
              intro e
              injection e with e
              have h4 := hX7.1
              unfold Blk at h4 kt7
              rw [e] at kt7
              rw [kt7] at h4
              injection h4 with h4
              injection h4 with _ h4
              exact absurd h4 (by decide))
            gi_wp2
            go_roundw
            case rel => exact ⟨j + 1, A2, c2, by omega, by go_num, hX7.2.1, hst7, kt8⟩
            case measure => simp [intOf]; omega
          · obtain rfl : n = j := by omega
            have hlt' : ¬ (n : Int) < (n : Int) := by omega
            gi_wp2
            unfold WentS
            rw [HE.out, HML.out]
            rw [hsz] at hst
            exact ⟨rfl, hst.kf, hst.kp, A, cc, hX6⟩
  case done =>
    rintro D told W4 hD ⟨s, hr, hR⟩ ⟨A, cc, hX⟩ hdef
    have cx4 := Blk.cells hX.x4
    have fx4 := Blk.frozens hX.x4
    go_wp2_with fail
    have gz : W4.grownBy (W4.setCell ⟨X4, 0, none⟩ (.slice A told.length cc)) (some X4) := only_set (only_self _ _) 0 _
    have hdef5 : (W4.setCell ⟨X4, 0, none⟩ (.slice A told.length cc)).heap[D]? = some (.deferred (some [])) := (gz.block D (Array.getElem?_eq_some_iff.1 hdef).1 (by intro e; injection e with e; omega)).trans hdef
    have hX5 := (hX.next (Below.refl _ _) (World.grownBy.refl _ _) hX.own hX.len hX.byte rfl).2.1
    have hr5 := hr.other gz hX.ne.2.2.1.symm hW4
    obtain ⟨c5, hrd, hr6⟩ := hX5.end_ hr5 hdef5 rfl (by omega) (.deferred none)
    refine ⟨by simp, .inl ⟨_, _, rfl, run_takeDeferred hdef5, ?_⟩⟩
    refine ⟨.slice A told.length cc, ?_, ?_⟩
    · simp [results, Try.results24, go_sem, c5]
    · exact ⟨s, told, A, cc, rfl, hrd, hr6, hX.byte, hR⟩
  case left =>
    rintro D told t W4 hD hn ⟨e', hp', hRe⟩ ⟨e, hp, hr, A, cc, hX⟩ hdef
    have he : e' = e := by rw [hp] at hp'; injection hp' with hp'; exact hp'.symm
    subst he
    have he10 : e' ≠ 10 := by
      unfold plT at hp
      by_cases h1 : told.length < t.dist
      · rw [if_pos h1] at hp; injection hp with hp; omega
      · rw [if_neg h1] at hp
        by_cases h2 : room < told.length + (if t.long = 0 then 1 else t.long)
        · rw [if_pos h2] at hp; injection hp with hp; omega
        · rw [if_neg h2] at hp; cases hp
    obtain ⟨c5, hrd, hr6⟩ := hX.end_ hr hdef rfl (by omega) (.deferred none)
    refine wpIn_wide.2 ?_
    go_wp2_with fail
    refine ⟨by simp, .inl ⟨_, _, rfl, run_takeDeferred hdef, ?_⟩⟩
    refine ⟨.slice A told.length cc, ?_, ?_⟩
    · simp [results, Try.results24, go_sem, c5]
    · exact ⟨.error e', told, A, cc, rfl, hrd, hr6, hX.byte, .inr ⟨e', he10, hRe, rfl⟩⟩
end Go.Proofs.Ytahboomghjdjhaa

/-
  Walks: plain.Inflate and plain.Prefix.
-/
namespace Go.Proofs.Ytahboomghjdjhaa
open Go.RowKit

/-- What Inflate answers of a limit that may be. -/
def InfRes (w w' : World) (b : List Nat) (room : Nat) (r : Ending) : Prop := Below w.heap.size w w' ∧ match tellR room b 0 with
  | .error e => e ≠ 0 ∧ e ≠ 10 ∧ r = .returned (.tuple #[.slice none 0 0, .int .i64 0, .int .i64 ((e : Nat) : Int)])
  | .ok s => (s.over = true → ∃ A cc, r = .returned (.tuple #[.slice A s.told.length cc, .int .i64 ((s.a : Nat) : Int), .int .i64 0]) ∧ Rd w' A (u8s s.told)) ∧ (s.over = false → r = .returned (.tuple #[.slice none 0 0, .int .i64 0, .int .i64 10]))
/-- What Prefix answers. -/
def PreRes (w w' : World) (b : List Nat) (room : Nat) (r : Ending) : Prop := Below w.heap.size w w' ∧ match tellR room b 0 with
  | .error e => e ≠ 0 ∧ r = .returned (.tuple #[.slice none 0 0, .int .i64 ((e : Nat) : Int)])
  | .ok s => ∃ A cc, r = .returned (.tuple #[.slice A s.told.length cc, .int .i64 0]) ∧ Rd w' A (u8s s.told)
theorem asked_zero (B : Option Addr) (n c : Nat) (b : List Nat) (w : World) (hB : Rd w B (u8s b)) (hx : ∀ x ∈ b, x < 256) (hn : n = b.length) (hm : n ≤ 100000) :
    Calls Try.prog 23 #[.slice B n c, .int .i64 0] w fun r w' => r = .returned (.tuple #[.pointer (some ⟨w.heap.size, 0, none⟩), .int .i64 0]) ∧ RdrAt w w' w.heap.size B n c b (.ok 0) := by
  have h := rdasked_ok B n c 0 w hm (Nat.zero_le _)
  rw [show ((0 : Nat) : Int) = 0 from rfl] at h
  refine h.mono ?_
  rintro e w1 ⟨h1, h2⟩
  refine ⟨h1, ?_⟩
  rw [h2]
  exact RdrAt.made w w (Below.refl _ _) B n c b 0 hB hx hn hm (Nat.zero_le _)
theorem asked_nil (B : Option Addr) (n c : Nat) (w : World) (hm : n ≤ 100000) :
    Calls Try.prog 23 #[.slice B n c, .int .i64 0] w fun r w' => r = .returned (.tuple #[.pointer (some ⟨w.heap.size, 0, none⟩), .int .i64 0]) ∧ Below w.heap.size w w' := by
  have h := rdasked_ok B n c 0 w hm (Nat.zero_le _)
  rw [show ((0 : Nat) : Int) = 0 from rfl] at h
  refine h.mono ?_
  rintro e w1 ⟨h1, h2⟩
  refine ⟨h1, ?_⟩
  rw [h2]
  exact (Below.refl _ _).alloc (Nat.le_refl _) _
theorem inflate_no (B : Option Addr) (n c : Nat) (most : Int) (w : World) (hm : n ≤ 100000) (h0 : most < 0) :
    Calls Try.prog 13 #[.slice B n c, .int .i64 0, .int .i64 most] w fun r w' => r = .returned (.tuple #[.slice none 0 0, .int .i64 0, .int .i64 2]) ∧ Below w.heap.size w w' := by
  have HA := Lib.hid (asked_nil B n c w hm)
  have h1 : decide (most < 0) = true := decide_eq_true h0
  go_enter Try.func13, Try.ntmps13
  go_wp2_with (go_at_call 23; refine HA.out.mono ?_; rintro e w1 ⟨rfl, hb1⟩)
  refine bodyPost_ret (v := .tuple #[.slice none 0 0, .int .i64 0, .int .i64 2]) (by simp [results, Try.results13, go_sem]) rfl ?_
  exact ⟨rfl, hb1⟩
set_option maxRecDepth 100000 in
set_option maxHeartbeats 800000 in
theorem inflate_any (B : Option Addr) (n c : Nat) (b : List Nat) (room : Nat) (w : World) (hB : Rd w B (u8s b)) (hx : ∀ x ∈ b, x < 256) (hn : n = b.length) (hm : n ≤ 100000) (hroom : room ≤ 131072) :
    Calls Try.prog 13 #[.slice B n c, .int .i64 0, .int .i64 (room : Int)] w fun r w' => InfRes w w' b room r := by
  have HA := Lib.hid (asked_zero B n c b w hB hx hn hm)
  have HT := Lib.hid fun w1 h => rdtell_any w w1 room w.heap.size B n c b hroom h
  have h1 : decide ((room : Int) < 0) = false := decide_eq_false (by omega)
  have h2 : decide (131072 < (room : Int)) = false := decide_eq_false (by omega)
  have h2' : decide (131072 < room) = false := decide_eq_false (by omega)
  clear hn hx hB
  go_enter Try.func13, Try.ntmps13
  go_upto_region 7 with (first
    | (go_at_call 23; refine HA.out.mono ?_; rintro e w1 ⟨rfl, hr0⟩)
    | (go_at_call 24; refine (HT.out _ hr0).mono ?_; rintro e w2 ⟨s, told, A, cc, rfl, hrd, hr, hby, hR⟩))
  obtain ⟨av, hbk, hav⟩ := hr.blk
  have hb2 := hr.bel
  clear hr0
  have cr := Blk.cells hbk
  rcases hR with ⟨s1, hR1, rfl, ho1, ho2⟩ | ⟨e, he10, hR1, rfl⟩
  · cases ho : s1.over with
    | true =>
      obtain rfl := ho1 ho
      obtain rfl := hav _ rfl
      have HO := Lib.hid (And.intro ho hR1)
      have c2 : w2.cell? ⟨w.heap.size, 2, none⟩ = some (.int .i64 0) := Blk.cell hbk 2
      clear ho1 ho2 ho hr cr hR1
      have cr := Blk.cells hbk
      go_upto_region 9 with fail
      go_region
      go_wp2_with fail
      go_ret3
      unfold InfRes
      rw [HO.out.2]
      exact ⟨hb2.drew, fun _ => ⟨A, cc, rfl, hrd.drew⟩, fun h => (by rw [HO.out.1] at h; cases h)⟩
    | false =>
      obtain rfl := ho2 ho
      have HO := Lib.hid (And.intro ho hR1)
      have c2 : w2.cell? ⟨w.heap.size, 2, none⟩ = some (.int .i64 10) := Blk.cell hbk 2
      clear ho1 ho2 ho hr cr hR1
      have cr := Blk.cells hbk
      go_upto_region 8 with fail
      go_region
      go_wp2_with fail
      go_ret3
      unfold InfRes
      rw [HO.out.2]
      exact ⟨hb2.drew, fun h => (by rw [HO.out.1] at h; cases h), fun _ => rfl⟩
  · have he0 := hr.ne e rfl
    have c2 : w2.cell? ⟨w.heap.size, 2, none⟩ = some (.int .i64 (e : Int)) := Blk.cell hbk 2
    have hne : ¬ ((e : Int) = 0) := by omega
    have HE := Lib.hid (And.intro he0 (And.intro he10 hR1))
    clear hr cr he10 hR1
    have cr := Blk.cells hbk
    go_upto_region 8 with fail
    go_region
    go_wp2_with fail
    go_ret3
    unfold InfRes
    rw [HE.out.2.2]
    exact ⟨hb2.drew, HE.out.1, HE.out.2.1, rfl⟩
set_option maxRecDepth 100000 in
set_option maxHeartbeats 800000 in
theorem prefix_any (B : Option Addr) (n c : Nat) (b : List Nat) (room : Nat) (w : World) (hB : Rd w B (u8s b)) (hx : ∀ x ∈ b, x < 256) (hn : n = b.length) (hm : n ≤ 100000) (hroom : room ≤ 131072) :
    Calls Try.prog 14 #[.slice B n c, .int .i64 (room : Int)] w fun r w' => PreRes w w' b room r := by
  have HA := Lib.hid (asked_zero B n c b w hB hx hn hm)
  have HT := Lib.hid fun w1 h => rdtell_any w w1 room w.heap.size B n c b hroom h
  have h1 : decide ((room : Int) < 0) = false := decide_eq_false (by omega)
  have h2 : decide (131072 < (room : Int)) = false := decide_eq_false (by omega)
  have h2' : decide (131072 < room) = false := decide_eq_false (by omega)
  clear hn hx hB
  go_enter Try.func14, Try.ntmps14
  go_upto_region 7 with (first
    | (go_at_call 23; refine HA.out.mono ?_; rintro e w1 ⟨rfl, hr0⟩)
    | (go_at_call 24; refine (HT.out _ hr0).mono ?_; rintro e w2 ⟨s, told, A, cc, rfl, hrd, hr, hby, hR⟩))
  obtain ⟨av, hbk, hav⟩ := hr.blk
  have hb2 := hr.bel
  clear hr0
  rcases hR with ⟨s1, hR1, rfl, ho1, ho2⟩ | ⟨e, he10, hR1, rfl⟩
  · cases ho : s1.over with
    | true =>
      obtain rfl := ho1 ho
      have c2 : w2.cell? ⟨w.heap.size, 2, none⟩ = some (.int .i64 0) := Blk.cell hbk 2
      have HR := Lib.hid hR1
      clear ho1 ho2 ho hr hR1
      have cr := Blk.cells hbk
      go_wp2_with fail
      go_ret2
      unfold PreRes
      rw [HR.out]
      exact ⟨hb2, A, cc, rfl, hrd⟩
    | false =>
      obtain rfl := ho2 ho
      have c2 : w2.cell? ⟨w.heap.size, 2, none⟩ = some (.int .i64 10) := Blk.cell hbk 2
      have HR := Lib.hid hR1
      clear ho1 ho2 ho hr hR1
      have cr := Blk.cells hbk
      go_wp2_with fail
      go_ret2
      unfold PreRes
      rw [HR.out]
      exact ⟨hb2, A, cc, rfl, hrd⟩
  · have he0 := hr.ne e rfl
    have c2 : w2.cell? ⟨w.heap.size, 2, none⟩ = some (.int .i64 (e : Int)) := Blk.cell hbk 2
    have hne : ¬ ((e : Int) = 0) := by omega
    have hq0 : ((e : Int) != 0) = true := by rw [bne_iff_ne]; omega
    have hq10 : ((e : Int) != 10) = true := by rw [bne_iff_ne]; omega
    have hqb : (e == 10) = false := by rw [beq_eq_false_iff_ne]; exact he10
    have HR := Lib.hid hR1
    clear hr hR1
    have cr := Blk.cells hbk
    go_upto_region 8 with fail
    go_region
    go_wp2_with fail
    go_ret2
    unfold PreRes
    rw [HR.out]
    exact ⟨hb2.drew, he0, rfl⟩
end Go.Proofs.Ytahboomghjdjhaa

/-
  SwellTells: what plain tells and what a stream tells, in one; the worlds of a region that calls Feed and keeps the stream. No walk.
-/
namespace Go.Proofs.Ytahboomghjdjhaa
open Go.RowKit

theorem run_err10 {room : Nat} {b : List Nat} : ∀ s, SsOk b s → ∀ e, runS room b s = .error e → e ≠ 10 := by
  refine run_ind (room := room) (b := b) (fun s r => ∀ e, r = .error e → e ≠ 10) ?_ ?_ ?_ ?_
  · exact fun s _ _ e h => by cases h
  · exact fun s _ _ _ e h => by cases h
  · exact fun s e _ _ _ h10 e' h' => by cases h'; exact h10
  · exact fun s s' r _ _ _ _ ih => ih
/-- s[:k]. -/
theorem run_uptoO {P : Program} {t e : TypeId} {o : Oper} {a : Act} {w : World} (x hi : Operand) (ho : o.op = .slice t x none (some hi) none) (ht : P.underlying t = some (.slice e)) (hs : (P.info? e).map (·.size) = some 1) {A : Option Addr} {n c k : Nat} (hx : a.eval x = .slice A n c) (hhi : a.eval hi = .int .i64 (k : Int)) (hk : k ≤ c) :
    (execOp a.eval o).run P w = .ok (.value (.slice A k c)) w := by
  have hsz : (sizeOf e).run P w = .ok 1 w := by
    cases hq : P.info? e with
    | none => simp [hq] at hs
    | some ti =>
      have : ti.size = 1 := by simpa [hq] using hs
      simp [sizeOf, typeInfo, hq, this]
  unfold execOp
  simp only [ho, hx, hhi, Option.map_some, Option.map_none, Instr.sliceAt, run_underlying ht, Sem.run_bind, Sem.run_pure, Result.andThen_ok]
  cases A with
  | none => simp [Instr.slice, run_underlying ht, Instr.sliceBounds, run_sliceBound, hsz, hk]
  | some x =>
    simp [Instr.slice, run_underlying ht, Instr.sliceBounds, run_sliceBound, hsz, hk]
    intro _
    obtain ⟨b, off, p⟩ := x
    cases p <;> simp [Addr.add]

/-- What Inflate comes to, in values. -/
def InfIs (R : Except Nat Ss) (A : Option Addr) (wn nx f : Nat) (w : World) : Prop := match R with
  | .error e => f = e ∧ e ≠ 0 ∧ e ≠ 10
  | .ok s => (s.over = true → wn = s.told.length ∧ nx = s.a ∧ f = 0 ∧ Rd w A (u8s s.told)) ∧ (s.over = false → f = 10)
theorem InfRes.shape {w w' : World} {b : List Nat} {room : Nat} {r : Ending} (h : InfRes w w' b room r) : ∃ (A : Option Addr) (wn cc nx f : Nat), r = .returned (.tuple #[.slice A wn cc, .int .i64 (nx : Int), .int .i64 (f : Int)]) ∧ Below w.heap.size w w' ∧ InfIs (tellR room b 0) A wn nx f w' := by
  obtain ⟨hb, h⟩ := h
  unfold InfIs
  cases hR : tellR room b 0 with
  | error e =>
    rw [hR] at h
    exact ⟨none, 0, 0, 0, e, h.2.2, hb, rfl, h.1, h.2.1⟩
  | ok s =>
    rw [hR] at h
    cases ho : s.over with
    | true =>
      obtain ⟨A, cc, hr, hrd⟩ := h.1 ho
      exact ⟨A, _, cc, s.a, 0, hr, hb, fun _ => ⟨rfl, rfl, rfl, hrd⟩, fun h' => (by rw [ho] at h'; cases h')⟩
    | false => exact ⟨none, 0, 0, 0, 10, h.2 ho, hb, fun h' => (by rw [ho] at h'; cases h'), fun _ => rfl⟩
theorem InfIs.below {R : Except Nat Ss} {A : Option Addr} {wn nx f : Nat} {w w' : World} (h : InfIs R A wn nx f w) (hb : Below w.heap.size w w') : InfIs R A wn nx f w' := by
  cases R with
  | error e => exact h
  | ok s => exact ⟨fun ho => ⟨(h.1 ho).1, (h.1 ho).2.1, (h.1 ho).2.2.1, (h.1 ho).2.2.2.below hb⟩, h.2⟩

/-- The beginning. -/
abbrev s00 : Ss := ⟨0, none, false, [], []⟩
theorem s00_ok (b : List Nat) : SsOk b s00 := ⟨Nat.zero_le _, fun k h => (by cases h)⟩
/-- How what plain tells of all goes with what the first piece comes to. -/
theorem tell_one {room : Nat} {a b : List Nat} {e : Nat} (h : runS room a s00 = .error e) : tellR room (a ++ b) 0 = .error e ∧ e ≠ 0 ∧ e ≠ 10 :=
  ⟨run_parts_err (s00_ok a) h, run_err0 _ (s00_ok a) e h, run_err10 _ (s00_ok a) e h⟩
theorem tell_over {room : Nat} {a b : List Nat} {s1 : Ss} (h : runS room a s00 = .ok s1) (ho : s1.over = true) : tellR room (a ++ b) 0 = .ok s1 := run_parts_over (s00_ok a) h ho
theorem tell_on {room : Nat} {a b : List Nat} {s1 : Ss} (h : runS room a s00 = .ok s1) (ho : s1.over = false) (hr : s1.told.length ≤ room) : tellR room (a ++ b) 0 = mvE (s1.a / 8) s1.told (runS (room - s1.told.length) (leftB a s1 ++ b) ⟨leftA s1, s1.k, false, s1.win, []⟩) := by
  have h1 := run_parts (b := b) (s00_ok a) h hr ho
  unfold leftB leftA
  rw [ho]
  exact h1
theorem on_ok {a b : List Nat} {s1 : Ss} (hs : SsOk a s1) (ho : s1.over = false) : SsOk (leftB a s1 ++ b) ⟨leftA s1, s1.k, false, s1.win, []⟩ := by
  refine ⟨?_, hs.blk⟩
  have := hs.at_
  unfold leftB leftA
  rw [ho]
  show s1.a % 8 ≤ 8 * (a.drop (s1.a / 8) ++ b).length
  rw [List.length_append, List.length_drop]
  omega

/-- A region that calls Feed, makes a variable and keeps the stream there. -/
def feD (W : World) (s : Wv) (n : Nat) (la : List Nat) (o : Except Nat Ss) (k : Nat) (f : Bool) (vs : Nat → Value) (va : Value) (w : World) : Prop :=
  Below W.heap.size W w ∧ (1 ≤ k → FeedAt W w s n la o (vs 0)) ∧
  (f = true → ∃ g cf, va = .pointer (some ⟨g, 0, none⟩) ∧ W.heap.size ≤ g ∧ Arr w g 32 45 cf ∧ (k ≤ 3 → cf = swZ) ∧ (4 ≤ k → vs 2 = .agg (cellsOf 45 cf))) ∧ (4 ≤ k → f = true)
section
variable {W w w' : World} {s : Wv} {n : Nat} {la : List Nat} {o : Except Nat Ss} {f : Bool} {vs vs' : Nat → Value} {va : Value}
theorem feD_start : feD W s n la o 0 false vs va W := ⟨Below.refl _ _, fun h => absurd h (by omega), fun h => (by cases h), fun h => absurd h (by omega)⟩
theorem feD_bel {k : Nat} (h : feD W s n la o k f vs va w) : Below W.heap.size W w := h.1
theorem feD_1 (h : feD W s n la o 0 f vs va w) (hv : FeedAt W w' s n la o (vs' 0)) (hb : Below w.heap.size w w') : feD W s n la o 1 f vs' va w' := by
  obtain ⟨h0, _, h4, _⟩ := h
  refine ⟨h0.trans (hb.mono h0.size), fun _ => hv, fun hf => ?_, fun h => absurd h (by omega)⟩
  obtain ⟨g, cf, e1, e2, e3, e4, e5⟩ := h4 hf
  exact ⟨g, cf, e1, e2, Arr.below e3 hb (Blk.lt e3), fun _ => e4 (by omega), fun h => absurd h (by omega)⟩
theorem feD_on {k : Nat} (h : feD W s n la o k f vs va w) (h1 : 1 ≤ k) (h2 : k ≤ 2) (hv : vs' 0 = vs 0) : feD W s n la o (k + 1) f vs' va w := by
  obtain ⟨h0, h3, h4, _⟩ := h
  refine ⟨h0, fun _ => by rw [hv]; exact h3 h1, fun hf => ?_, fun h => absurd h (by omega)⟩
  obtain ⟨g, cf, e1, e2, e3, e4, e5⟩ := h4 hf
  exact ⟨g, cf, e1, e2, e3, fun _ => e4 (by omega), fun h => absurd h (by omega)⟩
theorem feD_4 (h : feD W s n la o 3 f vs va w) (hf : f = true) {g : Nat} {f0 cf : Nat → Value} (hva : va = .pointer (some ⟨g, 0, none⟩)) (hge : W.heap.size ≤ g) (k : Arr w g 32 45 f0) (k' : Arr w' g 32 45 cf) (hg : w.grownBy w' (some g)) (hv : vs' 0 = vs 0) (hq : vs' 2 = .agg (cellsOf 45 cf)) : feD W s n la o 4 f vs' va w' := by
  obtain ⟨h0, h3, h4, _⟩ := h
  exact ⟨Below.then_only h0 hg h0.size hge, fun _ => (by rw [hv]; exact (h3 (by omega)).grown k hg hge), fun _ => ⟨g, cf, hva, hge, k', fun h => absurd h (by omega), fun _ => hq⟩, fun _ => hf⟩
theorem feD_free {k : Nat} (h : feD W s n la o k false vs va w) : feD W s n la o k true vs (.pointer (some ⟨w.heap.size, 0, none⟩)) (w.alloc (.cells (cellsOf 45 swZ) 32)) := by
  obtain ⟨h0, h3, h4, h5⟩ := h
  have hk : ¬ 4 ≤ k := fun h => (by cases h5 h)
  have hb : Below w.heap.size w (w.alloc (.cells (cellsOf 45 swZ) 32)) := (Below.refl _ _).alloc (Nat.le_refl _) _
  exact ⟨h0.alloc h0.size _, fun h => (h3 h).below hb, fun _ => ⟨w.heap.size, swZ, rfl, h0.size, Blk.new _ _ _, fun _ => rfl, fun h => absurd h hk⟩, fun h => absurd h hk⟩
end
/-- A stream and three values. -/
def ShapeT (v : Value) : Prop := ∃ (f : Nat → Value) (T : Option Addr) (tn tc : Nat) (u e : Int), v = .tuple #[.agg (cellsOf 45 f), .slice T tn tc, .int .i64 u, .int .i64 e] ∧ ∀ i, (f i).oneCell' = true
theorem tup4_inj {a b c d a' b' c' d' : Value} (h : Value.tuple #[a, b, c, d] = .tuple #[a', b', c', d']) : a = a' ∧ b = b' ∧ c = c' ∧ d = d' := by
  injection h with h
  simpa using h
theorem arr_is {w : World} {g : Nat} {t : TypeId} {n : Nat} {f f' : Nat → Value} (h : Arr w g t n f) (e : cellsOf n f' = cellsOf n f) : Arr w g t n f' := by
  show Blk w g t (cellsOf n f')
  rw [e]
  exact h
end Go.Proofs.Ytahboomghjdjhaa
