/-
  A range over a function whose rounds come in a given order and never leave: no program in sight.
-/
import Derived.RangeFuncWrites
import Derived.Test.YtahboomghjdjhaaGMem
namespace Go.Proofs.Ytahboomghjdjhaa
open Go.RowKit

variable {F : Fence} {n : Nat} {P : Program}

/-- What a sequence function promises a caller whose rounds need only be borne where Nx says that they may come next. -/
def Rounds {α : Type} (F : Fence) (n : Nat) (P : Program) (gf : Nat) (lb : Array Value) (encs : α → Array Value) (Kp : World → World → Prop) (Nx : List α → α → Prop) (S : List α → Prop) (w0 : World) : Prop :=
  ∀ (l : Nat) (J : List α → World → Prop) (W : World), Below w0.heap.size w0 W → AbidesFrom W.heap.size J →
    (∀ pre x W1, J pre W1 → Nx pre x → YieldAt F (n - 1) P l (encs x) W1 fun e W' => e = .returned (.bool true) ∧ J (pre ++ [x]) W' ∧ Kp W1 W') → J [] W →
    CallsIn F n P gf (#[.func (.yield l) #[] #[]] ++ lb) W fun e W' => (∃ v, e = .returned v) ∧ ∃ xs, S xs ∧ J xs W'

/-- How a round ends. -/
def Went (B : Nat) (Kp : World → World → Prop) (J : World → Prop) (W : World) (e : Exit) (_ : Act) (W' : World) : Prop := e = .normal ∧ KeepsFrom B W W' ∧ Kp W W' ∧ J W'

theorem wpIn_rows {α : Type} {g : Operand} {ps : Array Tmp} {assign body : Code} {Q : Exit → Act → World → Prop} {a : Act} {w : World} (hro : F.round = none) (h1 : 1 ≤ n) {gf : Nat} {lb : Array Value}
    (hg : a.eval g = .func (.func gf) #[] lb) (hFg : F.fn gf) (eg : ∀ args w, (callFunc gf args).run P w = .ok (.enter gf args) w) {encs : α → Array Value} {Kp : World → World → Prop} {Nx : List α → α → Prop} {S : List α → Prop} {w0 : World}
    (hseq : Rounds F (n - 1) P gf lb encs Kp Nx S w0) (hKt : ∀ {A B C : World}, Kp A B → Kp B C → Kp A C)
    (hKb : ∀ (W : World) (l : Nat) (o o' : Obj), w.heap.size ≤ l → W.heap[l]? = some o → o.isCells = false → o.isWalk = false → Kp W (W.putObj l o')) (hb0 : Below w0.heap.size w0 w) (hps : ∀ x, (encs x).size = ps.size)
    (I : List α → World → Prop) (hI : OwnFrom w.heap.size I) (h0 : I [] w) (a₁ : α → Act)
    (hassign : ∀ (l : Nat) (x : α) (W : World) (K : Act → World → Prop), K (a₁ x) W →
      assign.wpIn (F.inRound l) (n - 1 - 1) P (Exit.then K (fun _ _ _ => False)) { tmps := (ps.zip (encs x)).foldl (fun t (p, v) => t.setIfInBounds p v) a.tmps, defers := [] } W)
    (hbody : ∀ (l : Nat) (pre : List α) (x : α) (W : World), I pre W → Nx pre x → body.wpIn (F.inRound l) (n - 1 - 1) P (Went w.heap.size Kp (I (pre ++ [x])) W) (a₁ x) W)
    (hdone : ∀ (D : Nat) (xs : List α) (W : World), w.heap.size ≤ D → S xs → I xs W → W.heap[D]? = some (.deferred (some [])) → Q .normal { a with defers := { target := .collected D, args := #[] } :: a.defers } W) :
    (Code.rangeFunc g ps assign body).wpIn F n P Q a w := by
  refine wpIn_rangeFunc fun fn hfn => ?_
  rw [hro]
  -- the loop's record, the block for its deferred calls
  obtain ⟨D, hD⟩ : ∃ D, w.heap.size = D := ⟨_, rfl⟩
  obtain ⟨rd, hrd⟩ : ∃ rd : LoopState → Option Code → Loop, rd = fun s p => { state := s, pending := p, fn, tmps := a.tmps, params := ps, assign, body, defers := D } := ⟨_, rfl⟩
  obtain ⟨W1, hW1⟩ : ∃ W1, (w.alloc (.deferred (some []))).alloc (.loop (rd .ready none)) = W1 := ⟨_, rfl⟩
  have sz1 : W1.heap.size = D + 2 := by rw [← hW1]; simp; omega
  have loop1 : W1.heap[D + 1]? = some (.loop (rd .ready none)) := by
    have := World.alloc_heap_new (w.alloc (.deferred (some []))) (.loop (rd .ready none))
    rw [World.size_alloc, hD, hW1] at this; exact this
  have def1 : W1.heap[D]? = some (.deferred (some [])) := by
    have h2 := World.alloc_heap_new w (.deferred (some []))
    rw [hD] at h2
    rw [← hW1]
    exact (Below.heap_alloc _ _ _ (by simp; omega)).trans h2
  have inv1 : I [] W1 := by rw [← hW1]; exact hI.alloc _ (hI.alloc _ h0)
  have bel1 : Below w0.heap.size w0 W1 := by
    rw [← hW1]; exact (hb0.alloc hb0.size _).alloc (by have := hb0.size; simp; omega) _
  refine ⟨D + 1, [{ target := .collected D, args := #[] }], W1, { target := .fn (.func gf) lb, args := #[.func (.yield (D + 1)) #[] #[]] }, W1, gf, #[.func (.yield (D + 1)) #[] #[]] ++ lb, W1, ?_, ?_, ?_, ?_, fun _ => h1, ?_⟩
  · rw [← hW1, hrd, ← hD]; exact run_enterLoop_outer _ _ _ _ _
  · simp only [resolve, hg]; simp [go_sem]
  · intro f' hf'; simp [Target.leads] at hf'; subst hf'; exact hFg
  · simp [invoke, go_sem, eg]
  · -- what the caller keeps beside its own invariant
    have keep : AbidesFrom W1.heap.size (fun pre W => I pre W ∧ W.heap[D + 1]? = some (.loop (rd .ready none)) ∧ W.heap[D]? = some (.deferred (some []))) := by
      rintro s A B row ⟨x1, x2, x3⟩ hg' hr
      refine ⟨hI s A B row x1 hg' fun r e => ?_, (grownBy_keeps hg' (fun r e => (hr r e).2) x2 rfl).trans x2, (grownBy_keeps hg' (fun r e => (hr r e).2) x3 rfl).trans x3⟩
      obtain ⟨y1, o, y2, y3⟩ := hr r e
      exact ⟨by omega, o, y2, Obj.not_cells_of_walk y3⟩
    refine (hseq (D + 1) _ W1 bel1 keep ?_ ⟨inv1, loop1, def1⟩).mono ?_
    · rintro pre x W ⟨hi, hl, hd⟩ hnx
      have hlt := (Array.getElem?_eq_some_iff.1 hl).1
      have hy := run_yield (P := P) (args := encs x) hl (by rw [hrd]; exact hps x)
      rw [hrd] at hy
      refine ⟨fn, _, assign, body, hy, roundIn_of_wpIn hfn (hassign _ x W _ ⟨_, run_beginRound hl (by rw [hrd]), ?_⟩)⟩
      obtain ⟨Wb, hWb⟩ : ∃ Wb, W.putObj (D + 1) (.loop { rd .ready none with state := .busy }) = Wb := ⟨_, rfl⟩
      have lb2 : Wb.heap[D + 1]? = some (.loop { rd .ready none with state := .busy }) := by rw [← hWb]; exact World.putObj_heap_same hlt
      have db2 : Wb.heap[D]? = some (.deferred (some [])) := by rw [← hWb]; exact (World.putObj_heap_other (by omega)).trans hd
      have kb2 : Kp W Wb := by rw [← hWb]; exact hKb _ _ _ _ (by omega) hl rfl rfl
      have ib2 : I pre Wb := by rw [← hWb]; exact hI.putObj _ hi (by omega) hl rfl
      rw [hWb]
      refine wpIn_mono (hbody _ pre x _ ib2 hnx) ?_
      rintro e a3 W3 ⟨rfl, hk3, hkp3, hi3⟩
      have hl3 := hk3.same _ _ (by omega) lb2 rfl
      have hr := run_endRound (P := P) none hl3
      have hlt3 := (Array.getElem?_eq_some_iff.1 hl3).1
      have hd3 := hk3.same _ _ (by omega) db2 rfl
      rw [hrd] at hr hl3
      refine ⟨_, _, hr, rfl, ⟨hI.putObj _ hi3 (by omega) hl3 rfl, ?_, (World.putObj_heap_other (by omega)).trans hd3⟩, hKt (hKt kb2 hkp3) (hKb _ _ _ _ (by omega) hl3 rfl rfl)⟩
      rw [hrd]; exact World.putObj_heap_same hlt3
    · rintro e W2 ⟨⟨v, rfl⟩, xs, hS, hi, hl, hd⟩
      have he := run_endLoop (P := P) hl (by rw [hrd]; simp)
      rw [hrd] at he hl
      exact ⟨none, _, he, hdone D xs _ (by omega) hS (hI.putObj _ hi (by omega) hl rfl) ((World.putObj_heap_other (by omega)).trans hd)⟩
end Go.Proofs.Ytahboomghjdjhaa

/-
  A range over a function whose rounds turn a state, and may leave the function by 'return': no program in sight.
-/
namespace Go.Proofs.Ytahboomghjdjhaa
open Go.RowKit

variable {F : Fence} {n : Nat} {P : Program}

/-- What a sequence function promises a caller that keeps J of a state; a round at token x turns state t to nxt t x, or leaves. -/
def RoundsS {τ α : Type} (F : Fence) (n : Nat) (P : Program) (gf : Nat) (lb : Array Value) (encs : α → Array Value) (Kp Ch : World → World → Prop) (Ok : τ → α → World → Prop) (nxt : τ → α → Option τ) (Fin : τ → World → Prop) (Lv : τ → α → Prop) (It : World → Prop) (t0 : τ) : Prop :=
  ∀ (l : Nat) (J : τ → World → Prop) (O : τ → α → World → Prop) (W : World), It W → (∀ t A B, J t A → Ch A B → J t B) →
    (∀ t x W1, J t W1 → Ok t x W1 → YieldAt F (n - 1) P l (encs x) W1 fun e W' => match nxt t x with
      | some t' => e = .returned (.bool true) ∧ J t' W' ∧ Kp W1 W'
      | none => e = .returned (.bool false) ∧ O t x W') → J t0 W →
    CallsIn F n P gf (#[.func (.yield l) #[] #[]] ++ lb) W fun e W' => (∃ v, e = .returned v) ∧ ((∃ t, Fin t W' ∧ J t W') ∨ ∃ t x, nxt t x = none ∧ Lv t x ∧ O t x W')

/-- How a round ends. -/
def WentS {τ α : Type} (B : Nat) (Kp : World → World → Prop) (I : τ → World → Prop) (O : τ → α → World → Prop) (t : τ) (x : α) (nt : Option τ) (W : World) (e : Exit) (_ : Act) (W' : World) : Prop := match nt with
  | some t' => e = .normal ∧ KeepsFrom B W W' ∧ Kp W W' ∧ I t' W'
  | none => e = .ret ∧ KeepsFrom B W W' ∧ O t x W'

theorem wpIn_rowsS {τ α : Type} {g : Operand} {ps : Array Tmp} {assign body : Code} {Q : Exit → Act → World → Prop} {a : Act} {w : World} (hro : F.round = none) (h1 : 1 ≤ n) {gf : Nat} {lb : Array Value}
    (hg : a.eval g = .func (.func gf) #[] lb) (hFg : F.fn gf) (eg : ∀ args w, (callFunc gf args).run P w = .ok (.enter gf args) w) {encs : α → Array Value} {Kp Ch : World → World → Prop} {Ok : τ → α → World → Prop} {nxt : τ → α → Option τ} {Fin : τ → World → Prop} {Lv : τ → α → Prop} {It : World → Prop} {t0 : τ}
    (hseq : RoundsS F (n - 1) P gf lb encs Kp Ch Ok nxt Fin Lv It t0) (hKt : ∀ {A B C : World}, Kp A B → Kp B C → Kp A C)
    (hKb : ∀ (W : World) (l : Nat) (o o' : Obj), w.heap.size ≤ l → W.heap[l]? = some o → o.isCells = false → o.isWalk = false → Kp W (W.putObj l o'))
    (hChL : ∀ (A B : World) (j : Nat) (o : Obj), w.heap.size ≤ j → Ch A B → A.heap[j]? = some o → o.isCells = false → B.heap[j]? = some o)
    (hIt : ∀ o o', It ((w.alloc o).alloc o')) (hps : ∀ x, (encs x).size = ps.size)
    (I : τ → World → Prop) (O : τ → α → World → Prop) (hI : OwnFrom w.heap.size I) (hICh : ∀ t A B, I t A → Ch A B → I t B) (hO : OwnFrom w.heap.size (fun (p : τ × α) W => O p.1 p.2 W))
    (hFin : ∀ (t : τ) (W : World) (l : Nat) (o o' : Obj), w.heap.size ≤ l → W.heap[l]? = some o → o.isCells = false → Fin t W → Fin t (W.putObj l o')) (h0 : I t0 w) (o₁ : α → Obj) (a₁ : α → Nat → Act) (hKa : ∀ (W : World) (o : Obj), w.heap.size ≤ W.heap.size → Kp W (W.alloc o)) (hOkA : ∀ (t : τ) (x : α) (W : World) (o : Obj), Ok t x W → Ok t x (W.alloc o))
    (hassign : ∀ (l : Nat) (x : α) (W : World) (p : Nat) (K : Act → World → Prop), W.heap.size = p → K (a₁ x p) (W.alloc (o₁ x)) →
      assign.wpIn (F.inRound l) (n - 1 - 1) P (Exit.then K (fun _ _ _ => False)) { tmps := (ps.zip (encs x)).foldl (fun t (p, v) => t.setIfInBounds p v) a.tmps, defers := [] } W)
    (hOk : ∀ (t : τ) (x : α) (W : World) (l : Nat) (o o' : Obj), w.heap.size ≤ l → W.heap[l]? = some o → o.isCells = false → Ok t x W → Ok t x (W.putObj l o'))
    (hbody : ∀ (l : Nat) (t : τ) (x : α) (W : World) (p : Nat), I t W → Ok t x W → W.heap[p]? = some (o₁ x) → body.wpIn (F.inRound l) (n - 1 - 1) P (WentS w.heap.size Kp I O t x (nxt t x) W) (a₁ x p) W)
    (hdone : ∀ (D : Nat) (t : τ) (W : World), w.heap.size ≤ D → Fin t W → I t W → W.heap[D]? = some (.deferred (some [])) → Q .normal { a with defers := { target := .collected D, args := #[] } :: a.defers } W)
    (hleft : ∀ (D : Nat) (t : τ) (x : α) (W : World), w.heap.size ≤ D → nxt t x = none → Lv t x → O t x W → W.heap[D]? = some (.deferred (some [])) → Code.ret.wpIn F n P Q { a with defers := { target := .collected D, args := #[] } :: a.defers } W) :
    (Code.rangeFunc g ps assign body).wpIn F n P Q a w := by
  refine wpIn_rangeFunc fun fn hfn => ?_
  rw [hro]
  obtain ⟨D, hD⟩ : ∃ D, w.heap.size = D := ⟨_, rfl⟩
  obtain ⟨rd, hrd⟩ : ∃ rd : LoopState → Option Code → Loop, rd = fun s p => { state := s, pending := p, fn, tmps := a.tmps, params := ps, assign, body, defers := D } := ⟨_, rfl⟩
  obtain ⟨W1, hW1⟩ : ∃ W1, (w.alloc (.deferred (some []))).alloc (.loop (rd .ready none)) = W1 := ⟨_, rfl⟩
  have sz1 : W1.heap.size = D + 2 := by rw [← hW1]; simp; omega
  have loop1 : W1.heap[D + 1]? = some (.loop (rd .ready none)) := by
    have := World.alloc_heap_new (w.alloc (.deferred (some []))) (.loop (rd .ready none))
    rw [World.size_alloc, hD, hW1] at this; exact this
  have def1 : W1.heap[D]? = some (.deferred (some [])) := by
    have h2 := World.alloc_heap_new w (.deferred (some []))
    rw [hD] at h2
    rw [← hW1]
    exact (Below.heap_alloc _ _ _ (by simp; omega)).trans h2
  have inv1 : I t0 W1 := by rw [← hW1]; exact hI.alloc _ (hI.alloc _ h0)
  have it1 : It W1 := by rw [← hW1]; exact hIt _ _
  refine ⟨D + 1, [{ target := .collected D, args := #[] }], W1, { target := .fn (.func gf) lb, args := #[.func (.yield (D + 1)) #[] #[]] }, W1, gf, #[.func (.yield (D + 1)) #[] #[]] ++ lb, W1, ?_, ?_, ?_, ?_, fun _ => h1, ?_⟩
  · rw [← hW1, hrd, ← hD]; exact run_enterLoop_outer _ _ _ _ _
  · simp only [resolve, hg]; simp [go_sem]
  · intro f' hf'; simp [Target.leads] at hf'; subst hf'; exact hFg
  · simp [invoke, go_sem, eg]
  · refine (hseq (D + 1) (fun t W => I t W ∧ W.heap[D + 1]? = some (.loop (rd .ready none)) ∧ W.heap[D]? = some (.deferred (some [])))
      (fun t x W => O t x W ∧ W.heap[D + 1]? = some (.loop (rd .done (some .ret))) ∧ W.heap[D]? = some (.deferred (some []))) W1 it1
      (fun t A B ⟨x1, x2, x3⟩ hc => ⟨hICh t A B x1 hc, hChL A B _ _ (by omega) hc x2 rfl, hChL A B _ _ (by omega) hc x3 rfl⟩) ?_ ⟨inv1, loop1, def1⟩).mono ?_
    · rintro t x W ⟨hi, hl, hd⟩ hok
      have hlt := (Array.getElem?_eq_some_iff.1 hl).1
      have hltD := (Array.getElem?_eq_some_iff.1 hd).1
      have hy := run_yield (P := P) (args := encs x) hl (by rw [hrd]; exact hps x)
      rw [hrd] at hy
      have hla : (W.alloc (o₁ x)).heap[D + 1]? = some (.loop (rd .ready none)) := (Below.heap_alloc _ _ _ hlt).trans hl
      refine ⟨fn, _, assign, body, hy, roundIn_of_wpIn hfn (hassign _ x W _ _ rfl ⟨_, run_beginRound hla (by rw [hrd]), ?_⟩)⟩
      obtain ⟨Wb, hWb⟩ : ∃ Wb, (W.alloc (o₁ x)).putObj (D + 1) (.loop { rd .ready none with state := .busy }) = Wb := ⟨_, rfl⟩
      have lb2 : Wb.heap[D + 1]? = some (.loop { rd .ready none with state := .busy }) := by rw [← hWb]; exact World.putObj_heap_same (by simp; omega)
      have db2 : Wb.heap[D]? = some (.deferred (some [])) := by rw [← hWb]; exact (World.putObj_heap_other (by omega)).trans ((Below.heap_alloc _ _ _ hltD).trans hd)
      have kb2 : Kp W Wb := by rw [← hWb]; exact hKt (hKa _ _ (by omega)) (hKb _ _ _ _ (by omega) hla rfl rfl)
      have ib2 : I t Wb := by rw [← hWb]; exact hI.putObj _ (hI.alloc _ hi) (by omega) hla rfl
      have ok2 : Ok t x Wb := by rw [← hWb]; exact hOk _ _ _ _ _ _ (by omega) hla rfl (hOkA _ _ _ _ hok)
      have pb2 : Wb.heap[W.heap.size]? = some (o₁ x) := by rw [← hWb]; exact (World.putObj_heap_other (by omega)).trans (World.alloc_heap_new _ _)
      rw [hWb]
      refine wpIn_mono (hbody _ t x _ _ ib2 ok2 pb2) ?_
      intro e a3 W3 hw
      cases hn : nxt t x with
      | some t' =>
        rw [hn] at hw
        obtain ⟨rfl, hk3, hkp3, hi3⟩ := hw
        have hl3 := hk3.same _ _ (by omega) lb2 rfl
        have hr := run_endRound (P := P) none hl3
        have hlt3 := (Array.getElem?_eq_some_iff.1 hl3).1
        have hd3 := hk3.same _ _ (by omega) db2 rfl
        rw [hrd] at hr hl3
        refine ⟨_, _, hr, rfl, ⟨hI.putObj _ hi3 (by omega) hl3 rfl, ?_, (World.putObj_heap_other (by omega)).trans hd3⟩, hKt (hKt kb2 hkp3) (hKb _ _ _ _ (by omega) hl3 rfl rfl)⟩
        rw [hrd]; exact World.putObj_heap_same hlt3
      | none =>
        rw [hn] at hw
        obtain ⟨rfl, hk3, ho3⟩ := hw
        have hl3 := hk3.same _ _ (by omega) lb2 rfl
        have hr := run_endRound (P := P) (some .ret) hl3
        have hlt3 := (Array.getElem?_eq_some_iff.1 hl3).1
        have hd3 := hk3.same _ _ (by omega) db2 rfl
        rw [hrd] at hr hl3
        refine ⟨_, _, hr, rfl, hO.putObj (s := (t, x)) _ ho3 (by omega) hl3 rfl, ?_, (World.putObj_heap_other (by omega)).trans hd3⟩
        rw [hrd]; exact World.putObj_heap_same hlt3
    · rintro e W2 ⟨⟨v, rfl⟩, ⟨t, hf, hi, hl, hd⟩ | ⟨t, x, hn, hlv, ho, hl, hd⟩⟩
      · have he := run_endLoop (P := P) hl (by rw [hrd]; simp)
        rw [hrd] at he hl
        exact ⟨none, _, he, hdone D t _ (by omega) (hFin t _ _ _ _ (by omega) hl rfl hf) (hI.putObj _ hi (by omega) hl rfl) ((World.putObj_heap_other (by omega)).trans hd)⟩
      · have he := run_endLoop (P := P) hl (by rw [hrd]; simp)
        rw [hrd] at he hl
        exact ⟨some .ret, _, he, hleft D t x _ (by omega) hn hlv (hO.putObj (s := (t, x)) _ ho (by omega) hl rfl) ((World.putObj_heap_other (by omega)).trans hd)⟩
end Go.Proofs.Ytahboomghjdjhaa
