/-
  A region that draws its order and writes: each operation takes the worlds of a class, told by what has come up, to worlds of the class behind. Walked once, in the text's order. No program in sight.
-/
import Derived.Still
import Derived.Test.YtahboomghjdjhaaGreatG16
namespace Go.Proofs.YtahboomghjdjhaaGreat
open Go.RowKit

section
variable {P : Program} {ops : Array Oper} {C : Array Bool → World → Prop}

/-- What an operation leaves: the value v, in a world of D. -/
def leaves (P : Program) (D : World → Prop) (v : Value) : Result Next → Prop
  | .ok (.value u) w' => D w' ∧ u = v
  | .ok .skip w' => D w' ∧ v = undef
  | .ok (.enter f args) w' => Calls P f args w' (fun e w'' => e = .returned v ∧ D w'')
  | _ => False
/-- Operation i, wherever it comes up. -/
def turnsAt (P : Program) (ops : Array Oper) (C : Array Bool → World → Prop) (i : Nat) (o : Oper) (a : Act) (v : Value) : Prop :=
  ∀ L w, L.size = ops.size → i ∈ Region.ready .any ops L → C L w → leaves P (C (L.setIfInBounds i true)) v ((execOp a.eval o).run P w)
/-- .. guarded. -/
def turns (P : Program) (ops : Array Oper) (C : Array Bool → World → Prop) (i : Nat) (o : Oper) (a : Act) (v : Value) : Prop :=
  if Region.wanted o (yielded ops a.tmps) = true then turnsAt P ops C i o a v else v = undef ∧ ∀ L w, L.size = ops.size → i ∈ Region.ready .any ops L → C L w → C (L.setIfInBounds i true) w
/-- The text's order. -/
def wpTurn (P : Program) (ops : Array Oper) (C : Array Bool → World → Prop) (Q : Act → Prop) : Nat → List Oper → Act → Prop
  | _, [], a => Q a
  | i, o :: rest, a => ∃ v, turns P ops C i o a v ∧ wpTurn P ops C Q (i + 1) rest (a.put o.dst v)
/-- Every order, the worlds apart. -/
def anyTurn (P : Program) (ops : Array Oper) (C : Array Bool → World → Prop) (Q : Act → Prop) : Nat → Array Bool → Act → Prop
  | 0, L, a => Region.ready .any ops L = [] ∧ Q a
  | k + 1, L, a => (Region.ready .any ops L = [] → Q a) ∧ ∀ i ∈ Region.ready .any ops L, ∃ o v, ops[i]? = some o ∧ turns P ops C i o a v ∧ anyTurn P ops C Q k (L.setIfInBounds i true) (a.put o.dst v)

theorem wpAny_of_turn {Q : Act → Prop} {Q' : Exit → Act → World → Prop} (hQ : ∀ L a w, L.size = ops.size → Region.ready .any ops L = [] → C L w → Q a → Q' .normal a w) :
    ∀ (k : Nat) (L : Array Bool) (a : Act) (w : World), L.size = ops.size → C L w → anyTurn P ops C Q k L a → wpAny P .any ops Q' k L a w
  | 0, L, a, w, hs, hC, h => ⟨h.1, hQ L a w hs h.1 hC h.2⟩
  | k + 1, L, a, w, hs, hC, h => ⟨fun h0 => hQ L a w hs h0 hC (h.1 h0), fun i hi => by
    obtain ⟨o, v, ho, ht, hk⟩ := h.2 i hi
    have hs' : (L.setIfInBounds i true).size = ops.size := by simpa using hs
    have go := fun w' (hC' : C (L.setIfInBounds i true) w') => wpAny_of_turn hQ k _ _ w' hs' hC' hk
    unfold wpOp
    rw [ho]
    unfold turns at ht
    show if Region.wanted o (yielded ops a.tmps) = true then _ else _
    by_cases hw : Region.wanted o (yielded ops a.tmps) = true
    · rw [if_pos hw] at ht ⊢
      refine .inl ?_
      have h3 := ht L w hs hi hC
      unfold Oper.wp
      generalize (execOp a.eval o).run P w = r at *
      cases r with
      | ok n w' =>
        cases n <;> simp only [leaves] at h3 <;> simp only [Oper.upon]
        case value u => obtain ⟨e1, rfl⟩ := h3; exact go _ e1
        case skip => obtain ⟨e1, rfl⟩ := h3; exact go _ e1
        case enter f args => exact h3.mono fun e w'' ⟨he, hw''⟩ => by subst he; exact go _ hw''
      | halt x w' => simp only [leaves] at h3
    · rw [if_neg hw] at ht ⊢
      obtain ⟨rfl, hst⟩ := ht
      exact go _ (hst L w hs hi hC)⟩

theorem turns.same {i : Nat} {o : Oper} {a a' : Act} {v : Value} (h : turns P ops C i o a v) (he : execOp a'.eval o = execOp a.eval o) (hw : Region.wanted o (yielded ops a'.tmps) = Region.wanted o (yielded ops a.tmps)) : turns P ops C i o a' v := by
  unfold turns turnsAt at *
  rw [he, hw]
  exact h

/-- What may come up now, apart from all that is not behind it, may come up first. -/
theorem anyTurn_first {Q : Act → Prop} {i : Nat} {o : Oper} {v : Value} (ho : ops[i]? = some o) (hsel : ∀ (j : Nat) (o : Oper) cs b, ops[j]? = some o → o.op ≠ .select cs b) : ∀ (k : Nat) (L : Array Bool) (a : Act),
    (∀ j oj, ops[j]? = some oj → j ≠ i → L.getD j true = false → (∀ e ∈ oj.after, Region.binds .any e = true → e.on ≠ i) → o.apart ops oj = true) →
    i ∈ Region.ready .any ops L → turns P ops C i o a v → anyTurn P ops C Q k (L.setIfInBounds i true) (a.put o.dst v) → anyTurn P ops C Q (k + 1) L a := by
  intro k
  induction k with
  | zero =>
    intro L a _ hr hy H
    refine ⟨fun h => (by rw [h] at hr; cases hr), fun j hj => ?_⟩
    by_cases hji : j = i
    · subst hji; exact ⟨o, v, ho, hy, H⟩
    · have := ready_mono hj hji
      rw [H.1] at this
      cases this
  | succ k ih =>
    intro L a hfree hr hy H
    refine ⟨fun h => (by rw [h] at hr; cases hr), fun j hj => ?_⟩
    by_cases hji : j = i
    · subst hji; exact ⟨o, v, ho, hy, H⟩
    · obtain ⟨oj, u, hoj, hu, hK⟩ := H.2 j (ready_mono hj hji)
      obtain ⟨hjun, oj', hoj', hall⟩ := mem_ready.1 hj
      obtain rfl : oj = oj' := by rw [hoj] at hoj'; exact Option.some.inj hoj'
      have hnot : ∀ e ∈ oj.after, Region.binds .any e = true → e.on ≠ i := fun e he hb heq => by
        have h1 := hall e he hb
        have h0 := (mem_ready.1 hr).1
        rw [heq] at h1
        rcases Nat.lt_or_ge i L.size with h' | h'
        · simp [h'] at h0 h1; rw [h0] at h1; cases h1
        · simp [Array.getElem?_eq_none h'] at h1
      obtain ⟨p1, p2, p3⟩ := Oper.apart_spec (hfree j oj hoj hji hjun hnot)
      have hu' : turns P ops C j oj a u := hu.same (execOp_put oj (fun cs b => hsel j oj cs b hoj) a o.dst v p1).symm (wanted_put oj a o.dst v p1).symm
      have hy' : turns P ops C i o (a.put oj.dst u) v := hy.same (execOp_put o (fun cs b => hsel i o cs b ho) a oj.dst u p3) (wanted_put o a oj.dst u p3)
      refine ⟨oj, u, hoj, hu', ih (L.setIfInBounds j true) _ (fun m om hm hmi hun hno => hfree m om hm hmi ?_ hno) (ready_mono hr (Ne.symm hji)) hy' ?_⟩
      · by_cases hjm : j = m
        · subst hjm; exact hjun
        · rw [getD_set_ne true hjm] at hun; exact hun
      · rw [Array.setIfInBounds_comm _ _ hji, ← Act.put_comm a v u p2]
        exact hK

theorem anyTurn_lex {Q : Act → Prop} (hs : Region.noSelect ops = true) : ∀ (l : List Oper) (i : Nat) (L : Array Bool) (a : Act), (∀ j, l[j]? = ops[i + j]?) →
    Region.lexFrom .any ops l.length i L = true → wpTurn P ops C Q i l a → anyTurn P ops C Q l.length L a
  | [], _, _, _, _, hB, h => ⟨by simpa [Region.lexFrom] using hB, h⟩
  | o :: l, i, L, a, hl, hB, h => by
    have h0 : ops[i]? = some o := by simpa using (hl 0).symm
    simp only [List.length_cons, Region.lexFrom, Bool.and_eq_true] at hB
    obtain ⟨⟨hr, hf⟩, hB'⟩ := hB
    obtain ⟨v, hv, hK⟩ := h
    exact anyTurn_first h0 (Region.noSelect_spec hs) l.length L a (Region.free_spec h0 hf) (by simpa using hr) hv
      (anyTurn_lex hs l (i + 1) _ _ (fun j => by have := hl (j + 1); simpa [Nat.add_assoc, Nat.add_comm 1 j] using this) hB' hK)

/-- Nothing may come up: all has come up. -/
def backOnly (ops : Array Oper) : Bool := (List.range ops.size).all fun i => match ops[i]? with | some o => o.after.all fun e => !Region.binds .any e || decide (e.on < i) | none => true
theorem all_up (hb : backOnly ops = true) {L : Array Bool} (hs : L.size = ops.size) (h : Region.ready .any ops L = []) : ∀ i, i < ops.size → L.getD i false = true := by
  intro i
  induction i using Nat.strongRecOn with
  | _ i ih =>
    intro hi
    cases hc : L.getD i false with
    | true => rfl
    | false =>
      exfalso
      have hL : i < L.size := by omega
      have ho : ops[i]? = some ops[i] := Array.getElem?_eq_getElem hi
      have : i ∈ Region.ready .any ops L := mem_ready.2 ⟨by simp [hL] at hc ⊢; exact hc, _, ho, fun e he hbd => by
        unfold backOnly at hb
        rw [List.all_eq_true] at hb
        have h1 := hb i (List.mem_range.2 hi)
        rw [ho] at h1
        simp only [Array.all_eq_true_iff_forall_mem] at h1
        have h2 := h1 e he
        rw [hbd] at h2
        have h3 : e.on < i := by simpa using h2
        exact ih e.on h3 (by omega)⟩
      rw [h] at this
      cases this

/-- The law. -/
theorem wp_region_turn {id : Nat} {Q : Exit → Act → World → Prop} {a : Act} {w : World} {l : List Oper} (C : Array Bool → World → Prop) (hm : P.follows .mixedOrders = true) (hB : Region.lexB .any l.toArray = true) (hb : backOnly l.toArray = true)
    (hC : C (Array.replicate l.toArray.size false) w.drew)
    (h : wpTurn P l.toArray C (fun a' => ∀ L w', (∀ i, i < l.toArray.size → L.getD i false = true) → C L w' → Q .normal a' w') 0 l a) : (Code.region id l.toArray true).wp P Q a w := by
  simp only [Region.lexB, Bool.and_eq_true] at hB
  refine wp_region_any hm (wpAny_of_turn (C := C) (Q := fun a' => ∀ L w', (∀ i, i < l.toArray.size → L.getD i false = true) → C L w' → Q .normal a' w') (fun L _ w' hs h0 hC' h => h L w' (all_up hb hs h0) hC') _ _ _ _ (by simp) hC ?_)
  have := anyTurn_lex (C := C) hB.1 l 0 (Array.replicate l.toArray.size false) a (by simp) (by simpa using hB.2) h
  simpa using this

/-- Two classes: ahead of operation j, and behind it. -/
def phase (j : Nat) (C0 C1 : World → Prop) : Array Bool → World → Prop := fun L w => if L.getD j false = true then C1 w else C0 w
variable {C0 C1 : World → Prop} {j : Nat}
theorem phase_new {n : Nat} {w : World} (h : C0 w) : phase j C0 C1 (Array.replicate n false) w := by
  unfold phase
  rw [if_neg]
  · exact h
  · rcases Nat.lt_or_ge j n with h | h
    · simp [h]
    · simp [h]
theorem phase_other {i : Nat} (hij : i ≠ j) {L : Array Bool} {w : World} (h : phase j C0 C1 L w) : phase j C0 C1 (L.setIfInBounds i true) w := by
  unfold phase at *
  rwa [getD_set_ne false hij]
theorem phase_or {L : Array Bool} {w : World} (h : phase j C0 C1 L w) : C0 w ∨ C1 w := by
  unfold phase at h
  split at h
  · exact .inr h
  · exact .inl h
theorem phase_end {L : Array Bool} {w : World} (h : phase j C0 C1 L w) (hj : L.getD j false = true) : C1 w := by
  unfold phase at h
  rwa [if_pos hj] at h
theorem wanted_free {o : Oper} {a : Act} (hg : o.guard = none) : Region.wanted o (yielded ops a.tmps) = true := by simp [Region.wanted, hg]
/-- An operation that only reads, and reads the same in both classes. -/
theorem turn_read {i : Nat} {o : Oper} {rest : List Oper} {a : Act} {Q : Act → Prop} {v : Value} (hij : i ≠ j) (hg : o.guard = none)
    (h : ∀ w, C0 w ∨ C1 w → (execOp a.eval o).run P w = .ok (.value v) w) (hk : ∀ K : Act → Prop, (∀ a, wpTurn P ops (phase j C0 C1) Q (i + 1) rest a → K a) → K (a.put o.dst v)) : wpTurn P ops (phase j C0 C1) Q i (o :: rest) a := by
  refine ⟨v, ?_, hk _ fun _ h => h⟩
  unfold turns
  rw [if_pos (wanted_free hg)]
  intro L w _ _ hC
  rw [h w (phase_or hC)]
  exact ⟨phase_other hij hC, rfl⟩
/-- The operation that writes. -/
theorem turn_write {o : Oper} {rest : List Oper} {a : Act} {Q : Act → Prop} (hg : o.guard = none) (h : ∀ w, C0 w → ∃ w', (execOp a.eval o).run P w = .ok .skip w' ∧ C1 w') (hk : ∀ K : Act → Prop, (∀ a, wpTurn P ops (phase j C0 C1) Q (j + 1) rest a → K a) → K (a.put o.dst undef)) :
    wpTurn P ops (phase j C0 C1) Q j (o :: rest) a := by
  refine ⟨undef, ?_, hk _ fun _ h => h⟩
  unfold turns
  rw [if_pos (wanted_free hg)]
  intro L w hs hr hC
  have h0 := (mem_ready.1 hr).1
  have hj : j < L.size := by
    rcases Nat.lt_or_ge j L.size with h' | h'
    · exact h'
    · simp [Array.getElem?_eq_none h'] at h0
  have hn : ¬ L.getD j false = true := by simp [hj] at h0 ⊢; exact h0
  unfold phase at hC
  rw [if_neg hn] at hC
  obtain ⟨w', h1, h2⟩ := h w hC
  rw [h1]
  refine ⟨?_, rfl⟩
  unfold phase
  rw [if_pos (by simp [hj])]
  exact h2
theorem turn_nil {Q : Act → Prop} {i : Nat} {a : Act} {C : Array Bool → World → Prop} (h : Q a) : wpTurn P ops C Q i [] a := h
/-- A row loaded; a row stored over another one. -/
theorem run_row {o : Oper} {a : Act} {w : World} (ty : TypeId) (x : Operand) (ho : o.op = .load ty x) {g : Nat} (hx : a.eval x = .pointer (some ⟨g, 0, none⟩)) {t : TypeId} {n : Nat} {f : Nat → Value} {d : TypeDesc}
    (hA : Arr w g t n f) (hu : P.underlying ty = some d) (hd : (match d with | .struct _ | .array _ _ => true | _ => false) = true) (hi : (P.info? ty).map (·.size) = some n) : (execOp a.eval o).run P w = .ok (.value (.agg (cellsOf n f))) w := by
  unfold execOp
  simp only [ho, hx, Instr.loadAt, Instr.sureAddr, Sem.run_bind, Sem.run_pure, Result.andThen_ok, run_loadVar_row w g t ty (cellsOf n f) (0, 0) d hA hu hd (by rw [hi, cellsOf_size])]
theorem run_overw {o : Oper} {a : Act} {w : World} (ty : TypeId) (x y : Operand) (ho : o.op = .store ty x y) {g : Nat} (hx : a.eval x = .pointer (some ⟨g, 0, none⟩)) {t : TypeId} {n : Nat} {f f0 : Nat → Value} (hy : a.eval y = .agg (cellsOf n f))
    (hA : Arr w g t n f0) (hi : (P.info? ty).map (·.size) = some n) (h1 : ∀ k, k < n → (f k).oneCell' = true) : ∃ w', (execOp a.eval o).run P w = .ok .skip w' ∧ Arr w' g t n f ∧ w.grownBy w' (some g) := by
  refine ⟨w.setRow g (cellsOf n f), ?_, setRow_heap w g _ _ t _ hA, rfl, rfl, rfl, by simp, fun k _ hne => setRow_other w g k _ (fun e => hne (by rw [e]))⟩
  unfold execOp
  simp only [ho, hx, hy, Instr.storeAt, Instr.sureAddr, Sem.run_bind, Sem.run_pure, Result.andThen_ok, run_storeVar_row w g t ty _ (cellsOf n f) hA (by rw [hi, cellsOf_size]) (by rw [cellsOf_size, cellsOf_size]) (cellsOf_one h1)]
theorem turn_over {o : Oper} {rest : List Oper} {a : Act} {Q : Act → Prop} (hg : o.guard = none) (ty : TypeId) (x y : Operand) (ho : o.op = .store ty x y) {g : Nat} (hx : a.eval x = .pointer (some ⟨g, 0, none⟩)) {t : TypeId} {n : Nat} {f : Nat → Value} (hy : a.eval y = .agg (cellsOf n f))
    (hA : ∀ w, C0 w → ∃ f0, Arr w g t n f0) (hi : (P.info? ty).map (·.size) = some n) (h1 : ∀ k, k < n → (f k).oneCell' = true) (h : ∀ w w', C0 w → Arr w' g t n f → w.grownBy w' (some g) → C1 w')
    (hk : ∀ K : Act → Prop, (∀ a, wpTurn P ops (phase j C0 C1) Q (j + 1) rest a → K a) → K (a.put o.dst undef)) : wpTurn P ops (phase j C0 C1) Q j (o :: rest) a :=
  turn_write hg (fun w hw => by
    obtain ⟨f0, h0⟩ := hA w hw
    obtain ⟨w', e1, e2, e3⟩ := run_overw ty x y ho hx hy h0 hi h1
    exact ⟨w', e1, h w w' hw e2 e3⟩) hk
theorem run_built {o : Oper} {a : Act} {w : World} (t : TypeId) (parts : Array (Nat × Operand)) (ho : o.op = .build t parts) {cells : Array Value} (hf : P.built t (parts.map fun (i, x) => (i, a.eval x)).toList = some cells) : (execOp a.eval o).run P w = .ok (.value (.agg cells)) w := by
  unfold execOp
  simp only [ho, Sem.run_bind, run_build w t _ cells hf, Result.andThen_ok]
  rfl
end
end Go.Proofs.YtahboomghjdjhaaGreat

/-
  A region that draws its order, makes memory and writes: what comes up may lie anywhere; each operation is walked once, in the text's order, whatever values the others brought. No program in sight.
-/
namespace Go.Proofs.YtahboomghjdjhaaGreat
open Go.RowKit

section
variable {P : Program} {ops : Array Oper} {w0 : World} {sp : Nat → Option (Value → Prop)} {C : Array Bool → Act → World → Prop}

/-- Two frames that an operation cannot tell apart. -/
def sees (o : Oper) (a b : Act) : Prop := ∀ x ∈ o.op.operands, b.eval x = a.eval x
/-- The values that an operation may bring: told ahead, or those of the first world. -/
def valsAt (P : Program) (w0 : World) (sp : Nat → Option (Value → Prop)) (i : Nat) (o : Oper) (a : Act) (u : Value) : Prop := match sp i with
  | some S => S u
  | none => ∃ w1, (execOp a.eval o).run P w0 = .ok (.value u) w1
def lands (P : Program) (D : Value → World → Prop) : Result Next → Prop
  | .ok (.value u) w' => D u w'
  | .ok .skip w' => D undef w'
  | .ok (.enter f args) w' => Calls P f args w' (fun e w'' => ∃ u, e = .returned u ∧ D u w'')
  | _ => False
def moves (P : Program) (ops : Array Oper) (w0 : World) (sp : Nat → Option (Value → Prop)) (C : Array Bool → Act → World → Prop) (i : Nat) (o : Oper) (a : Act) : Prop :=
  ∀ L b w, sees o a b → L.size = ops.size → i ∈ Region.ready .any ops L → C L b w → lands P (fun u w' => valsAt P w0 sp i o a u ∧ C (L.setIfInBounds i true) (b.put o.dst u) w') ((execOp a.eval o).run P w)
def wpMoves (P : Program) (ops : Array Oper) (w0 : World) (sp : Nat → Option (Value → Prop)) (C : Array Bool → Act → World → Prop) (Q : Act → Prop) : Nat → List Oper → Act → Prop
  | _, [], a => Q a
  | i, o :: rest, a => moves P ops w0 sp C i o a ∧ (∃ v, valsAt P w0 sp i o a v) ∧ ∀ v, valsAt P w0 sp i o a v → wpMoves P ops w0 sp C Q (i + 1) rest (a.put o.dst v)
def anyMoves (P : Program) (ops : Array Oper) (w0 : World) (sp : Nat → Option (Value → Prop)) (C : Array Bool → Act → World → Prop) (Q : Act → Prop) : Nat → Array Bool → Act → Prop
  | 0, L, a => Region.ready .any ops L = [] ∧ Q a
  | k + 1, L, a => (Region.ready .any ops L = [] → Q a) ∧ ∀ i ∈ Region.ready .any ops L, ∃ o, ops[i]? = some o ∧ o.guard = none ∧ moves P ops w0 sp C i o a ∧ (∃ v, valsAt P w0 sp i o a v) ∧ ∀ v, valsAt P w0 sp i o a v → anyMoves P ops w0 sp C Q k (L.setIfInBounds i true) (a.put o.dst v)

theorem wpAny_of_moves {Q : Act → Prop} {Q' : Exit → Act → World → Prop} (hQ : ∀ L a w, L.size = ops.size → Region.ready .any ops L = [] → C L a w → Q a → Q' .normal a w) :
    ∀ (k : Nat) (L : Array Bool) (a : Act) (w : World), L.size = ops.size → C L a w → anyMoves P ops w0 sp C Q k L a → wpAny P .any ops Q' k L a w
  | 0, L, a, w, hs, hC, h => ⟨h.1, hQ L a w hs h.1 hC h.2⟩
  | k + 1, L, a, w, hs, hC, h => ⟨fun h0 => hQ L a w hs h0 hC (h.1 h0), fun i hi => by
    obtain ⟨o, ho, hg, ht, _, hk⟩ := h.2 i hi
    have hs' : (L.setIfInBounds i true).size = ops.size := by simpa using hs
    have go := fun u w' (hv : valsAt P w0 sp i o a u) (hC' : C (L.setIfInBounds i true) (a.put o.dst u) w') => wpAny_of_moves hQ k _ _ w' hs' hC' (hk u hv)
    unfold wpOp
    rw [ho]
    show if Region.wanted o (yielded ops a.tmps) = true then _ else _
    rw [if_pos (wanted_free hg)]
    refine .inl ?_
    have h3 := ht L a w (fun _ _ => rfl) hs hi hC
    unfold Oper.wp
    generalize (execOp a.eval o).run P w = r at *
    cases r with
    | ok n w' =>
      cases n <;> simp only [lands] at h3 <;> simp only [Oper.upon]
      case value u => exact go _ _ h3.1 h3.2
      case skip => exact go _ _ h3.1 h3.2
      case enter f args => exact h3.mono fun e w'' ⟨u, he, hv, hc⟩ => by subst he; exact go _ _ hv hc
    | halt x w' => simp only [lands] at h3⟩

theorem vals_same {i : Nat} {o : Oper} {a a' : Act} (he : execOp a'.eval o = execOp a.eval o) (u : Value) : valsAt P w0 sp i o a' u ↔ valsAt P w0 sp i o a u := by
  unfold valsAt
  rw [he]
theorem moves_same {i : Nat} {o : Oper} {a a' : Act} (h : moves P ops w0 sp C i o a) (he : execOp a'.eval o = execOp a.eval o) (hx : ∀ x ∈ o.op.operands, a'.eval x = a.eval x) : moves P ops w0 sp C i o a' := by
  intro L b w hs h1 h2 h3
  have := h L b w (fun x hm => (hs x hm).trans (hx x hm)) h1 h2 h3
  rw [he]
  have e : (fun u w' => valsAt P w0 sp i o a' u ∧ C (L.setIfInBounds i true) (b.put o.dst u) w') = (fun u w' => valsAt P w0 sp i o a u ∧ C (L.setIfInBounds i true) (b.put o.dst u) w') := by
    funext u w'
    exact propext ⟨fun ⟨p, q⟩ => ⟨(vals_same he u).1 p, q⟩, fun ⟨p, q⟩ => ⟨(vals_same he u).2 p, q⟩⟩
  rw [e]
  exact this
theorem eval_apart {o : Oper} {a : Act} {dst : Option Tmp} {v : Value} (h : ∀ d, dst = some d → d ∉ o.looksAt ops) : ∀ x ∈ o.op.operands, (a.put dst v).eval x = a.eval x := fun x hx => Act.eval_put fun d hd hxd => h d hd (by
  subst hxd
  exact List.mem_append_left _ (List.mem_filterMap.2 ⟨.tmp d, by simpa using hx, rfl⟩))

/-- What may come up now, apart from all that is not behind it, may come up first. -/
theorem anyMoves_first {Q : Act → Prop} {i : Nat} {o : Oper} (ho : ops[i]? = some o) (hg : o.guard = none) (hsel : ∀ (j : Nat) (o : Oper) cs b, ops[j]? = some o → o.op ≠ .select cs b) : ∀ (k : Nat) (L : Array Bool) (a : Act),
    (∀ j oj, ops[j]? = some oj → j ≠ i → L.getD j true = false → (∀ e ∈ oj.after, Region.binds .any e = true → e.on ≠ i) → o.apart ops oj = true) →
    i ∈ Region.ready .any ops L → moves P ops w0 sp C i o a → (∃ v, valsAt P w0 sp i o a v) → (∀ v, valsAt P w0 sp i o a v → anyMoves P ops w0 sp C Q k (L.setIfInBounds i true) (a.put o.dst v)) → anyMoves P ops w0 sp C Q (k + 1) L a := by
  intro k
  induction k with
  | zero =>
    intro L a _ hr hy hne H
    refine ⟨fun h => (by rw [h] at hr; cases hr), fun j hj => ?_⟩
    by_cases hji : j = i
    · subst hji; exact ⟨o, ho, hg, hy, hne, H⟩
    · have := ready_mono hj hji
      obtain ⟨v, hv⟩ := hne
      rw [(H v hv).1] at this
      cases this
  | succ k ih =>
    intro L a hfree hr hy hne H
    refine ⟨fun h => (by rw [h] at hr; cases hr), fun j hj => ?_⟩
    by_cases hji : j = i
    · subst hji; exact ⟨o, ho, hg, hy, hne, H⟩
    · obtain ⟨v0, hv0⟩ := hne
      obtain ⟨oj, hoj, hgj, hmj, hnej, _⟩ := (H v0 hv0).2 j (ready_mono hj hji)
      obtain ⟨hjun, oj', hoj', hall⟩ := mem_ready.1 hj
      obtain rfl : oj = oj' := by rw [hoj] at hoj'; exact Option.some.inj hoj'
      have hnot : ∀ e ∈ oj.after, Region.binds .any e = true → e.on ≠ i := fun e he hb heq => by
        have h1 := hall e he hb
        have h0 := (mem_ready.1 hr).1
        rw [heq] at h1
        rcases Nat.lt_or_ge i L.size with h' | h'
        · simp [h'] at h0 h1; rw [h0] at h1; cases h1
        · simp [Array.getElem?_eq_none h'] at h1
      obtain ⟨p1, p2, p3⟩ := Oper.apart_spec (hfree j oj hoj hji hjun hnot)
      have ej : ∀ v, execOp (a.put o.dst v).eval oj = execOp a.eval oj := fun v => execOp_put oj (fun cs b => hsel j oj cs b hoj) a o.dst v p1
      have ei : ∀ u, execOp (a.put oj.dst u).eval o = execOp a.eval o := fun u => execOp_put o (fun cs b => hsel i o cs b ho) a oj.dst u p3
      have hmj' : moves P ops w0 sp C j oj a := moves_same hmj (ej v0).symm (fun x hx => (eval_apart p1 x hx).symm)
      have hnej' : ∃ u, valsAt P w0 sp j oj a u := by obtain ⟨u, hu⟩ := hnej; exact ⟨u, (vals_same (ej v0) u).1 hu⟩
      refine ⟨oj, hoj, hgj, hmj', hnej', fun u hu => ih (L.setIfInBounds j true) _ (fun m om hm hmi hun hno => hfree m om hm hmi ?_ hno) (ready_mono hr (Ne.symm hji)) (moves_same hy (ei u) (eval_apart p3)) ⟨v0, (vals_same (ei u) v0).2 hv0⟩ fun v hv => ?_⟩
      · by_cases hjm : j = m
        · subst hjm; exact hjun
        · rw [getD_set_ne true hjm] at hun; exact hun
      · obtain ⟨oj2, hoj2, _, _, _, hK⟩ := (H v ((vals_same (ei u) v).1 hv)).2 j (ready_mono hj hji)
        obtain rfl : oj = oj2 := by rw [hoj] at hoj2; exact Option.some.inj hoj2
        rw [Array.setIfInBounds_comm _ _ hji, ← Act.put_comm a v u p2]
        exact hK u ((vals_same (ej v) u).2 hu)

theorem anyMoves_lex {Q : Act → Prop} (hs : Region.noSelect ops = true) : ∀ (l : List Oper) (i : Nat) (L : Array Bool) (a : Act), (∀ j, l[j]? = ops[i + j]?) → (∀ o ∈ l, o.guard = none) →
    Region.lexFrom .any ops l.length i L = true → wpMoves P ops w0 sp C Q i l a → anyMoves P ops w0 sp C Q l.length L a
  | [], _, _, _, _, _, hB, h => ⟨by simpa [Region.lexFrom] using hB, h⟩
  | o :: l, i, L, a, hl, hgd, hB, h => by
    have h0 : ops[i]? = some o := by simpa using (hl 0).symm
    simp only [List.length_cons, Region.lexFrom, Bool.and_eq_true] at hB
    obtain ⟨⟨hr, hf⟩, hB'⟩ := hB
    obtain ⟨hv, hne, hK⟩ := h
    exact anyMoves_first h0 (hgd o (by simp)) (Region.noSelect_spec hs) l.length L a (Region.free_spec h0 hf) (by simpa using hr) hv hne fun v hvv =>
      anyMoves_lex hs l (i + 1) _ _ (fun j => by have := hl (j + 1); simpa [Nat.add_assoc, Nat.add_comm 1 j] using this) (fun o' h' => hgd o' (by simp [h'])) hB' (hK v hvv)

/-- The law. -/
theorem wp_region_moves {id : Nat} {Q : Exit → Act → World → Prop} {a : Act} {w : World} {l : List Oper} (w0 : World) (sp : Nat → Option (Value → Prop)) (C : Array Bool → Act → World → Prop) (hm : P.follows .mixedOrders = true) (hB : Region.lexB .any l.toArray = true) (hb : backOnly l.toArray = true) (hg : l.all (fun o => o.guard.isNone) = true)
    (hC : C (Array.replicate l.toArray.size false) a w.drew)
    (h : wpMoves P l.toArray w0 sp C (fun a' => ∀ L w', (∀ i, i < l.toArray.size → L.getD i false = true) → C L a' w' → Q .normal a' w') 0 l a) : (Code.region id l.toArray true).wp P Q a w := by
  simp only [Region.lexB, Bool.and_eq_true] at hB
  refine wp_region_any hm (wpAny_of_moves (C := C) (w0 := w0) (sp := sp) (Q := fun a' => ∀ L w', (∀ i, i < l.toArray.size → L.getD i false = true) → C L a' w' → Q .normal a' w') (fun L _ w' hs h0 hC' h => h L w' (all_up hb hs h0) hC') _ _ _ _ (by simp) hC ?_)
  have hg' : ∀ o ∈ l, o.guard = none := fun o ho => by
    have := List.all_eq_true.1 hg o ho
    simpa using this
  have := anyMoves_lex (C := C) (w0 := w0) (sp := sp) hB.1 l 0 (Array.replicate l.toArray.size false) a (by simp) hg' (by simpa using hB.2) h
  simpa using this
end
end Go.Proofs.YtahboomghjdjhaaGreat

/-
  Moves, where the operations that make memory or write come up one behind the other. No program in sight.
-/
namespace Go.Proofs.YtahboomghjdjhaaGreat
open Go.RowKit

/-- What stands in the slots of the chain. -/
def slotsOf (ds : List (Option Tmp)) (b : Act) (j : Nat) : Value := match ds.getD j none with
  | some d => b.eval (.tmp d)
  | none => undef
/-- The first k of the chain have come up. -/
def chainC (N : Nat) (ix : List Nat) (ds : List (Option Tmp)) (pre : List (Nat × Nat)) (D : Nat → (Nat → Value) → World → Prop) : Array Bool → Act → World → Prop := fun L b w =>
  b.tmps.size = N ∧ (∀ p ∈ pre, L.getD (ix.getD p.1 0) false = true → L.getD p.2 false = true) ∧ ∃ k, k ≤ ix.length ∧ (∀ m, m < ix.length → L.getD (ix.getD m 0) false = decide (m < k)) ∧ D k (slotsOf ds b) w

section
variable {P : Program} {ops : Array Oper} {w0 : World} {sp : Nat → Option (Value → Prop)} {N : Nat} {ix : List Nat} {ds : List (Option Tmp)} {pre : List (Nat × Nat)} {D : Nat → (Nat → Value) → World → Prop}

theorem set_keeps {L : Array Bool} {i j : Nat} (h : L.getD j false = true) : (L.setIfInBounds i true).getD j false = true := by
  by_cases hij : i = j
  · subst hij
    have hl : i < L.size := by
      rcases Nat.lt_or_ge i L.size with h' | h'
      · exact h'
      · simp [Array.getElem?_eq_none h'] at h
    simp [hl]
  · rw [getD_set_ne false hij]; exact h
theorem put_size (b : Act) (d : Option Tmp) (u : Value) : (b.put d u).tmps.size = b.tmps.size := by cases d <;> simp [Act.put]
theorem chain_new {n : Nat} {a : Act} {w : World} (ha : a.tmps.size = N) (h : D 0 (slotsOf ds a) w) : chainC N ix ds pre D (Array.replicate n false) a w := by
  refine ⟨ha, fun p _ hp => ?_, 0, Nat.zero_le _, fun m hm => ?_, h⟩
  · rcases Nat.lt_or_ge (ix.getD p.1 0) n with h' | h'
    · simp at h' hp; simp [h'] at hp
    · simp at h' hp; simp [h'] at hp
  rcases Nat.lt_or_ge (ix.getD m 0) n with h' | h'
  · simp at h' ⊢; simp [h']
  · simp at h' ⊢; simp [h']
theorem slots_put {b : Act} {o : Oper} {u : Value} (h : ∀ d, o.dst = some d → some d ∉ ds) : slotsOf ds (b.put o.dst u) = slotsOf ds b := by
  funext j
  unfold slotsOf
  cases hd : ds.getD j none with
  | none => rfl
  | some d =>
    refine Act.eval_put fun d' hd' he => ?_
    injection he with he
    subst he
    refine h d hd' ?_
    rw [List.getD_eq_getElem?_getD] at hd
    cases hg : ds[j]? with
    | none => rw [hg] at hd; cases hd
    | some x =>
      rw [hg] at hd
      simp only [Option.getD_some] at hd
      subst hd
      exact List.mem_of_getElem? hg
theorem chain_norm (hlt : ∀ p ∈ pre, p.1 < ix.length) {i : Nat} (hi : i ∉ ix) {o : Oper} (hd : ∀ d, o.dst = some d → some d ∉ ds) {L : Array Bool} {b : Act} {w : World} {u : Value} (h : chainC N ix ds pre D L b w) : chainC N ix ds pre D (L.setIfInBounds i true) (b.put o.dst u) w := by
  obtain ⟨hN, hpre, k, hk, hL, hD⟩ := h
  refine ⟨(put_size _ _ _).trans hN, fun p hp h1 => ?_, k, hk, fun m hm => ?_, by rw [slots_put hd]; exact hD⟩
  · refine set_keeps (hpre p hp ?_)
    rcases Nat.lt_or_ge p.1 ix.length with hm | hm
    · rwa [getD_set_ne false (fun e => hi (by rw [e, List.getD_eq_getElem?_getD, List.getElem?_eq_getElem hm]; exact List.getElem_mem hm))] at h1
    · by_cases h0 : i = ix.getD p.1 0
      · exact absurd (hlt p hp) (by omega)
      · rwa [getD_set_ne false h0] at h1
  · rw [getD_set_ne false (fun e => hi ?_)]
    · exact hL m hm
    · rw [e, List.getD_eq_getElem?_getD, List.getElem?_eq_getElem hm]
      exact List.getElem_mem hm
theorem chain_end {n : Nat} {L : Array Bool} {b : Act} {w : World} (h : chainC N ix ds pre D L b w) (hL : ∀ i, i < n → L.getD i false = true) (hi : ∀ m, m < ix.length → ix.getD m 0 < n) : D ix.length (slotsOf ds b) w := by
  obtain ⟨_, _, k, hk, h1, hD⟩ := h
  have : k = ix.length := by
    rcases Nat.lt_or_ge k ix.length with hlt | hge
    · have h2 := h1 k hlt
      rw [hL _ (hi k hlt)] at h2
      simp at h2
    · omega
  rw [this] at hD
  exact hD

/-- An operation that only reads, and reads the same in all worlds. -/
theorem move_read {i : Nat} {o : Oper} {rest : List Oper} {a : Act} {Q : Act → Prop} {v : Value} (hi : i ∉ ix) (hd : ∀ d, o.dst = some d → some d ∉ ds) (hsp : sp i = none) (hw0 : D 0 (slotsOf ds a) w0 ∨ ∃ k vs, D k vs w0)
    (h : ∀ k vs w, D k vs w → (execOp a.eval o).run P w = .ok (.value v) w) (hk : ∀ K : Act → Prop, (∀ a, wpMoves P ops w0 sp (chainC N ix ds pre D) Q (i + 1) rest a → K a) → K (a.put o.dst v)) (hlt : ∀ p ∈ pre, p.1 < ix.length := by decide) : wpMoves P ops w0 sp (chainC N ix ds pre D) Q i (o :: rest) a := by
  have h0 : (execOp a.eval o).run P w0 = .ok (.value v) w0 := by
    rcases hw0 with h' | ⟨k, vs, h'⟩
    · exact h _ _ _ h'
    · exact h _ _ _ h'
  have hv : valsAt P w0 sp i o a v := by unfold valsAt; rw [hsp]; exact ⟨w0, h0⟩
  refine ⟨fun L b w hs _ _ hC => ?_, ⟨v, hv⟩, fun u hu => ?_⟩
  · obtain ⟨_, _, k, hk', hL, hD⟩ := id hC
    rw [h _ _ _ hD]
    exact ⟨hv, chain_norm hlt hi hd hC⟩
  · unfold valsAt at hu
    rw [hsp] at hu
    obtain ⟨w1, hu⟩ := hu
    rw [h0] at hu
    injection hu with hu _
    injection hu with hu
    subst hu
    exact hk _ fun _ h => h

/-- .. that reads the same in all worlds ahead of the k0-th of the chain, which comes behind it. -/
theorem move_early (k0 : Nat) {i : Nat} {o : Oper} {rest : List Oper} {a : Act} {Q : Act → Prop} {v : Value} (hi : i ∉ ix) (hd : ∀ d, o.dst = some d → some d ∉ ds) (hsp : sp i = none) (_ : ops[i]? = some o) (hw0 : ∃ k vs, k ≤ k0 ∧ D k vs w0) (hk0 : k0 < ix.length) (hin : (k0, i) ∈ pre)
    (h : ∀ k vs w, k ≤ k0 → D k vs w → (execOp a.eval o).run P w = .ok (.value v) w) (hk : ∀ K : Act → Prop, (∀ a, wpMoves P ops w0 sp (chainC N ix ds pre D) Q (i + 1) rest a → K a) → K (a.put o.dst v)) (hlt : ∀ p ∈ pre, p.1 < ix.length := by decide) : wpMoves P ops w0 sp (chainC N ix ds pre D) Q i (o :: rest) a := by
  have h0 : (execOp a.eval o).run P w0 = .ok (.value v) w0 := by
    obtain ⟨k, vs, hkk, h'⟩ := hw0
    exact h _ _ _ hkk h'
  have hv : valsAt P w0 sp i o a v := by unfold valsAt; rw [hsp]; exact ⟨w0, h0⟩
  refine ⟨fun L b w hs hLs hr hC => ?_, ⟨v, hv⟩, fun u hu => ?_⟩
  · obtain ⟨_, hpre, k, hk', hL, hD⟩ := id hC
    obtain ⟨hun, o', ho', hall⟩ := mem_ready.1 hr
    have hiL : i < L.size := by
      rcases Nat.lt_or_ge i L.size with h' | h'
      · exact h'
      · simp [Array.getElem?_eq_none h'] at hun
    have h2 : L.getD i false = false := by simp [hiL] at hun ⊢; exact hun
    have hkk : k ≤ k0 := by
      rcases Nat.lt_or_ge k0 k with hlt' | hge
      · have h1 := hL k0 hk0
        have h3 := hpre (k0, i) hin (by rw [h1]; simpa using hlt')
        rw [h2] at h3; cases h3
      · exact hge
    rw [h _ _ _ hkk hD]
    exact ⟨hv, chain_norm hlt hi hd hC⟩
  · unfold valsAt at hu
    rw [hsp] at hu
    obtain ⟨w1, hu⟩ := hu
    rw [h0] at hu
    injection hu with hu _
    injection hu with hu
    subst hu
    exact hk _ fun _ h => h

/-- The k-th of the chain. -/
theorem move_at (k : Nat) {i : Nat} {o : Oper} {rest : List Oper} {a : Act} {Q : Act → Prop} (S : Value → Prop) (ho : ops[i]? = some o) (hkx : k < ix.length) (hik : ix.getD k 0 = i) (hnd : ∀ m, m < ix.length → m ≠ k → ix.getD m 0 ≠ i) (hdk : ds.getD k none = o.dst) (hdd : ∀ m d, m ≠ k → o.dst = some d → ds.getD m none ≠ some d)
    (hlink : (k == 0 || o.after.any (fun e => Region.binds .any e && e.on == ix.getD (k - 1) 0)) = true) (hbig : ∀ d, o.dst = some d → d < N) (hsp : sp i = some S) (hne : ∃ v, S v)
    (h : ∀ vs w, D k vs w → (∀ j d, ds.getD j none = some d → Operand.tmp d ∈ o.op.operands → vs j = a.eval (.tmp d)) → lands P (fun u w' => S u ∧ D (k + 1) (fun j => if j = k ∧ o.dst.isSome = true then u else vs j) w') ((execOp a.eval o).run P w))
    (hk : ∀ v, S v → ∀ K : Act → Prop, (∀ a, wpMoves P ops w0 sp (chainC N ix ds pre D) Q (i + 1) rest a → K a) → K (a.put o.dst v))
    (hpk : (pre.all fun p => if p.1 = k then o.after.any (fun e => Region.binds .any e && e.on == p.2) else ix.getD p.1 0 != i) = true := by first | rfl | decide | kernel_rfl) : wpMoves P ops w0 sp (chainC N ix ds pre D) Q i (o :: rest) a := by
  have hval : ∀ u, valsAt P w0 sp i o a u ↔ S u := fun u => by unfold valsAt; rw [hsp]
  refine ⟨fun L b w hs hLs hr hC => ?_, by obtain ⟨v, hv⟩ := hne; exact ⟨v, (hval v).2 hv⟩, fun u hu => hk u ((hval u).1 hu) _ fun _ h => h⟩
  obtain ⟨hbs, hpre, k', hk', hL, hD⟩ := hC
  obtain ⟨hun, o', ho', hall⟩ := mem_ready.1 hr
  obtain rfl : o' = o := by rw [ho] at ho'; exact (Option.some.inj ho').symm
  have hiL : i < L.size := by
    rcases Nat.lt_or_ge i L.size with h' | h'
    · exact h'
    · simp [Array.getElem?_eq_none h'] at hun
  have hkk : k' = k := by
    have h1 := hL k hkx
    rw [hik] at h1
    have h2 : L.getD i false = false := by simp [hiL] at hun ⊢; exact hun
    rw [h2] at h1
    have h3 : ¬ k < k' := by simpa using h1.symm
    rcases Nat.eq_zero_or_pos k with h0 | h0
    · omega
    · have h4 : (o'.after.any (fun e => Region.binds .any e && e.on == ix.getD (k - 1) 0)) = true := by
        have : (k == 0) = false := by rw [beq_eq_false_iff_ne]; omega
        rw [this, Bool.false_or] at hlink
        exact hlink
      obtain ⟨e, he, hb⟩ := Array.any_eq_true'.1 h4
      simp only [Bool.and_eq_true, beq_iff_eq] at hb
      have h5 := hall e he hb.1
      have h6 := hL (k - 1) (by omega)
      rw [← hb.2] at h6
      rw [h5] at h6
      have h7 : k - 1 < k' := by simpa using h6.symm
      omega
  subst hkk
  have hvs : ∀ j d, ds.getD j none = some d → Operand.tmp d ∈ o'.op.operands → slotsOf ds b j = a.eval (.tmp d) := fun j d hj hm => by
    unfold slotsOf
    rw [hj]
    exact hs _ hm
  have h1 := h _ _ hD hvs
  have hnext : ∀ u w', (S u ∧ D (k' + 1) (fun j => if j = k' ∧ o'.dst.isSome = true then u else slotsOf ds b j) w') → valsAt P w0 sp i o' a u ∧ chainC N ix ds pre D (L.setIfInBounds i true) (b.put o'.dst u) w' := fun u w' ⟨hS, hD'⟩ => by
    refine ⟨(hval u).2 hS, (put_size _ _ _).trans hbs, fun p hp h6 => ?_, k' + 1, hkx, fun m hm => ?_, ?_⟩
    · have h7 := List.all_eq_true.1 hpk p hp
      by_cases hpk' : p.1 = k'
      · rw [if_pos hpk'] at h7
        obtain ⟨e, he, hb⟩ := Array.any_eq_true'.1 h7
        simp only [Bool.and_eq_true, beq_iff_eq] at hb
        have h5 := hall e he hb.1
        rw [hb.2] at h5
        exact set_keeps h5
      · rw [if_neg hpk'] at h7
        have h8 : i ≠ ix.getD p.1 0 := fun e => by rw [← e] at h7; simp at h7
        rw [getD_set_ne false h8] at h6
        exact set_keeps (hpre p hp h6)
    · by_cases hmk : m = k'
      · subst hmk
        rw [hik]
        simp [hiL]
      · rw [getD_set_ne false (fun e => hnd m hm hmk e.symm), hL m hm]
        exact decide_eq_decide.2 (by omega)
    · have e : slotsOf ds (b.put o'.dst u) = fun j => if j = k' ∧ o'.dst.isSome = true then u else slotsOf ds b j := by
        funext j
        by_cases hj : j = k'
        · subst hj
          unfold slotsOf
          rw [hdk]
          cases hd : o'.dst with
          | none => simp
          | some d =>
            have := hbig d hd
            simp [Act.eval, Act.put, hbs, this]
        · rw [if_neg (fun h => hj h.1)]
          unfold slotsOf
          cases hd : ds.getD j none with
          | none => rfl
          | some d =>
            exact Act.eval_put fun d' hd' he => by
              injection he with he
              subst he
              exact hdd j d hj hd' hd
      rw [e]
      exact hD'
  generalize (execOp a.eval o').run P w = r at *
  cases r with
  | ok n w' =>
    cases n <;> simp only [lands] at h1 ⊢
    case value u => exact hnext _ _ h1
    case skip => exact hnext _ _ h1
    case enter f args => exact h1.mono fun e w'' ⟨u, he, hq⟩ => ⟨u, he, hnext _ _ hq⟩
  | halt x w' => simp only [lands] at h1
end
end Go.Proofs.YtahboomghjdjhaaGreat

/-
  Moves, where the operations that make memory or write come up one behind the other, but for one that may come up at any time (a variable's memory). No program in sight.
-/
namespace Go.Proofs.YtahboomghjdjhaaGreat
open Go.RowKit

/-- The first k of the chain have come up; f: has the free one, j? -/
def chainF (N : Nat) (ix : List Nat) (ds : List (Option Tmp)) (pre : List (Nat × Nat)) (j : Nat) (dj : Tmp) (D : Nat → Bool → (Nat → Value) → Value → World → Prop) : Array Bool → Act → World → Prop := fun L b w =>
  b.tmps.size = N ∧ (∀ p ∈ pre, L.getD (ix.getD p.1 0) false = true → L.getD p.2 false = true) ∧ ∃ k f, k ≤ ix.length ∧ (∀ m, m < ix.length → L.getD (ix.getD m 0) false = decide (m < k)) ∧ L.getD j false = f ∧ D k f (slotsOf ds b) (b.eval (.tmp dj)) w

section
variable {P : Program} {ops : Array Oper} {w0 : World} {sp : Nat → Option (Value → Prop)} {N : Nat} {ix : List Nat} {ds : List (Option Tmp)} {pre : List (Nat × Nat)} {j : Nat} {dj : Tmp} {D : Nat → Bool → (Nat → Value) → Value → World → Prop}

end
end Go.Proofs.YtahboomghjdjhaaGreat
