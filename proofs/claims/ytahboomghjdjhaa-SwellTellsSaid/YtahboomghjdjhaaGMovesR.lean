/-
  A drawn region that makes memory and writes (see Moves), in a round of a range over a function. No program in sight.
-/
import Derived.CallsIn
import Derived.OrdersIn
import Derived.RangeFuncCalls
import Derived.Test.YtahboomghjdjhaaG36
namespace Go.Proofs.Ytahboomghjdjhaa
open Go.RowKit

section
variable {P : Program} {ops : Array Oper} {w0 : World} {sp : Nat → Option (Value → Prop)} {C : Array Bool → Act → World → Prop}
def noDefer (o : Oper) : Bool := match o.op with
  | .defer _ => false
  | _ => true
theorem noDefer_ne {o : Oper} (h : noDefer o = true) : ∀ c, o.op ≠ .defer c := fun c e => by
  unfold noDefer at h
  rw [e] at h
  cases h
theorem wpAnyIn_of_moves {l n : Nat} (hnd : ∀ (i : Nat) (o : Oper), ops[i]? = some o → noDefer o = true) {Q : Act → Prop} {Q' : Exit → Act → World → Prop} (hQ : ∀ L a w, L.size = ops.size → Region.ready .any ops L = [] → C L a w → Q a → Q' .normal a w) :
    ∀ (k : Nat) (L : Array Bool) (a : Act) (w : World), L.size = ops.size → C L a w → anyMoves P ops w0 sp C Q k L a → wpAnyIn (Fence.wide.inRound l) n P .any ops Q' k L a w
  | 0, L, a, w, hs, hC, h => ⟨h.1, hQ L a w hs h.1 hC h.2⟩
  | k + 1, L, a, w, hs, hC, h => ⟨fun h0 => hQ L a w hs h0 hC (h.1 h0), fun i hi => by
    obtain ⟨o, ho, hg, ht, _, hk⟩ := h.2 i hi
    have hs' : (L.setIfInBounds i true).size = ops.size := by simpa using hs
    have go := fun u w' (hv : valsAt P w0 sp i o a u) (hC' : C (L.setIfInBounds i true) (a.put o.dst u) w') => wpAnyIn_of_moves (l := l) (n := n) hnd hQ k _ _ w' hs' hC' (hk u hv)
    unfold wpOpIn
    rw [ho]
    show if Region.wanted o (yielded ops a.tmps) = true then _ else _
    rw [if_pos (wanted_free hg)]
    have h3 := ht L a w (fun _ _ => rfl) hs hi hC
    unfold Oper.wpIn
    refine ⟨fun _ _ => trivial, ?_⟩
    rw [show (Fence.wide.inRound l).round = some l from rfl, Oper.semAt_eq _ _ _ (noDefer_ne (hnd i o ho))]
    generalize (execOp a.eval o).run P w = r at *
    cases r with
    | ok m w' =>
      cases m <;> simp only [lands] at h3 <;> simp only [Oper.uponIn]
      case value u => exact go _ _ h3.1 h3.2
      case skip => exact go _ _ h3.1 h3.2
      case enter f args => exact ⟨fun h => (by cases h), CallsIn.inRound l (callsIn_wide.2 (h3.mono fun e w'' ⟨u, he, hv, hc⟩ => by subst he; exact go _ _ hv hc))⟩
    | halt x w' => simp only [lands] at h3⟩
theorem wpIn_region_moves {l n : Nat} {id : Nat} {Q : Exit → Act → World → Prop} {a : Act} {w : World} {ls : List Oper} (w0 : World) (sp : Nat → Option (Value → Prop)) (C : Array Bool → Act → World → Prop) (hm : P.follows .mixedOrders = true) (hB : Region.lexB .any ls.toArray = true) (hb : backOnly ls.toArray = true) (hg : ls.all (fun o => o.guard.isNone && noDefer o) = true)
    (hC : C (Array.replicate ls.toArray.size false) a w.drew)
    (h : wpMoves P ls.toArray w0 sp C (fun a' => ∀ L w', (∀ i, i < ls.toArray.size → L.getD i false = true) → C L a' w' → Q .normal a' w') 0 ls a) : (Code.region id ls.toArray true).wpIn (Fence.wide.inRound l) n P Q a w := by
  simp only [Region.lexB, Bool.and_eq_true] at hB
  have hg' : ∀ o ∈ ls, o.guard = none ∧ noDefer o = true := fun o ho => by
    have := List.all_eq_true.1 hg o ho
    rw [Bool.and_eq_true] at this
    exact ⟨by simpa using this.1, this.2⟩
  refine wpIn_region_any hm (wpAnyIn_of_moves (C := C) (w0 := w0) (sp := sp) (fun i o ho => (hg' o (by
    have := List.mem_of_getElem? (l := ls) (i := i) (a := o) (by simpa using ho)
    exact this)).2) (Q := fun a' => ∀ L w', (∀ i, i < ls.toArray.size → L.getD i false = true) → C L a' w' → Q .normal a' w') (fun L _ w' hs h0 hC' h => h L w' (all_up hb hs h0) hC') _ _ _ _ (by simp) hC ?_)
  have := anyMoves_lex (C := C) (w0 := w0) (sp := sp) hB.1 ls 0 (Array.replicate ls.toArray.size false) a (by simp) (fun o ho => (hg' o ho).1) (by simpa using hB.2) h
  simpa using this
end
end Go.Proofs.Ytahboomghjdjhaa
