/-
  A region that draws its order, walked once in the text's order, where its callees may make memory but leave all that stood as it stood. No program in sight.
-/
import Derived.BigQuiet
import Derived.Deep.QuietTactic
import Derived.Test.YtfcefhaaphieeaaGreatG05
namespace Go.Proofs.YtfcefhaaphieeaaGreat
open Go.RowKit

/-- A world behind w0 in which all that stood at w0 is as it was. -/
structure Wx (w0 : World) where
  w : World
  b : Below w0.heap.size w0 w
instance (w0 : World) : Nonempty (Wx w0) := ⟨⟨w0, Below.refl _ _⟩⟩

section
variable {P : Program}
theorem wp_region_ext {id : Nat} {Q : Exit → Act → World → Prop} {a : Act} {w : World} {l : List Oper} (hm : P.follows .mixedOrders = true) (hB : Region.lexB .any l.toArray = true)
    (h : wpQuiet P l.toArray (fun w' => ∃ n : Wx w, w' = n.w) (fun a' => ∀ w', (∃ n : Wx w, w' = n.w) → Q .normal a' w') l a) : (Code.region id l.toArray true).wp P Q a w :=
  wp_region_quiet (C := fun w' => ∃ n : Wx w, w' = n.w) hm hB ⟨⟨_, (Below.refl _ _).drew⟩, rfl⟩ (by simpa using h)

/-- A callee's contract that leaves what stood. -/
theorem Calls.ext {f : FuncId} {args : Array Value} {w0 : World} (n : Wx w0) {v : Value}
    (h : Calls P f args n.w fun e w' => e = .returned v ∧ Below n.w.heap.size n.w w') : Calls P f args n.w fun e w'' => e = .returned v ∧ ∃ m : Wx w0, w'' = m.w :=
  h.mono fun _ w' ⟨he, hb⟩ => ⟨he, ⟨w', n.b.trans (hb.mono n.b.size)⟩, rfl⟩
theorem Calls.ext_draw {f : FuncId} {args : Array Value} {w0 : World} (n : Wx w0) {v : Value}
    (h : Calls P f args n.w fun e w' => e = .returned v ∧ ∃ q, w' = n.w.drewN q) : Calls P f args n.w fun e w'' => e = .returned v ∧ ∃ m : Wx w0, w'' = m.w :=
  h.mono fun _ w' ⟨he, q, hq⟩ => ⟨he, ⟨w', by rw [hq]; exact below_drewN' n.b q⟩, rfl⟩
theorem Calls.ext_same {f : FuncId} {args : Array Value} {w0 : World} (n : Wx w0) {v : Value}
    (h : Calls P f args n.w fun e w' => e = .returned v ∧ n.w = w') : Calls P f args n.w fun e w'' => e = .returned v ∧ ∃ m : Wx w0, w'' = m.w :=
  h.mono fun _ _ ⟨he, hq⟩ => ⟨he, n, hq.symm⟩

/-- A row loaded, in every world of the class. -/
theorem quiet_row {C : World → Prop} {o : Oper} {a : Act} {K : Act → Prop} (ty : TypeId) (x : Operand) (ho : o.op = .load ty x) {g : Nat} (hx : a.eval x = .pointer (some ⟨g, 0, none⟩)) {t : TypeId} {n : Nat} {f : Nat → Value} {d : TypeDesc}
    (hA : ∀ w, C w → Arr w g t n f) (hu : P.underlying ty = some d) (hd : (match d with | .struct _ | .array _ _ => true | _ => false) = true) (hi : (P.info? ty).map (·.size) = some n)
    (h : K (a.put o.dst (.agg (cellsOf n f)))) : o.quiet P a C K :=
  ⟨_, fun w hw => by
    unfold Oper.quietAt execOp
    simp only [ho, hx, Instr.loadAt, Instr.sureAddr, Sem.run_bind, Sem.run_pure, Result.andThen_ok, run_loadVar_row w g t ty (cellsOf n f) (0, 0) d (hA w hw) hu hd (by rw [hi, cellsOf_size])]
    exact ⟨rfl, rfl⟩, h⟩
end
end Go.Proofs.YtfcefhaaphieeaaGreat
