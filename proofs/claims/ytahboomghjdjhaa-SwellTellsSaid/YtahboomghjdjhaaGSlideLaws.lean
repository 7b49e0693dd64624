/-
  abc, alive: the chapter's window.
-/
import Derived.Lib.SlBytesConst
import Derived.Test.YtahboomghjdjhaaG27
namespace Go.Proofs.Ytahboomghjdjhaa
open Go.RowKit

theorem new_bytes (w : World) (A : Option Addr) (l : List Nat) (cs : Array Value) (t : TypeId) (fr : Nat × Nat) (hA : A = some ⟨w.heap.size, 0, none⟩) (hc : cs.toList = u8s l) (hl : ∀ x ∈ l, x < 256) : Bs (w.alloc (.cells cs t fr)) A l := by
  subst hA
  refine ⟨fun _ => ⟨_, _, rfl, fun i u hu => ?_⟩, hl⟩
  have : (w.alloc (.cells cs t fr)).heap[w.heap.size]? = some (.cells cs t fr) := heap_alloc_new w _
  rw [show (l.map fun (x : Nat) => Value.int .u8 (x : Int)) = u8s l from rfl, ← hc] at hu
  simp only [World.cell?, this]
  simpa using hu
theorem conv_const (w : World) (g : Nat) (C : Array Value) (n c : Nat) (hg : g = w.heap.size) :
    (convert 22 22 (.slice (some ⟨g, 0, none⟩) n c)).run Try.prog (w.alloc (.cells C 5)) = .ok (.slice (some ⟨g, 0, none⟩) n c) (w.alloc (.cells C 5 (C.size, C.size + 1))) := by
  subst hg
  exact Lib.run_convert_bytes_const w _ _ C n c Try.underlying22 Try.underlying5

theorem push_is (A B : Option Addr) (c d : Nat) (l b : List Nat) (s nl nb : Nat) (w : World) (M : List Nat) (hM : lastL s (l ++ b) = M) (hnl : nl = l.length) (hnb : nb = b.length) (h : MayW s l) (hbm : b.length ≤ 131072) (hc : l.length ≤ c) (hl : Bs w A l) (hA : A = none → l = []) (hb : Bs w B b) (hB : B = none → b = []) :
    Calls Try.prog 43 #[.agg #[.int .i64 s, .slice A nl c], .slice B nb d] w fun e w' => WinRes w w' e s M 0 := by
  subst hM hnl hnb; exact push_ok A B c d l b s w h hbm hc hl hA hb hB

theorem copy_is (A : Option Addr) (c : Nat) (l : List Nat) (s nl dist n : Nat) (w : World) (M T : List Nat) (hM : lastL s (copyL l dist n) = M) (hT : (copyL l dist n).drop l.length = T) (hnl : nl = l.length) (h : MayW s l) (hn : n ≤ 258) (hd1 : 1 ≤ dist) (hd2 : dist ≤ l.length) (hl : Bs w A l) (hA : A = none → l = []) :
    Calls Try.prog 42 #[.agg #[.int .i64 s, .slice A nl c], .int .i64 dist, .int .i64 n] w fun e w' => CopyRes w w' e s M T 0 := by
  subst hM hT hnl; exact copy_ok A c l s dist n w h hn hd1 hd2 hl hA

/-- The chapter's window. -/
def AbcRes (w w' : World) (e : Ending) : Prop :=
  Below w.heap.size w w' ∧ ∃ A c, e = .returned (.tuple #[.agg #[.int .i64 4, .slice A 3 c], .bool true]) ∧ w'.ownsRow w.heap.size 5 1 (.slice A 3 c) 3 (u8s [97, 98, 99])

end Go.Proofs.Ytahboomghjdjhaa
