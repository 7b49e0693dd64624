/-
  abc, alive: the chapter's window.
-/
import Derived.Lib.SlBytesConst
import Derived.Test.YtahboomghjdjhaaGreatG27
namespace Go.Proofs.YtahboomghjdjhaaGreat
open Go.RowKit

theorem push_is (A B : Option Addr) (c d : Nat) (l b : List Nat) (s nl nb : Nat) (w : World) (M : List Nat) (hM : lastL s (l ++ b) = M) (hnl : nl = l.length) (hnb : nb = b.length) (h : MayW s l) (hbm : b.length ≤ 131072) (hc : l.length ≤ c) (hl : Bs w A l) (hA : A = none → l = []) (hb : Bs w B b) (hB : B = none → b = []) :
    Calls Tryz.prog 62 #[.agg #[.int .i64 s, .slice A nl c], .slice B nb d] w fun e w' => WinRes w w' e s M 0 := by
  subst hM hnl hnb; exact push_ok A B c d l b s w h hbm hc hl hA hb hB

theorem copy_is (A : Option Addr) (c : Nat) (l : List Nat) (s nl dist n : Nat) (w : World) (M T : List Nat) (hM : lastL s (copyL l dist n) = M) (hT : (copyL l dist n).drop l.length = T) (hnl : nl = l.length) (h : MayW s l) (hn : n ≤ 258) (hd1 : 1 ≤ dist) (hd2 : dist ≤ l.length) (hl : Bs w A l) (hA : A = none → l = []) :
    Calls Tryz.prog 61 #[.agg #[.int .i64 s, .slice A nl c], .int .i64 dist, .int .i64 n] w fun e w' => CopyRes w w' e s M T 0 := by
  subst hM hT hnl; exact copy_ok A c l s dist n w h hn hd1 hd2 hl hA

/-- The chapter's window. -/
def AbcRes (w w' : World) (e : Ending) : Prop :=
  Below w.heap.size w w' ∧ ∃ A c, e = .returned (.tuple #[.agg #[.int .i64 4, .slice A 3 c], .bool true]) ∧ w'.ownsRow w.heap.size 5 1 (.slice A 3 c) 3 (u8s [97, 98, 99])

end Go.Proofs.YtahboomghjdjhaaGreat
