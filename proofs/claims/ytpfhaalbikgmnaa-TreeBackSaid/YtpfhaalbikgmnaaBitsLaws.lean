/-
  ten, alive: the chapter's pen. Words for the laws without the reference.
-/
import Derived.Test.YtpfhaalbikgmnaaPenD
import Derived.Test.YtpfhaalbikgmnaaOpen
namespace Go.Proofs.Ytpfhaalbikgmnaa
open Go.RowKit

theorem u8s_two (a b : Nat) : u8s [a, b] = [.int .u8 (a : Int), .int .u8 (b : Int)] := rfl

theorem put_is (A : Option Addr) (c : Nat) (l : List Nat) (n : Nat) (v k : Nat) (w : World) (m : List Nat) (N : Nat) (hm : putL l n v k = m) (hN : n + k = N)
    (hl : Bs w A l) (hA : A = none → l = []) (h2 : n ≤ 8388608) (h : mayB l n = true)
    (hv : v < 4294967296) (hf : fitsB v k = true) (hfull : n + k ≤ 8388608) :
    Calls Try.prog 24 #[.agg #[.slice A l.length c, .int .i64 n], .int .u32 v, .int .i64 k] w fun e w' => PenRes w w' e m N 0 := by
  subst hm hN; exact put_ok A c l n v k w hl hA h2 h hv hf hfull

/-- The chapter's pen. -/
def TenRes (w w' : World) (e : Ending) : Prop :=
  Below w.heap.size w w' ∧ ∃ A c, e = .returned (.tuple #[.agg #[.slice A 2 c, .int .i64 10], .bool true]) ∧ w'.ownsRow w.heap.size 5 1 (.slice A 2 c) 2 (u8s [29, 0])

theorem take_is (A : Option Addr) (c : Nat) (l : List Nat) (at_ n : Int) (w : World) (v e : Nat) (hv : takeV l at_ n = v) (he : takeE l at_ n = e) (hl : Bs w A l) (hm : l.length ≤ 1000000000)
    (h1 : -9223372036854775808 ≤ at_) (h2 : at_ ≤ 9223372036854775807) :
    Calls Try.prog 33 #[.slice A l.length c, .int .i64 at_, .int .i64 n] w fun o w' => o = .returned (.tuple #[.int .u32 (v : Int), .int .i64 (e : Int)]) ∧ w = w' := by
  subst hv he; exact take_any A c l at_ n w hl hm h1 h2

theorem two_bytes (w : World) (A : Option Addr) (a b : Nat) (t : TypeId) (hA : A = some ⟨w.heap.size, 0, none⟩) (ha : a < 256) (hb : b < 256) : Bs (w.alloc (.cells #[.int .u8 (a : Int), .int .u8 (b : Int)] t)) A [a, b] := by
  subst hA
  exact ⟨Sl.new _ _ _ _ rfl, by simp; omega⟩

theorem bytes_str (a b : Nat) : str [a, b] = ⟨#[UInt8.ofNat a, UInt8.ofNat b]⟩ := rfl

end Go.Proofs.Ytpfhaalbikgmnaa
