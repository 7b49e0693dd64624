/-
  No cell of these rows narrows 'for every input' (looked for: loops, veiled, ifaces, maps, wideKeys, modest, calm, conditions, laid).
  DERIVED. THE GIVEN ROWS OF THIS SEAT. 5 by the template 'for every input the law returns true; each argument reads behind the call as it read before'; 0 by the template 'total and deterministic' (their statements: YtolcekbldpdmpaaTotals.lean).
  GIVEN WITH THE SEED: the statements are not yours to turn. If you find one false, say at which input.
  Laid BY PROGRAM, IN A SANDBOX (cutbox-rows.mjs): the forced cells as the released guide's own fill.sh prints them over the translation 4f8ca37468899ca9… (all of the seat's roots in one cut). By AI agents, Wed Nov 11 2026. No macro, syntax, notation, axiom, sorry.
-/
import Derived.Test.YtolcekbldpdmpaaChecked
import GoSem.Claim
import GoSem.ClaimJoined
import GoSem.ClaimMapViews
import Derived.JoinedTies
import Derived.KernelRfl
namespace Go.Proofs.Ytolcekbldpdmpaa
/- THE CELL 'sum', in the pinned program and in every row, IS THE sha256 OF THE DUMP (.gsa) THAT YtolcekbldpdmpaaProg.lean LOADS. Nothing in Lean hashes anything: it is a label: what it is worth is what the hold of that sum in a sandbox is worth. -/
noncomputable def Try.pinned : Pinned := { name := "ytolcekbldpdmpaa", sum := "4f8ca37468899ca9e295a219ff47fe0d9f2ab86251bbef126cbc10051c7512d5", checked := Try.checked }
namespace Rows
def none {H : Type} : Left H := { results := [], args := [] }

/-- 'bellowslaw04.BuildNames': WHATEVER THE INPUT: true; the input reads as it did. -/
def buildNamesSpec : ChangeSpec := { name := "buildNames", fn := fun _ => fun
  | [] => { results := [.lit (.bool true)], args := [] }
  | _ => none }
def buildNamesRow : OpenClaim := { program := "ytolcekbldpdmpaa", sum := "4f8ca37468899ca9e295a219ff47fe0d9f2ab86251bbef126cbc10051c7512d5", func := "bellows/bellowslaw04.BuildNames", spec := "buildNames", unfollowed := true, recurses := true, apart := false }
def BuildNamesSaid : Prop := buildNamesRow.holds Try.pinned (OpenSpec.ofChange buildNamesSpec)

/-- ITS FALSE NEIGHBOUR: 'it returns false'. Refute it at one input. -/
def buildNamesWrong : ChangeSpec := { name := "buildNames", fn := fun _ => fun
  | [] => { results := [.lit (.bool false)], args := [] }
  | _ => none }
def BuildNamesWrongFalsely : Prop := buildNamesRow.holds Try.pinned (OpenSpec.ofChange buildNamesWrong)

/-- 'bellowslaw04.BuildLengths': WHATEVER THE INPUT: true; the input reads as it did. -/
def buildLengthsSpec : ChangeSpec := { name := "buildLengths", fn := fun _ => fun
  | [d1, d2] => { results := [.lit (.bool true)], args := [d1, d2] }
  | _ => none }
def buildLengthsRow : OpenClaim := { program := "ytolcekbldpdmpaa", sum := "4f8ca37468899ca9e295a219ff47fe0d9f2ab86251bbef126cbc10051c7512d5", func := "bellows/bellowslaw04.BuildLengths", spec := "buildLengths", unfollowed := true, recurses := true, apart := false }
def BuildLengthsSaid : Prop := buildLengthsRow.holds Try.pinned (OpenSpec.ofChange buildLengthsSpec)

/-- ITS FALSE NEIGHBOUR: 'it returns false'. Refute it at one input. -/
def buildLengthsWrong : ChangeSpec := { name := "buildLengths", fn := fun _ => fun
  | [d1, d2] => { results := [.lit (.bool false)], args := [d1, d2] }
  | _ => none }
def BuildLengthsWrongFalsely : Prop := buildLengthsRow.holds Try.pinned (OpenSpec.ofChange buildLengthsWrong)

/-- 'bellowslaw04.BuildOrder': WHATEVER THE INPUT: true; the input reads as it did. -/
def buildOrderSpec : ChangeSpec := { name := "buildOrder", fn := fun _ => fun
  | [d1, d2, d3, d4] => { results := [.lit (.bool true)], args := [d1, d2, d3, d4] }
  | _ => none }
def buildOrderRow : OpenClaim := { program := "ytolcekbldpdmpaa", sum := "4f8ca37468899ca9e295a219ff47fe0d9f2ab86251bbef126cbc10051c7512d5", func := "bellows/bellowslaw04.BuildOrder", spec := "buildOrder", unfollowed := true, recurses := true, apart := false }
def BuildOrderSaid : Prop := buildOrderRow.holds Try.pinned (OpenSpec.ofChange buildOrderSpec)

/-- ITS FALSE NEIGHBOUR: 'it returns false'. Refute it at one input. -/
def buildOrderWrong : ChangeSpec := { name := "buildOrder", fn := fun _ => fun
  | [d1, d2, d3, d4] => { results := [.lit (.bool false)], args := [d1, d2, d3, d4] }
  | _ => none }
def BuildOrderWrongFalsely : Prop := buildOrderRow.holds Try.pinned (OpenSpec.ofChange buildOrderWrong)

/-- 'bellowslaw04.BuildWider': WHATEVER THE INPUT: true; the input reads as it did. -/
def buildWiderSpec : ChangeSpec := { name := "buildWider", fn := fun _ => fun
  | [d1, d2, d3] => { results := [.lit (.bool true)], args := [d1, d2, d3] }
  | _ => none }
def buildWiderRow : OpenClaim := { program := "ytolcekbldpdmpaa", sum := "4f8ca37468899ca9e295a219ff47fe0d9f2ab86251bbef126cbc10051c7512d5", func := "bellows/bellowslaw04.BuildWider", spec := "buildWider", unfollowed := true, recurses := true, apart := false }
def BuildWiderSaid : Prop := buildWiderRow.holds Try.pinned (OpenSpec.ofChange buildWiderSpec)

/-- ITS FALSE NEIGHBOUR: 'it returns false'. Refute it at one input. -/
def buildWiderWrong : ChangeSpec := { name := "buildWider", fn := fun _ => fun
  | [d1, d2, d3] => { results := [.lit (.bool false)], args := [d1, d2, d3] }
  | _ => none }
def BuildWiderWrongFalsely : Prop := buildWiderRow.holds Try.pinned (OpenSpec.ofChange buildWiderWrong)

/-- 'bellowslaw04.BuildLeast': WHATEVER THE INPUT: true; the input reads as it did. -/
def buildLeastSpec : ChangeSpec := { name := "buildLeast", fn := fun _ => fun
  | [d1, d2, d3] => { results := [.lit (.bool true)], args := [d1, d2, d3] }
  | _ => none }
def buildLeastRow : OpenClaim := { program := "ytolcekbldpdmpaa", sum := "4f8ca37468899ca9e295a219ff47fe0d9f2ab86251bbef126cbc10051c7512d5", func := "bellows/bellowslaw04.BuildLeast", spec := "buildLeast", unfollowed := true, recurses := true, apart := false }
def BuildLeastSaid : Prop := buildLeastRow.holds Try.pinned (OpenSpec.ofChange buildLeastSpec)

/-- ITS FALSE NEIGHBOUR: 'it returns false'. Refute it at one input. -/
def buildLeastWrong : ChangeSpec := { name := "buildLeast", fn := fun _ => fun
  | [d1, d2, d3] => { results := [.lit (.bool false)], args := [d1, d2, d3] }
  | _ => none }
def BuildLeastWrongFalsely : Prop := buildLeastRow.holds Try.pinned (OpenSpec.ofChange buildLeastWrong)

/- THE SECOND FORM. 'bulk': how many values and letters a reading holds, each counted each time it is reached (what is shared counts as often as it is met; a slice's spare places count too). A statement '..UptoSaid' is the law's where the arguments, and the package variables that the reading takes, are together of bulk at most 1048576: NARROWER than '..Said'. Prove '..Said' where nothing that the law and all that it calls make is longer than what came in: it says more and counts as full. Else prove '..UptoSaid'. A law counts once. -/
mutual
def uptoBulk {H : Type} : DataW H → Nat
  | .lit (.string bytes) => bytes.length + 1
  | .lit _ => 1
  | .nil => 1
  | .ptr d => uptoBulk d + 1
  | .slice elems spare => uptoBulkAll elems + uptoBulkAll spare + 1
  | .agg parts => uptoBulkAll parts + 1
  | .iface _ d => uptoBulk d + 1
  | .map entries => uptoBulkEntries entries + 1
  | .held _ => 1
def uptoBulkAll {H : Type} : List (DataW H) → Nat
  | [] => 0
  | d :: r => uptoBulk d + uptoBulkAll r
def uptoBulkEntries {H : Type} : List (Lit × DataW H) → Nat
  | [] => 0
  | x :: r => uptoBulkEntry x + uptoBulkEntries r
def uptoBulkEntry {H : Type} : Lit × DataW H → Nat
  | (.string bytes, d) => bytes.length + uptoBulk d + 1
  | (_, d) => uptoBulk d + 1
 end
def uptoSmall : (H : Type) → List (DataW H) → Bool := fun _ ds => decide (uptoBulkAll ds ≤ 1048576)
def OpenSpec.upto (s : _root_.Go.ChangeSpec) : _root_.Go.OpenSpec := { _root_.Go.OpenSpec.ofChange s with cond := some uptoSmall }

/-- 'bellowslaw04.BuildNames', WHERE WHAT IT READS IS OF BULK AT MOST 1048576: true; the input reads as it did. -/
def buildNamesUptoRow : OpenClaim := { program := "ytolcekbldpdmpaa", sum := "4f8ca37468899ca9e295a219ff47fe0d9f2ab86251bbef126cbc10051c7512d5", func := "bellows/bellowslaw04.BuildNames", spec := "buildNames", unfollowed := true, recurses := true, apart := false, narrowed := true }
def BuildNamesUptoSaid : Prop := buildNamesUptoRow.holds Try.pinned (OpenSpec.upto buildNamesSpec)

/-- 'bellowslaw04.BuildLengths', WHERE WHAT IT READS IS OF BULK AT MOST 1048576: true; the input reads as it did. -/
def buildLengthsUptoRow : OpenClaim := { program := "ytolcekbldpdmpaa", sum := "4f8ca37468899ca9e295a219ff47fe0d9f2ab86251bbef126cbc10051c7512d5", func := "bellows/bellowslaw04.BuildLengths", spec := "buildLengths", unfollowed := true, recurses := true, apart := false, narrowed := true }
def BuildLengthsUptoSaid : Prop := buildLengthsUptoRow.holds Try.pinned (OpenSpec.upto buildLengthsSpec)

/-- 'bellowslaw04.BuildOrder', WHERE WHAT IT READS IS OF BULK AT MOST 1048576: true; the input reads as it did. -/
def buildOrderUptoRow : OpenClaim := { program := "ytolcekbldpdmpaa", sum := "4f8ca37468899ca9e295a219ff47fe0d9f2ab86251bbef126cbc10051c7512d5", func := "bellows/bellowslaw04.BuildOrder", spec := "buildOrder", unfollowed := true, recurses := true, apart := false, narrowed := true }
def BuildOrderUptoSaid : Prop := buildOrderUptoRow.holds Try.pinned (OpenSpec.upto buildOrderSpec)

/-- 'bellowslaw04.BuildWider', WHERE WHAT IT READS IS OF BULK AT MOST 1048576: true; the input reads as it did. -/
def buildWiderUptoRow : OpenClaim := { program := "ytolcekbldpdmpaa", sum := "4f8ca37468899ca9e295a219ff47fe0d9f2ab86251bbef126cbc10051c7512d5", func := "bellows/bellowslaw04.BuildWider", spec := "buildWider", unfollowed := true, recurses := true, apart := false, narrowed := true }
def BuildWiderUptoSaid : Prop := buildWiderUptoRow.holds Try.pinned (OpenSpec.upto buildWiderSpec)

/-- 'bellowslaw04.BuildLeast', WHERE WHAT IT READS IS OF BULK AT MOST 1048576: true; the input reads as it did. -/
def buildLeastUptoRow : OpenClaim := { program := "ytolcekbldpdmpaa", sum := "4f8ca37468899ca9e295a219ff47fe0d9f2ab86251bbef126cbc10051c7512d5", func := "bellows/bellowslaw04.BuildLeast", spec := "buildLeast", unfollowed := true, recurses := true, apart := false, narrowed := true }
def BuildLeastUptoSaid : Prop := buildLeastUptoRow.holds Try.pinned (OpenSpec.upto buildLeastSpec)

end Rows
end Go.Proofs.Ytolcekbldpdmpaa
