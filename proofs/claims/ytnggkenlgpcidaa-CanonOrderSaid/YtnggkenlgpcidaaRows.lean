/-
  No cell of these rows narrows 'for every input' (looked for: loops, veiled, ifaces, maps, wideKeys, modest, calm, conditions, laid).
  DERIVED. THE GIVEN ROWS OF THIS SEAT. 6 by the template 'for every input the law returns true; each argument reads behind the call as it read before'; 0 by the template 'total and deterministic' (their statements: YtnggkenlgpcidaaTotals.lean).
  GIVEN WITH THE SEED: the statements are not yours to turn. If you find one false, say at which input.
  Laid BY PROGRAM, IN A SANDBOX (cutbox-rows.mjs): the forced cells as the released guide's own fill.sh prints them over the translation a772790e9d8c5bef… (all of the seat's roots in one cut). By AI agents, Wed Nov 11 2026. No macro, syntax, notation, axiom, sorry.
-/
import Derived.Test.YtnggkenlgpcidaaChecked
import GoSem.Claim
import GoSem.ClaimJoined
import GoSem.ClaimMapViews
import Derived.JoinedTies
import Derived.KernelRfl
namespace Go.Proofs.Ytnggkenlgpcidaa
/- THE CELL 'sum', in the pinned program and in every row, IS THE sha256 OF THE DUMP (.gsa) THAT YtnggkenlgpcidaaProg.lean LOADS. Nothing in Lean hashes anything: it is a label: what it is worth is what the hold of that sum in a sandbox is worth. -/
noncomputable def Try.pinned : Pinned := { name := "ytnggkenlgpcidaa", sum := "a772790e9d8c5bef35c8c3bf512bdab055da58f6cb07e0d466f9e07fbf4eda24", checked := Try.checked }
namespace Rows
def none {H : Type} : Left H := { results := [], args := [] }

/-- 'bellowslaw03.CanonNames': WHATEVER THE INPUT: true; the input reads as it did. -/
def canonNamesSpec : ChangeSpec := { name := "canonNames", fn := fun _ => fun
  | [] => { results := [.lit (.bool true)], args := [] }
  | _ => none }
def canonNamesRow : OpenClaim := { program := "ytnggkenlgpcidaa", sum := "a772790e9d8c5bef35c8c3bf512bdab055da58f6cb07e0d466f9e07fbf4eda24", func := "bellows/bellowslaw03.CanonNames", spec := "canonNames", apart := false }
def CanonNamesSaid : Prop := canonNamesRow.holds Try.pinned (OpenSpec.ofChange canonNamesSpec)

/-- ITS FALSE NEIGHBOUR: 'it returns false'. Refute it at one input. -/
def canonNamesWrong : ChangeSpec := { name := "canonNames", fn := fun _ => fun
  | [] => { results := [.lit (.bool false)], args := [] }
  | _ => none }
def CanonNamesWrongFalsely : Prop := canonNamesRow.holds Try.pinned (OpenSpec.ofChange canonNamesWrong)

/-- 'bellowslaw03.CanonCodes': WHATEVER THE INPUT: true; the input reads as it did. -/
def canonCodesSpec : ChangeSpec := { name := "canonCodes", fn := fun _ => fun
  | [d1, d2] => { results := [.lit (.bool true)], args := [d1, d2] }
  | _ => none }
def canonCodesRow : OpenClaim := { program := "ytnggkenlgpcidaa", sum := "a772790e9d8c5bef35c8c3bf512bdab055da58f6cb07e0d466f9e07fbf4eda24", func := "bellows/bellowslaw03.CanonCodes", spec := "canonCodes", apart := false }
def CanonCodesSaid : Prop := canonCodesRow.holds Try.pinned (OpenSpec.ofChange canonCodesSpec)

/-- ITS FALSE NEIGHBOUR: 'it returns false'. Refute it at one input. -/
def canonCodesWrong : ChangeSpec := { name := "canonCodes", fn := fun _ => fun
  | [d1, d2] => { results := [.lit (.bool false)], args := [d1, d2] }
  | _ => none }
def CanonCodesWrongFalsely : Prop := canonCodesRow.holds Try.pinned (OpenSpec.ofChange canonCodesWrong)

/-- 'bellowslaw03.CanonApart': WHATEVER THE INPUT: true; the input reads as it did. -/
def canonApartSpec : ChangeSpec := { name := "canonApart", fn := fun _ => fun
  | [d1, d2, d3, d4] => { results := [.lit (.bool true)], args := [d1, d2, d3, d4] }
  | _ => none }
def canonApartRow : OpenClaim := { program := "ytnggkenlgpcidaa", sum := "a772790e9d8c5bef35c8c3bf512bdab055da58f6cb07e0d466f9e07fbf4eda24", func := "bellows/bellowslaw03.CanonApart", spec := "canonApart", apart := false }
def CanonApartSaid : Prop := canonApartRow.holds Try.pinned (OpenSpec.ofChange canonApartSpec)

/-- ITS FALSE NEIGHBOUR: 'it returns false'. Refute it at one input. -/
def canonApartWrong : ChangeSpec := { name := "canonApart", fn := fun _ => fun
  | [d1, d2, d3, d4] => { results := [.lit (.bool false)], args := [d1, d2, d3, d4] }
  | _ => none }
def CanonApartWrongFalsely : Prop := canonApartRow.holds Try.pinned (OpenSpec.ofChange canonApartWrong)

/-- 'bellowslaw03.CanonFull': WHATEVER THE INPUT: true; the input reads as it did. -/
def canonFullSpec : ChangeSpec := { name := "canonFull", fn := fun _ => fun
  | [d1, d2, d3] => { results := [.lit (.bool true)], args := [d1, d2, d3] }
  | _ => none }
def canonFullRow : OpenClaim := { program := "ytnggkenlgpcidaa", sum := "a772790e9d8c5bef35c8c3bf512bdab055da58f6cb07e0d466f9e07fbf4eda24", func := "bellows/bellowslaw03.CanonFull", spec := "canonFull", apart := false }
def CanonFullSaid : Prop := canonFullRow.holds Try.pinned (OpenSpec.ofChange canonFullSpec)

/-- ITS FALSE NEIGHBOUR: 'it returns false'. Refute it at one input. -/
def canonFullWrong : ChangeSpec := { name := "canonFull", fn := fun _ => fun
  | [d1, d2, d3] => { results := [.lit (.bool false)], args := [d1, d2, d3] }
  | _ => none }
def CanonFullWrongFalsely : Prop := canonFullRow.holds Try.pinned (OpenSpec.ofChange canonFullWrong)

/-- 'bellowslaw03.CanonOrder': WHATEVER THE INPUT: true; the input reads as it did. -/
def canonOrderSpec : ChangeSpec := { name := "canonOrder", fn := fun _ => fun
  | [d1, d2, d3, d4] => { results := [.lit (.bool true)], args := [d1, d2, d3, d4] }
  | _ => none }
def canonOrderRow : OpenClaim := { program := "ytnggkenlgpcidaa", sum := "a772790e9d8c5bef35c8c3bf512bdab055da58f6cb07e0d466f9e07fbf4eda24", func := "bellows/bellowslaw03.CanonOrder", spec := "canonOrder", apart := false }
def CanonOrderSaid : Prop := canonOrderRow.holds Try.pinned (OpenSpec.ofChange canonOrderSpec)

/-- ITS FALSE NEIGHBOUR: 'it returns false'. Refute it at one input. -/
def canonOrderWrong : ChangeSpec := { name := "canonOrder", fn := fun _ => fun
  | [d1, d2, d3, d4] => { results := [.lit (.bool false)], args := [d1, d2, d3, d4] }
  | _ => none }
def CanonOrderWrongFalsely : Prop := canonOrderRow.holds Try.pinned (OpenSpec.ofChange canonOrderWrong)

/-- 'bellowslaw03.CanonBounds': WHATEVER THE INPUT: true; the input reads as it did. -/
def canonBoundsSpec : ChangeSpec := { name := "canonBounds", fn := fun _ => fun
  | [d1, d2, d3] => { results := [.lit (.bool true)], args := [d1, d2, d3] }
  | _ => none }
def canonBoundsRow : OpenClaim := { program := "ytnggkenlgpcidaa", sum := "a772790e9d8c5bef35c8c3bf512bdab055da58f6cb07e0d466f9e07fbf4eda24", func := "bellows/bellowslaw03.CanonBounds", spec := "canonBounds", apart := false }
def CanonBoundsSaid : Prop := canonBoundsRow.holds Try.pinned (OpenSpec.ofChange canonBoundsSpec)

/-- ITS FALSE NEIGHBOUR: 'it returns false'. Refute it at one input. -/
def canonBoundsWrong : ChangeSpec := { name := "canonBounds", fn := fun _ => fun
  | [d1, d2, d3] => { results := [.lit (.bool false)], args := [d1, d2, d3] }
  | _ => none }
def CanonBoundsWrongFalsely : Prop := canonBoundsRow.holds Try.pinned (OpenSpec.ofChange canonBoundsWrong)

/- THE SECOND FORM. 'bulk': how many values and letters a reading holds, each counted each time it is reached (what is shared counts as often as it is met; a slice's spare places count too). A statement '..UptoSaid' is the law's where the arguments, and the package variables that the reading takes, are together of bulk at most 1048576: NARROWER than '..Said'. Prove '..Said' where nothing that the law and all that it calls make is longer than what came in: it says more and counts as full. Else prove '..UptoSaid'. A law counts once. -/
mutual
def uptoBulk {H : Type} : DataW H → Nat
  | .lit (.string bytes) => bytes.length + 1
  | .lit _ => 1
  | .nil => 1
  | .ptr d => uptoBulk d + 1
  | .slice elems spare => uptoBulkAll elems + uptoBulkAll spare + 1
  | .agg parts => uptoBulkAll parts + 1
  | .iface _ d => uptoBulk d + 1
  | .map entries => uptoBulkEntries entries + 1
  | .held _ => 1
def uptoBulkAll {H : Type} : List (DataW H) → Nat
  | [] => 0
  | d :: r => uptoBulk d + uptoBulkAll r
def uptoBulkEntries {H : Type} : List (Lit × DataW H) → Nat
  | [] => 0
  | x :: r => uptoBulkEntry x + uptoBulkEntries r
def uptoBulkEntry {H : Type} : Lit × DataW H → Nat
  | (.string bytes, d) => bytes.length + uptoBulk d + 1
  | (_, d) => uptoBulk d + 1
 end
def uptoSmall : (H : Type) → List (DataW H) → Bool := fun _ ds => decide (uptoBulkAll ds ≤ 1048576)
def OpenSpec.upto (s : _root_.Go.ChangeSpec) : _root_.Go.OpenSpec := { _root_.Go.OpenSpec.ofChange s with cond := some uptoSmall }

/-- 'bellowslaw03.CanonNames', WHERE WHAT IT READS IS OF BULK AT MOST 1048576: true; the input reads as it did. -/
def canonNamesUptoRow : OpenClaim := { program := "ytnggkenlgpcidaa", sum := "a772790e9d8c5bef35c8c3bf512bdab055da58f6cb07e0d466f9e07fbf4eda24", func := "bellows/bellowslaw03.CanonNames", spec := "canonNames", apart := false, narrowed := true }
def CanonNamesUptoSaid : Prop := canonNamesUptoRow.holds Try.pinned (OpenSpec.upto canonNamesSpec)

/-- 'bellowslaw03.CanonCodes', WHERE WHAT IT READS IS OF BULK AT MOST 1048576: true; the input reads as it did. -/
def canonCodesUptoRow : OpenClaim := { program := "ytnggkenlgpcidaa", sum := "a772790e9d8c5bef35c8c3bf512bdab055da58f6cb07e0d466f9e07fbf4eda24", func := "bellows/bellowslaw03.CanonCodes", spec := "canonCodes", apart := false, narrowed := true }
def CanonCodesUptoSaid : Prop := canonCodesUptoRow.holds Try.pinned (OpenSpec.upto canonCodesSpec)

/-- 'bellowslaw03.CanonApart', WHERE WHAT IT READS IS OF BULK AT MOST 1048576: true; the input reads as it did. -/
def canonApartUptoRow : OpenClaim := { program := "ytnggkenlgpcidaa", sum := "a772790e9d8c5bef35c8c3bf512bdab055da58f6cb07e0d466f9e07fbf4eda24", func := "bellows/bellowslaw03.CanonApart", spec := "canonApart", apart := false, narrowed := true }
def CanonApartUptoSaid : Prop := canonApartUptoRow.holds Try.pinned (OpenSpec.upto canonApartSpec)

/-- 'bellowslaw03.CanonFull', WHERE WHAT IT READS IS OF BULK AT MOST 1048576: true; the input reads as it did. -/
def canonFullUptoRow : OpenClaim := { program := "ytnggkenlgpcidaa", sum := "a772790e9d8c5bef35c8c3bf512bdab055da58f6cb07e0d466f9e07fbf4eda24", func := "bellows/bellowslaw03.CanonFull", spec := "canonFull", apart := false, narrowed := true }
def CanonFullUptoSaid : Prop := canonFullUptoRow.holds Try.pinned (OpenSpec.upto canonFullSpec)

/-- 'bellowslaw03.CanonOrder', WHERE WHAT IT READS IS OF BULK AT MOST 1048576: true; the input reads as it did. -/
def canonOrderUptoRow : OpenClaim := { program := "ytnggkenlgpcidaa", sum := "a772790e9d8c5bef35c8c3bf512bdab055da58f6cb07e0d466f9e07fbf4eda24", func := "bellows/bellowslaw03.CanonOrder", spec := "canonOrder", apart := false, narrowed := true }
def CanonOrderUptoSaid : Prop := canonOrderUptoRow.holds Try.pinned (OpenSpec.upto canonOrderSpec)

/-- 'bellowslaw03.CanonBounds', WHERE WHAT IT READS IS OF BULK AT MOST 1048576: true; the input reads as it did. -/
def canonBoundsUptoRow : OpenClaim := { program := "ytnggkenlgpcidaa", sum := "a772790e9d8c5bef35c8c3bf512bdab055da58f6cb07e0d466f9e07fbf4eda24", func := "bellows/bellowslaw03.CanonBounds", spec := "canonBounds", apart := false, narrowed := true }
def CanonBoundsUptoSaid : Prop := canonBoundsUptoRow.holds Try.pinned (OpenSpec.upto canonBoundsSpec)

end Rows
end Go.Proofs.Ytnggkenlgpcidaa
