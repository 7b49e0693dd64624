/-
  Plain: tokens as symbols, how often each stands, lengths cut, and a block's numbers. No program in sight.
-/
import Derived.Test.YtahboomghjdjhaaGreatG00
import Derived.Test.YtahboomghjdjhaaGreatG03
import Derived.Test.YtahboomghjdjhaaGreatG20
import Derived.Test.YtahboomghjdjhaaGreatG24
namespace Go.Proofs.YtahboomghjdjhaaGreat

/-- A token. -/
structure Tk where
  lit : Nat
  dist : Int
  long : Int
/-- May it be? -/
def tkB (t : Tk) : Bool := decide (if t.long = 0 then t.dist = 0 else t.lit = 0 ∧ 3 ≤ t.long ∧ t.long ≤ 258 ∧ 1 ≤ t.dist ∧ t.dist ≤ 32768)
/-- A symbol of a token: whether it is a distance's, its extra bits, its extra. -/
structure Sy where
  far : Bool
  sym : Nat
  n : Nat
  x : Nat
def longS (n : Int) : Sy := ⟨false, (tellT 257 longT n).1, (tellT 257 longT n).2.1, (tellT 257 longT n).2.2.1.toNat⟩
def farS (n : Int) : Sy := ⟨true, (tellT 0 farT n).1, (tellT 0 farT n).2.1, (tellT 0 farT n).2.2.1.toNat⟩
def syT (t : Tk) : List Sy := if t.long = 0 then [⟨false, t.lit, 0, 0⟩] else [longS t.long, farS t.dist]
def endS : Sy := ⟨false, 256, 0, 0⟩
def symsL (l : List Tk) : List Sy := l.flatMap syT ++ [endS]
/-- May a symbol be? -/
def SyOk (s : Sy) : Prop := (if s.far = true then s.sym < 30 else s.sym < 286) ∧ s.n ≤ 13 ∧ s.x < 2 ^ s.n
/-- Tokens that may be. -/
def TksOk (l : List Tk) : Prop := ∀ t ∈ l, tkB t = true ∧ t.lit < 256
/-! ### How often -/
def hitS (far : Bool) (i : Nat) (s : Sy) : Bool := s.far == far && s.sym == i
def oftS (far : Bool) (ss : List Sy) (i : Nat) : Nat := (ss.filter (hitS far i)).length
/-- The frequencies of N symbols. -/
def freqL (far : Bool) (N : Nat) (ss : List Sy) : List Int := (List.range N).map fun i => ((oftS far ss i : Nat) : Int)
/-- How often each symbol stands in runs. -/
def oftR (rs : List (Int × Int)) (i : Nat) : Nat := (rs.filter fun r => r.1 == (i : Int)).length
def freqR (rs : List (Int × Int)) : List Int := (List.range 19).map fun i => ((oftR rs i : Nat) : Int)
/-! ### Lengths up to the last one that is not 0 -/
def downN (l : List Nat) (least : Nat) : Nat → Nat
  | 0 => 0
  | n + 1 => if least < n + 1 ∧ nth l n = 0 then downN l least n else n + 1
def toldN (l : List Nat) (least : Nat) : Nat := downN l least l.length
def cutL (l : List Nat) (least : Nat) : List Nat := l.take (toldN l least)
/-! ### The least lengths -/
open Classical in
noncomputable def minL (fr : List Int) (L : Nat) : List Nat := if h : ∃ ys, Items fr ys then outL fr h.choose L else []
/-- Lengths as the builder makes them. -/
structure MinL (fr : List Int) (L : Nat) (o : List Nat) : Prop where
  len : o.length = fr.length
  can : canE o L = 0
  pos : ∀ i, i < fr.length → (nth o i = 0 ↔ nthI fr i ≤ 0)
  le : ∀ x ∈ o, x ≤ L
/-! ### Codes as numbers -/
def codeN (c : Nat × Nat) : Nat × Nat := (rev c.1 c.2, c.2)
def nthC (cs : List (Nat × Nat)) (i : Nat) : Nat × Nat := cs[i]?.getD (0, 0)
end Go.Proofs.YtahboomghjdjhaaGreat

/-
  Plain: a block's numbers, as the program has them and as the document has them: the same bits. No program in sight.
-/
namespace Go.Proofs.YtahboomghjdjhaaGreat

/-! ### Tokens by codes -/
def tokP (a b : List (Nat × Nat)) (s : Sy) : List (Nat × Nat) := [codeN (nthC (if s.far = true then b else a) s.sym), (s.x, s.n)]
def toksP (a b : List (Nat × Nat)) (ss : List Sy) : List (Nat × Nat) := ss.flatMap (tokP a b)
def tokD (a b : List (Nat × Nat)) (t : Tk) : List (Nat × Nat) := if t.long = 0 then [codeN (nthC a t.lit)] else toksP a b [longS t.long, farS t.dist]
def toksD (a b : List (Nat × Nat)) (l : List Tk) : List (Nat × Nat) := l.flatMap (tokD a b)
/-! ### The fixed lengths, the order -/
def longsF : List Nat := List.replicate 144 8 ++ (List.replicate 112 9 ++ (List.replicate 24 7 ++ List.replicate 8 8))
def farsF : List Nat := List.replicate 32 5
def orderL : List Nat := [16, 17, 18, 0, 8, 7, 9, 6, 10, 5, 11, 4, 12, 3, 13, 2, 14, 1, 15]
theorem can_longsF : canE longsF 15 = 0 := by decide +kernel
theorem can_farsF : canE farsF 15 = 0 := by decide +kernel

/-! ### A dynamic block's lengths -/
noncomputable def dLongs (l : List Tk) : List Nat := cutL (minL (freqL false 286 (symsL l)) 15) 257
noncomputable def dFars (l : List Tk) : List Nat := cutL (minL (freqL true 30 (symsL l)) 15) 1
noncomputable def dAll (l : List Tk) : List (Int × Int) := runsFrom (dLongs l ++ dFars l) 0
noncomputable def dShorts (l : List Tk) : List Nat := minL (freqR (dAll l)) 7
noncomputable def dRow (l : List Tk) : List Nat := cutL (orderL.map (nth (dShorts l))) 4
def runN (cs : List (Nat × Nat)) (r : Int × Int) : List (Nat × Nat) := [codeN (nthC cs r.1.toNat), (r.2.toNat, symBits r.1)]
def runsN (cs : List (Nat × Nat)) (rs : List (Int × Int)) : List (Nat × Nat) := rs.flatMap (runN cs)
def shortN (x : Nat) : Nat × Nat := (x, 3)
noncomputable def dHead (l : List Tk) : List (Nat × Nat) := [((dLongs l).length - 257, 5), ((dFars l).length - 1, 5), ((dRow l).length - 4, 4)]
noncomputable def dNums (l : List Tk) : List (Nat × Nat) := dHead l ++ ((dRow l).map shortN ++ runsN (codesL (dShorts l)) (dAll l))

/-- Frequencies that may be, with their one list of items. -/
structure FreqOk (fr : List Int) (L : Nat) : Prop where
  ok : ∃ ys, Items fr ys ∧ ys.length ≤ 2 ^ L
  n320 : fr.length ≤ 320
section
variable (l : List Tk)
end
/-! ### All of a block's numbers -/
def headN (last : Bool) (kind : Nat) : List (Nat × Nat) := [(if last = true then 1 else 0, 1), (kind, 2)]
def padN (at_ : Nat) : Nat := (8 - (at_ + 3) % 8) % 8
def byteN (x : Nat) : Nat × Nat := (x, 8)
def rawN (raw : List Nat) : List (Nat × Nat) := (raw.length, 16) :: (65535 - raw.length, 16) :: raw.map byteN
noncomputable def bodyP (at_ kind : Nat) (raw : List Nat) (l : List Tk) : List (Nat × Nat) :=
  if kind = 0 then (0, padN at_) :: rawN raw else if kind = 1 then toksP (codesL longsF) (codesL farsF) (symsL l) else dNums l ++ toksP (codesL (dLongs l)) (codesL (dFars l)) (symsL l)
noncomputable def bodyD (at_ kind : Nat) (raw : List Nat) (l : List Tk) : List (Nat × Nat) :=
  if kind = 0 then List.replicate (padN at_) (0, 1) ++ rawN raw else if kind = 1 then toksD (codesL longsF) (codesL farsF) l ++ [codeN (nthC (codesL longsF) 256)] else dNums l ++ (toksD (codesL (dLongs l)) (codesL (dFars l)) l ++ [codeN (nthC (codesL (dLongs l)) 256)])
noncomputable def numsP (at_ kind : Nat) (raw : List Nat) (l : List Tk) (last : Bool) : List (Nat × Nat) := headN last kind ++ bodyP at_ kind raw l
noncomputable def numsD (at_ kind : Nat) (raw : List Nat) (l : List Tk) (last : Bool) : List (Nat × Nat) := headN last kind ++ bodyD at_ kind raw l
/-! ### They have their bits -/
/-! ### How many there are -/
end Go.Proofs.YtahboomghjdjhaaGreat
