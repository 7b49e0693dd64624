/-
  Walks: Align.
-/
import Derived.Deep.AppendLies
import Derived.Deep.RegionHeld3
import Derived.Test.YtahboomghjdjhaaGreatG12
namespace Go.Proofs.YtahboomghjdjhaaGreat
open Go.RowKit

end Go.Proofs.YtahboomghjdjhaaGreat
