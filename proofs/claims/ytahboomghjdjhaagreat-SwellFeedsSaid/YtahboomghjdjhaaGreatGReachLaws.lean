/-
  The laws of reach, walked.
-/
import Derived.Test.YtahboomghjdjhaaGreatG19
import Derived.Test.YtahboomghjdjhaaGreatG20
import Derived.Test.YtahboomghjdjhaaGreatGOpen
namespace Go.Proofs.YtahboomghjdjhaaGreat
open Go.RowKit

end Go.Proofs.YtahboomghjdjhaaGreat
