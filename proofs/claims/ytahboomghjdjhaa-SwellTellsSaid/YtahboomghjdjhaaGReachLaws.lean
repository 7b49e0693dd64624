/-
  The laws of reach, walked.
-/
import Derived.Test.YtahboomghjdjhaaG19
import Derived.Test.YtahboomghjdjhaaG20
import Derived.Test.YtahboomghjdjhaaGOpen
namespace Go.Proofs.Ytahboomghjdjhaa
open Go.RowKit

end Go.Proofs.Ytahboomghjdjhaa
