/-
  slices.Equal, the same graph, draws of wrong graphs with a known result.
-/
import Derived.Test.YtjklefjjmfpnoaaGreatCtM
import Derived.Test.YtjklefjjmfpnoaaGreatCtH
namespace Go.Fw
set_option linter.unusedSimpArgs false
set_option linter.unusedVariables false
set_option maxRecDepth 100000
set_option maxHeartbeats 4000000
open Go.Proofs.Tryz (prog)
open Go.Pl

end Go.Fw
