/-
  Walks: tokens that belong together, in the reference.
-/
import Derived.Test.YtcaicdjlfgpbfaaDoorWReserve2
import Derived.Test.YtcaicdjlfgpbfaaDoorBox
namespace Go.Proofs.YtcaicdjlfgpbfaaDoor
open Go.RowKit Go.Lib Go.Joins
set_option linter.unusedVariables false

end Go.Proofs.YtcaicdjlfgpbfaaDoor
