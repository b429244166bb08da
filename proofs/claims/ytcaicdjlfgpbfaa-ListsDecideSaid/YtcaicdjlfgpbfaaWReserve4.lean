/-
  Walks: tokens that belong together, in the reference.
-/
import Derived.Test.YtcaicdjlfgpbfaaWReserve2
import Derived.Test.YtcaicdjlfgpbfaaBox
namespace Go.Proofs.Ytcaicdjlfgpbfaa
open Go.RowKit Go.Lib Go.Joins
set_option linter.unusedVariables false

end Go.Proofs.Ytcaicdjlfgpbfaa
