/-
  Walks: Drop, in the reference.
-/
import Derived.Test.YtcaicdjlfgpbfaaWToken5
import Derived.Deep.RegionLaw
namespace Go.Proofs.Ytcaicdjlfgpbfaa
open Go.RowKit Go.Lib Go.Joins
attribute [local go_sem] after_cell
set_option linter.unusedVariables false

end Go.Proofs.Ytcaicdjlfgpbfaa
