/-
  Walks: Drop, in the reference.
-/
import Derived.Test.YtcaicdjlfgpbfaaDoorWToken5
import Derived.Deep.RegionLaw
namespace Go.Proofs.YtcaicdjlfgpbfaaDoor
open Go.RowKit Go.Lib Go.Joins
attribute [local go_sem] after_cell
set_option linter.unusedVariables false

end Go.Proofs.YtcaicdjlfgpbfaaDoor
