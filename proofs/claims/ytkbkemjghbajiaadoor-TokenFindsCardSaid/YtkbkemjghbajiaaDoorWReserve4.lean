/-
  Walks: tokens that belong together, in the reference.
-/
import Derived.Test.YtkbkemjghbajiaaDoorWReserve2
import Derived.Test.YtkbkemjghbajiaaDoorBox
namespace Go.Proofs.YtkbkemjghbajiaaDoor
open Go.RowKit Go.Lib Go.Joins
set_option linter.unusedVariables false

end Go.Proofs.YtkbkemjghbajiaaDoor
