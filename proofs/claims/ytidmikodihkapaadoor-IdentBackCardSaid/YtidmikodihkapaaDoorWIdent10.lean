/-
  Walks: the statements about identifiers, but the one on wrong characters.
-/
import Derived.Test.YtidmikodihkapaaDoorWIdent9
namespace Go.Proofs.YtidmikodihkapaaDoor
open Go.RowKit Go.Lib Go.Joins
set_option linter.unusedVariables false

theorem same_comm (a b : ByteArray) : sameS b a = sameS a b := by
  unfold sameS
  by_cases h : capL a.data.toList = capL b.data.toList
  · simp [h]
  · simp [h, Ne.symm h]
theorem same_refl (a : ByteArray) : sameS a a = true := by simp [sameS]

end Go.Proofs.YtidmikodihkapaaDoor
