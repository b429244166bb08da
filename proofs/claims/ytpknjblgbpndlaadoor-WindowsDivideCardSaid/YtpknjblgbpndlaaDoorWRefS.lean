/-
  Walks: the reference's spans.
-/
import Derived.Test.YtpknjblgbpndlaaDoorWWin10
namespace Go.Proofs.YtpknjblgbpndlaaDoor
open Go.RowKit Go.Lib Go.Maps
set_option linter.unusedVariables false

def spanB (a b : Int) : Bool := decide (0 ≤ a) && (decide (a ≤ b) && decide (b ≤ 268435456))
theorem spanB_iff {a b : Int} : spanB a b = true ↔ 0 ≤ a ∧ a ≤ b ∧ b ≤ 268435456 := by unfold spanB; simp

end Go.Proofs.YtpknjblgbpndlaaDoor
