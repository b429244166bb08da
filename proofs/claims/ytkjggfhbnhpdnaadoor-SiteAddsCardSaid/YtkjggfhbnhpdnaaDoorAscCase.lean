/-
  strings.ToUpper and strings.ToLower of ASCII text.
-/
import Derived.Test.YtkjggfhbnhpdnaaDoorAsc
import Derived.Test.YtkjggfhbnhpdnaaDoorShelf
namespace Go.Proofs.YtkjggfhbnhpdnaaDoor
open Go.RowKit Go.Lib
set_option linter.unusedVariables false

theorem upperA_any (s : ByteArray) (w : World) (hs : s.size ≤ 4096) (ha : asciiL s.data.toList = true) :
    Calls Tryd.prog 34 #[.string s] w fun e w' => e = .returned (.string (capS s)) ∧ Below w.heap.size w w' := by
  have h := Tryd.strings_ToUpper_ascii s w (by omega) (ascii_at ha)
  rw [upper_cap] at h
  exact h

end Go.Proofs.YtkjggfhbnhpdnaaDoor
