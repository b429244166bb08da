/-
  strings.ToUpper and strings.ToLower of ASCII text.
-/
import Derived.Test.YtcaicdjlfgpbfaaDoorAsc
import Derived.Test.YtcaicdjlfgpbfaaDoorShelf
namespace Go.Proofs.YtcaicdjlfgpbfaaDoor
open Go.RowKit Go.Lib
set_option linter.unusedVariables false

theorem upperA_any (s : ByteArray) (w : World) (hs : s.size ≤ 4096) (ha : asciiL s.data.toList = true) :
    Calls Tryd.prog 11 #[.string s] w fun e w' => e = .returned (.string (capS s)) ∧ Below w.heap.size w w' := by
  have h := Tryd.strings_ToUpper_ascii s w (by omega) (ascii_at ha)
  rw [upper_cap] at h
  exact h

theorem lowerA_any (s : ByteArray) (w : World) (hs : s.size ≤ 4096) (ha : asciiL s.data.toList = true) :
    Calls Tryd.prog 12 #[.string s] w fun e w' => e = .returned (.string (lowS s)) ∧ Below w.heap.size w w' :=
  Tryd.strings_ToLower_ascii s w (by omega) (ascii_at ha)

end Go.Proofs.YtcaicdjlfgpbfaaDoor
