/-
  strings.ToUpper and strings.ToLower, as the walks use them.
-/
import Derived.Test.YtpokacnbdojncaaDoorPHolder
import Derived.Test.YtpokacnbdojncaaDoorKept
import Derived.Test.YtpokacnbdojncaaDoorShelf
namespace Go.Proofs.YtpokacnbdojncaaDoor
open Go.RowKit Go.Lib
set_option linter.unusedVariables false

/-- what the case tables hold in a world -/
def Vars (w : World) : Prop := CaseVar 0 caseA w ∧ Lib.Utf8Tabs 2 3 w
theorem Vars.below {w w' : World} (h : Vars w) (hb : Below w.heap.size w w') : Vars w' := ⟨CaseVar_below h.1 hb, Utf8Tabs_below h.2 hb⟩

def upS (s : ByteArray) : ByteArray := ⟨(Lib.toUpperD s.data.toList).toArray⟩
theorem mem_ascii {s : ByteArray} (h : asciiL s.data.toList = true) : ∀ b ∈ s.data.toList, b.toNat < 128 := fun b hb => by
  have := List.all_eq_true.1 h b hb
  simpa using this
theorem upS_ascii {s : ByteArray} (h : asciiL s.data.toList = true) : upS s = ⟨(Lib.toUpperA s.data.toList).toArray⟩ := by
  unfold upS
  rw [toUpperD_ascii _ (mem_ascii h)]

theorem upper_from (W0 : World) (s : ByteArray) (w : World) (hs : s.size ≤ 4096) (hV : Vars W0) (hK : Kept W0 w) :
    Calls Tryd.prog 12 #[.string s] w fun e w' => e = .returned (.string (upS s)) ∧ Below w.heap.size w w' :=
  Tryd.strings_ToUpper_any s w (by omega) (hV.below hK.2).1 (hV.below hK.2).2

theorem lower_from (W0 : World) (s : ByteArray) (w : World) (hs : s.size ≤ 4096) (ha : asciiL s.data.toList = true) (hK : Kept W0 w) :
    Calls Tryd.prog 11 #[.string s] w fun e w' => e = .returned (.string ⟨(Lib.toLowerA s.data.toList).toArray⟩) ∧ Below w.heap.size w w' :=
  Tryd.strings_ToLower_ascii s w (by omega) (ascii_at ha)

end Go.Proofs.YtpokacnbdojncaaDoor
