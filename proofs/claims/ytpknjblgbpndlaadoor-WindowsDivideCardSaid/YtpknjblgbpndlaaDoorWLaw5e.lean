/-
  Walks: the law WindowConstant.
-/
import Derived.Test.YtpknjblgbpndlaaDoorWLaw5b
import Derived.Test.YtpknjblgbpndlaaDoorPCon5
import Derived.Test.YtpknjblgbpndlaaDoorKept
import Derived.RegionTactic
import Derived.Deep.DeepCutAuto
namespace Go.Proofs.YtpknjblgbpndlaaDoor
open Go.RowKit Go.Lib Go.Maps
attribute [local go_sem] after_cell
set_option linter.unusedVariables false

theorem after_below5 {W : World} (x : KeptOf W) : Below W.heap.size W (after x) := (after_kept x).2
/-- Holds at this time returns b, in any world that holds the table -/
abbrev HoldsC (W : WinR) (z : ZoneR) (t : Int) (b : Bool) : Prop := ∀ w, LenV w → Calls Tryd.prog 14 #[.agg #[.int .i64 W.dy, .int .i64 W.st, .int .i64 W.en, .int .i64 W.fr, .int .i64 W.to], .agg #[.int .i64 z.off, .bool z.sum], .int .i64 t] w fun e w' => e = .returned (.bool b) ∧ Below w.heap.size w w'
theorem holdsC {W : WinR} {z : ZoneR} {t : Int} {b : Bool} (h : holdsB W z t = b) : HoldsC W z t b := fun w hv => by
  subst h; exact holdsT_any W z t w hv

end Go.Proofs.YtpknjblgbpndlaaDoor
