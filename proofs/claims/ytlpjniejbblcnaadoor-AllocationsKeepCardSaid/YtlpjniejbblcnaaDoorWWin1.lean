/-
  Walks: the leaves of package window.
-/
import Derived.Test.YtlpjniejbblcnaaDoorWCal3
import Derived.Test.YtlpjniejbblcnaaDoorPWin2
namespace Go.Proofs.YtlpjniejbblcnaaDoor
open Go.RowKit Go.Lib
set_option linter.unusedVariables false

def WinR.vals (W : WinR) : Array Value := #[.int .i64 W.dy, .int .i64 W.st, .int .i64 W.en, .int .i64 W.fr, .int .i64 W.to]
theorem bits_and1 (x : Int) (h0 : 0 ≤ x) (h1 : x ≤ 127) : bits .and .i64 x 1 = x % 2 := by
  obtain ⟨k, rfl⟩ : ∃ k : Fin 128, x = ((k : Nat) : Int) := ⟨⟨x.toNat, by omega⟩, by simp; omega⟩
  revert k
  decide

set_option maxRecDepth 100000 in
set_option maxHeartbeats 800000 in
theorem winValid_any (W : WinR) (w : World) :
    Calls Tryd.prog 54 #[.agg #[.int .i64 W.dy, .int .i64 W.st, .int .i64 W.en, .int .i64 W.fr, .int .i64 W.to]] w fun e w' => e = .returned (.int .i64 (winE W)) ∧ Below w.heap.size w w' := by
  go_enter Tryd.func54, Tryd.ntmps54
  go_wp2
  all_goals go_ret
  all_goals first
    | exact ⟨ret_int (winE_no (by rintro ⟨_, _, _, _, _, _, _, _, _⟩; (try simp at *); omega)).symm, below_alloc (Below.refl _ _) _⟩
    | exact ⟨ret_int (winE_ok (by constructor <;> ((try simp at *); omega))).symm, below_alloc (Below.refl _ _) _⟩

end Go.Proofs.YtlpjniejbblcnaaDoor
