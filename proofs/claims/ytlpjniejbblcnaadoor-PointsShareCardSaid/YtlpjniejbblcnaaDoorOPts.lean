/-
  A list of numbers, opened.
-/
import Derived.Test.YtlpjniejbblcnaaDoorM14
namespace Go.Proofs.YtlpjniejbblcnaaDoor
open Go.RowKit
set_option linter.unusedVariables false

section
variable {H : Type} {enc : TypeId × Value → H} {w : World} {held : Bool} {r : Reach} {b0 : Nat} {v : Value} {d : DataW H} {p : List MemPlace}

set_option maxRecDepth 100000 in
theorem open_ints (hval : Value.okWide Tryd.prog w r b0 22 v) (hd : DataW.Trod enc Tryd.prog w 0 (fun _ => true) held 22 v d p) :
    ∃ l : List Int, IsSl w 1 v (l.map encZ) ∧ True := by
  obtain ⟨rows, h1, h2⟩ := open_sl [.int .i64] (by kernel_rfl) Tryd.underlying22 hval hd
  obtain ⟨l, rfl, hl⟩ := rows_list (fun _ => int_row) rows h2
  exact ⟨l, h1, trivial⟩
end

end Go.Proofs.YtlpjniejbblcnaaDoor
