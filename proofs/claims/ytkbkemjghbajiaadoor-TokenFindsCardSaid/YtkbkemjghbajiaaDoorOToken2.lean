/-
  The calls that the laws of package token play, opened.
-/
import Derived.Test.YtkbkemjghbajiaaDoorOToken
import Derived.Test.YtkbkemjghbajiaaDoorWToken12
namespace Go.Proofs.YtkbkemjghbajiaaDoor
open Go.RowKit
set_option linter.unusedVariables false

theorem opt_row {w : World} {row : List Value} (h : CellK.fitsAll w [.bool, .str, .str, .str, .int .i64, .int .i64, .int .i64] row) : ∃ o : OpT, row = o.cells ∧ o.tok.fits := by
  simp only [CellK.fitsAll, CellK.fits] at h
  obtain ⟨_, _, rfl, ⟨k, rfl⟩, _, _, rfl, ⟨a, rfl, ha⟩, _, _, rfl, ⟨b, rfl, hb⟩, _, _, rfl, ⟨c, rfl, hc⟩, _, _, rfl, ⟨d, rfl, _⟩, _, _, rfl, ⟨e, rfl, _⟩, _, _, rfl, ⟨f, rfl, _⟩, rfl⟩ := h
  exact ⟨⟨k, ⟨a, b, c, d, e, f⟩⟩, rfl, ha, hb, hc⟩

section
variable {H : Type} {enc : TypeId × Value → H} {w : World} {held : Bool} {r : Reach} {b0 : Nat} {v : Value} {d : DataW H} {p : List MemPlace}
set_option maxRecDepth 100000 in
theorem open_opts (hval : Value.okWide Tryd.prog w r b0 22 v) (hd : DataW.Trod enc Tryd.prog w 0 (fun _ => true) held 22 v d p) :
    ∃ l : List OpT, IsSl w 7 v (l.map OpT.cells) ∧ ∀ o ∈ l, o.tok.fits := by
  obtain ⟨rows, h1, h2⟩ := open_sl [.bool, .str, .str, .str, .int .i64, .int .i64, .int .i64] (by kernel_rfl) Tryd.underlying22 hval hd
  obtain ⟨l, rfl, hl⟩ := rows_list (fun _ => opt_row) rows h2
  exact ⟨l, h1, hl⟩
end

end Go.Proofs.YtkbkemjghbajiaaDoor
