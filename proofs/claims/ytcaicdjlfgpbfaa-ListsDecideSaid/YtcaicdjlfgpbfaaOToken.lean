/-
  The arguments of the laws of package token, opened.
-/
import Derived.Test.YtcaicdjlfgpbfaaOpen
import Derived.Test.YtcaicdjlfgpbfaaWToken1
namespace Go.Proofs.Ytcaicdjlfgpbfaa
open Go.RowKit
set_option linter.unusedVariables false

theorem tok_row' {w : World} {row : List Value} (h : CellK.fitsAll w [.str, .str, .str, .int .i64, .int .i64, .int .i64] row) : ∃ t : Tok, row = t.cells ∧ t.fits := by
  simp only [CellK.fitsAll, CellK.fits] at h
  obtain ⟨_, _, rfl, ⟨a, rfl, ha⟩, _, _, rfl, ⟨b, rfl, hb⟩, _, _, rfl, ⟨c, rfl, hc⟩, _, _, rfl, ⟨d, rfl, _⟩, _, _, rfl, ⟨e, rfl, _⟩, _, _, rfl, ⟨f, rfl, _⟩, rfl⟩ := h
  exact ⟨⟨a, b, c, d, e, f⟩, rfl, ha, hb, hc⟩

section
variable {H : Type} {enc : TypeId × Value → H} {w : World} {held : Bool} {r : Reach} {b0 : Nat} {v : Value} {d : DataW H} {p : List MemPlace}

set_option maxRecDepth 100000 in
theorem open_token (hval : Value.okWide Try.prog w r b0 24 v) (hd : DataW.Trod enc Try.prog w 0 (fun _ => true) held 24 v d p) :
    ∃ x : Tok, v = .agg #[.string x.id, .string x.group, .string x.contract, .int .i64 x.kind, .int .i64 x.status, .int .i64 x.expiry] ∧ x.fits := by
  obtain ⟨cs, rfl, h⟩ := open_struct [.str, .str, .str, .int .i64, .int .i64, .int .i64] (by kernel_rfl) Try.underlying24 hval hd
  obtain ⟨x, hx, h1⟩ := tok_row' h
  exact ⟨x, agg_of hx, h1⟩

set_option maxRecDepth 100000 in
theorem open_tokens (hval : Value.okWide Try.prog w r b0 22 v) (hd : DataW.Trod enc Try.prog w 0 (fun _ => true) held 22 v d p) :
    ∃ l : List Tok, IsSl w 6 v (l.map Tok.cells) ∧ ∀ x ∈ l, x.fits := by
  obtain ⟨rows, h1, h2⟩ := open_sl [.str, .str, .str, .int .i64, .int .i64, .int .i64] (by kernel_rfl) Try.underlying22 hval hd
  obtain ⟨l, rfl, hl⟩ := rows_list (fun _ => tok_row') rows h2
  exact ⟨l, h1, hl⟩
end

end Go.Proofs.Ytcaicdjlfgpbfaa
