/-
  The arguments of the laws of package reserve, opened.
-/
import Derived.Test.YtpokacnbdojncaaDoorOpen
import Derived.Test.YtpokacnbdojncaaDoorWReserve14
namespace Go.Proofs.YtpokacnbdojncaaDoor
open Go.RowKit
set_option linter.unusedVariables false

theorem resv_row {w : World} {row : List Value} (h : CellK.fitsAll w [.int .i64, .int .i64, .str, .str, .int .i64] row) : ∃ r : Resv, row = r.cells ∧ r.token.size ≤ maxLen ∧ r.group.size ≤ maxLen := by
  simp only [CellK.fitsAll, CellK.fits] at h
  obtain ⟨_, _, rfl, ⟨a, rfl, _⟩, _, _, rfl, ⟨b, rfl, _⟩, _, _, rfl, ⟨c, rfl, hc⟩, _, _, rfl, ⟨d, rfl, hd⟩, _, _, rfl, ⟨e, rfl, _⟩, rfl⟩ := h
  exact ⟨⟨a, b, c, d, e⟩, rfl, hc, hd⟩
theorem op_row {w : World} {row : List Value} (h : CellK.fitsAll w [.int .i64, .int .i64, .int .i64, .str, .str, .int .i64, .int .i64] row) : ∃ o : OpR, row = o.cells ∧ o.fits := by
  simp only [CellK.fitsAll, CellK.fits] at h
  obtain ⟨_, _, rfl, ⟨k, rfl, _⟩, _, _, rfl, ⟨a, rfl, _⟩, _, _, rfl, ⟨b, rfl, _⟩, _, _, rfl, ⟨c, rfl, hc⟩, _, _, rfl, ⟨d, rfl, hd⟩, _, _, rfl, ⟨e, rfl, _⟩, _, _, rfl, ⟨n, rfl, _⟩, rfl⟩ := h
  exact ⟨⟨k, ⟨a, b, c, d, e⟩, n⟩, rfl, hc, hd⟩
theorem tok_row {w : World} {row : List Value} (h : CellK.fitsAll w [.str, .str, .str, .int .i64, .int .i64, .int .i64] row) : ∃ t : Tok, row = t.cells ∧ t.id.size ≤ maxLen ∧ t.group.size ≤ maxLen ∧ t.contract.size ≤ maxLen := by
  simp only [CellK.fitsAll, CellK.fits] at h
  obtain ⟨_, _, rfl, ⟨a, rfl, ha⟩, _, _, rfl, ⟨b, rfl, hb⟩, _, _, rfl, ⟨c, rfl, hc⟩, _, _, rfl, ⟨d, rfl, _⟩, _, _, rfl, ⟨e, rfl, _⟩, _, _, rfl, ⟨f, rfl, _⟩, rfl⟩ := h
  exact ⟨⟨a, b, c, d, e, f⟩, rfl, ha, hb, hc⟩

section
variable {H : Type} {enc : TypeId × Value → H} {w : World} {held : Bool} {r : Reach} {b0 : Nat} {v : Value} {d : DataW H} {p : List MemPlace}

theorem open_resv (hval : Value.okWide Tryd.prog w r b0 24 v) (hd : DataW.Trod enc Tryd.prog w 0 (fun _ => true) held 24 v d p) :
    ∃ x : Resv, v = .agg #[.int .i64 x.id, .int .i64 x.conn, .string x.token, .string x.group, .int .i64 x.expiry] ∧ x.token.size ≤ maxLen ∧ x.group.size ≤ maxLen := by
  obtain ⟨cs, rfl, h⟩ := open_struct [.int .i64, .int .i64, .str, .str, .int .i64] (by kernel_rfl) Tryd.underlying24 hval hd
  obtain ⟨x, hx, h1⟩ := resv_row h
  exact ⟨x, agg_of hx, h1⟩

set_option maxRecDepth 100000 in
theorem open_tok (hval : Value.okWide Tryd.prog w r b0 26 v) (hd : DataW.Trod enc Tryd.prog w 0 (fun _ => true) held 26 v d p) :
    ∃ x : Tok, v = .agg #[.string x.id, .string x.group, .string x.contract, .int .i64 x.kind, .int .i64 x.status, .int .i64 x.expiry] ∧ x.id.size ≤ maxLen ∧ x.group.size ≤ maxLen ∧ x.contract.size ≤ maxLen := by
  obtain ⟨cs, rfl, h⟩ := open_struct [.str, .str, .str, .int .i64, .int .i64, .int .i64] (by kernel_rfl) Tryd.underlying26 hval hd
  obtain ⟨x, hx, h1⟩ := tok_row h
  exact ⟨x, agg_of hx, h1⟩

set_option maxRecDepth 100000 in
theorem open_ops (hval : Value.okWide Tryd.prog w r b0 22 v) (hd : DataW.Trod enc Tryd.prog w 0 (fun _ => true) held 22 v d p) :
    ∃ l : List OpR, IsSl w 7 v (l.map OpR.cells) ∧ ∀ o ∈ l, o.fits := by
  obtain ⟨rows, h1, h2⟩ := open_sl [.int .i64, .int .i64, .int .i64, .str, .str, .int .i64, .int .i64] (by kernel_rfl) Tryd.underlying22 hval hd
  obtain ⟨l, rfl, hl⟩ := rows_list (fun _ => op_row) rows h2
  exact ⟨l, h1, hl⟩
end

end Go.Proofs.YtpokacnbdojncaaDoor
