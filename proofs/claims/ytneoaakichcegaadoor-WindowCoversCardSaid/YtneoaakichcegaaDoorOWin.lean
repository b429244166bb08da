/-
  The arguments of the laws on windows, opened; the table of the months' lengths, read off the row's list.
-/
import Derived.Test.YtneoaakichcegaaDoorOpen
import Derived.Test.YtneoaakichcegaaDoorRows
import Derived.Test.YtneoaakichcegaaDoorWCal1
import Derived.MakeChecks
import Derived.Lib.LaidTab
namespace Go.Proofs.YtneoaakichcegaaDoor
open Go.RowKit Go.Lib
set_option linter.unusedVariables false

theorem lenV_of {l : List (String × DataW Unit)} {w : World} (h : laidMetH Tryd.prog l w) (h0 : (l.all fun x => x.2.handleName?.isNone) = true) (he : l = Rows.windowValidRow.laid) : LenV w := by
  rw [MakeChecks.laidMetH_plain _ _ _ h0] at h
  subst he
  have ht := tabIs_of_head (P := Tryd.prog) (W := w) (g := 0) (t := 75) (e := 3) (n := 12) (k := .i64) (zs := [31, 28, 31, 30, 31, 30, 31, 31, 30, 31, 30, 31]) (rest := []) (by kernel_rfl) (by kernel_rfl) Tryd.underlying75 Tryd.underlying3 (by kernel_rfl) (by kernel_rfl) h
  have hc : ∀ k, k < 12 → w.cell? ⟨0, k, none⟩ = some (.int .i64 (lenT k)) := fun k hk => by
    rw [ht.cell (g := 0) (by kernel_rfl) k (by simpa using hk)]
    have : ∀ i : Fin 12, ([31, 28, 31, 30, 31, 30, 31, 31, 30, 31, 30, 31] : List Int).getD i 0 = lenT i := by decide
    rw [this ⟨k, hk⟩]
  obtain ⟨c, e, fr, hb, _⟩ := Go.Sort.cells_of_cell? (hc 0 (by omega))
  exact ⟨(Array.getElem?_eq_some_iff.1 hb).1, hc⟩

section
variable {H : Type} {enc : TypeId × Value → H} {w : World} {r : Reach} {b0 : Nat} {v : Value} {d : DataW H} {p : List MemPlace} {held : Bool}

set_option maxRecDepth 100000 in
theorem open_win (hval : Value.okWide Tryd.prog w r b0 24 v) (hd : DataW.Trod enc Tryd.prog w 0 (fun _ => true) held 24 v d p) :
    ∃ a : WinR, v = .agg #[.int .i64 a.dy, .int .i64 a.st, .int .i64 a.en, .int .i64 a.fr, .int .i64 a.to] ∧ True := by
  obtain ⟨cs, rfl, h⟩ := open_struct [.int .i64, .int .i64, .int .i64, .int .i64, .int .i64] (by kernel_rfl) Tryd.underlying24 hval hd
  simp only [CellK.fitsAll, CellK.fits] at h
  obtain ⟨_, _, hcs, ⟨a, rfl, _⟩, _, _, rfl, ⟨b, rfl, _⟩, _, _, rfl, ⟨c, rfl, _⟩, _, _, rfl, ⟨d, rfl, _⟩, _, _, rfl, ⟨e, rfl, _⟩, rfl⟩ := h
  exact ⟨⟨a, b, c, d, e⟩, agg_of hcs, trivial⟩
set_option maxRecDepth 100000 in
theorem open_zone (hval : Value.okWide Tryd.prog w r b0 26 v) (hd : DataW.Trod enc Tryd.prog w 0 (fun _ => true) held 26 v d p) :
    ∃ a : ZoneR, v = .agg #[.int .i64 a.off, .bool a.sum] ∧ True := by
  obtain ⟨cs, rfl, h⟩ := open_struct [.int .i64, .bool] (by kernel_rfl) Tryd.underlying26 hval hd
  simp only [CellK.fitsAll, CellK.fits] at h
  obtain ⟨_, _, hcs, ⟨a, rfl, _⟩, _, _, rfl, ⟨b, rfl⟩, rfl⟩ := h
  exact ⟨⟨a, b⟩, agg_of hcs, trivial⟩
set_option maxRecDepth 100000 in
theorem open_span (hval : Value.okWide Tryd.prog w r b0 28 v) (hd : DataW.Trod enc Tryd.prog w 0 (fun _ => true) held 28 v d p) :
    ∃ a : Int × Int, v = .agg #[.int .i64 a.1, .int .i64 a.2] ∧ True := by
  obtain ⟨cs, rfl, h⟩ := open_struct [.int .i64, .int .i64] (by kernel_rfl) Tryd.underlying28 hval hd
  simp only [CellK.fitsAll, CellK.fits] at h
  obtain ⟨_, _, hcs, ⟨a, rfl, _⟩, _, _, rfl, ⟨b, rfl, _⟩, rfl⟩ := h
  exact ⟨⟨a, b⟩, agg_of hcs, trivial⟩
end

end Go.Proofs.YtneoaakichcegaaDoor
