/-
  The arguments of the laws on limits, opened; the table of the months' lengths, read off the row's list.
-/
import Derived.Test.YtlpjniejbblcnaaDoorM7
import Derived.Test.YtlpjniejbblcnaaDoorRows
import Derived.Test.YtlpjniejbblcnaaDoorWCal1
import Derived.Test.YtlpjniejbblcnaaDoorM14
import Derived.Test.YtlpjniejbblcnaaDoorLimIn
import Derived.MakeChecks
import Derived.Lib.LaidTab
namespace Go.Proofs.YtlpjniejbblcnaaDoor
open Go.RowKit Go.Lib
set_option linter.unusedVariables false

structure RulV where
  r : RulR
  fv : Value
  pv : Value
  cv : Value
  uv : Value
theorem lim_feed {w : World} {row : List Value} (h : CellK.fitsAll w [.str, .int .i64, .int .i64, .int .i64, .int .i64] row) : ∃ t : Feed, row = t.cells ∧ t.fits := by
  simp only [CellK.fitsAll, CellK.fits] at h
  obtain ⟨_, _, rfl, ⟨a, rfl, ha⟩, _, _, rfl, ⟨b, rfl, _⟩, _, _, rfl, ⟨c, rfl, _⟩, _, _, rfl, ⟨d, rfl, _⟩, _, _, rfl, ⟨e, rfl, _⟩, rfl⟩ := h
  exact ⟨⟨a, b, c, d, e⟩, rfl, ha⟩
theorem lim_pnt {w : World} {row : List Value} (h : CellK.fitsAll w [.str, .int .i64, .int .i64, .int .i64, .int .i64] row) : ∃ t : Pnt, row = t.cells ∧ t.fits := by
  simp only [CellK.fitsAll, CellK.fits] at h
  obtain ⟨_, _, rfl, ⟨a, rfl, ha⟩, _, _, rfl, ⟨b, rfl, _⟩, _, _, rfl, ⟨c, rfl, _⟩, _, _, rfl, ⟨d, rfl, _⟩, _, _, rfl, ⟨e, rfl, _⟩, rfl⟩ := h
  exact ⟨⟨a, b, c, d, e⟩, rfl, ha⟩
theorem lim_con {w : World} {row : List Value} (h : CellK.fitsAll w [.str, .int .i64, .int .i64, .int .i64, .int .i64, .int .i64, .int .i64, .int .i64] row) : ∃ t : ConR, row = t.cells ∧ t.fits := by
  simp only [CellK.fitsAll, CellK.fits] at h
  obtain ⟨_, _, rfl, ⟨a, rfl, ha⟩, _, _, rfl, ⟨b, rfl, hb⟩, _, _, rfl, ⟨c, rfl, _⟩, _, _, rfl, ⟨d, rfl, _⟩, _, _, rfl, ⟨e, rfl, _⟩, _, _, rfl, ⟨f, rfl, _⟩, _, _, rfl, ⟨g, rfl, _⟩, _, _, rfl, ⟨i, rfl, hi⟩, rfl⟩ := h
  exact ⟨⟨a, b, ⟨c, d, e, f, g⟩, i⟩, rfl, ha, hb, hi⟩
theorem lim_cur {w : World} {row : List Value} (h : CellK.fitsAll w [.str, .int .i64, .int .i64, .int .i64, .int .i64, .int .i64, .bool] row) : ∃ t : CurR, row = t.cells ∧ t.fits := by
  simp only [CellK.fitsAll, CellK.fits] at h
  obtain ⟨_, _, rfl, ⟨a, rfl, ha⟩, _, _, rfl, ⟨b, rfl, _⟩, _, _, rfl, ⟨c, rfl, hc⟩, _, _, rfl, ⟨d, rfl, _⟩, _, _, rfl, ⟨e, rfl, _⟩, _, _, rfl, ⟨f, rfl, hf⟩, _, _, rfl, ⟨g, rfl⟩, rfl⟩ := h
  exact ⟨⟨a, b, c, d, e, f, g⟩, rfl, ha, hc, hf⟩

theorem lenV_lim {l : List (String × DataW Unit)} {w : World} (h : laidMetH Tryd.prog l w) (h0 : (l.all fun x => x.2.handleName?.isNone) = true) (he : l = Rows.allocationsKeepRow.laid) : LenV w := by
  rw [MakeChecks.laidMetH_plain _ _ _ h0] at h
  subst he
  have ht := tabIs_of_head (P := Tryd.prog) (W := w) (g := 4) (t := 170) (e := 3) (n := 12) (k := .i64) (zs := [31, 28, 31, 30, 31, 30, 31, 31, 30, 31, 30, 31]) (rest := Rows.allocationsKeepRow.laid.tail) (by kernel_rfl) (by kernel_rfl) Tryd.underlying170 Tryd.underlying3 (by kernel_rfl) (by kernel_rfl) h
  have hc : ∀ k, k < 12 → w.cell? ⟨4, k, none⟩ = some (.int .i64 (lenT k)) := fun k hk => by
    rw [ht.cell (g := 4) (by kernel_rfl) k (by simpa using hk)]
    have : ∀ i : Fin 12, ([31, 28, 31, 30, 31, 30, 31, 31, 30, 31, 30, 31] : List Int).getD i 0 = lenT i := by decide
    rw [this ⟨k, hk⟩]
  obtain ⟨c, e, fr, hb, _⟩ := Go.Sort.cells_of_cell? (hc 0 (by omega))
  exact ⟨(Array.getElem?_eq_some_iff.1 hb).1, hc⟩

section
variable {H : Type} {enc : TypeId × Value → H} {w : World} {r : Reach} {b0 : Nat} {v : Value} {d : DataW H} {p : List MemPlace} {held : Bool}

set_option maxRecDepth 100000 in
theorem open_rules (hval : Value.okWide Tryd.prog w r b0 56 v) (hd : DataW.Trod enc Tryd.prog w 0 (fun _ => true) held 56 v d p) :
    ∃ a : RulV, v = .agg #[.string a.r.S.name, a.fv, a.pv, .int .i64 a.r.z.off, .bool a.r.z.sum, a.cv, a.uv] ∧ LimIn w a.r a.fv a.pv a.cv a.uv := by
  obtain ⟨cs, rfl, h⟩ := open_struct [.str, .sl [.str, .int .i64, .int .i64, .int .i64, .int .i64], .sl [.str, .int .i64, .int .i64, .int .i64, .int .i64], .int .i64, .bool, .sl [.str, .int .i64, .int .i64, .int .i64, .int .i64, .int .i64, .int .i64, .int .i64], .sl [.str, .int .i64, .int .i64, .int .i64, .int .i64, .int .i64, .bool]] (by kernel_rfl) Tryd.underlying56 hval hd
  simp only [CellK.fitsAll] at h
  obtain ⟨_, _, hcs, h0, _, _, rfl, h1, _, _, rfl, h2, _, _, rfl, h3, _, _, rfl, h4, _, _, rfl, h5, _, _, rfl, h6, rfl⟩ := h
  unfold CellK.fits at h0 h1 h2 h3 h4 h5 h6
  obtain ⟨s, rfl, hs⟩ := h0
  obtain ⟨r1, hr1, hf1⟩ := h1
  obtain ⟨r2, hr2, hf2⟩ := h2
  obtain ⟨zo, rfl, _⟩ := h3
  obtain ⟨zs, rfl⟩ := h4
  obtain ⟨r5, hr5, hf5⟩ := h5
  obtain ⟨r6, hr6, hf6⟩ := h6
  obtain ⟨l1, rfl, hl1⟩ := rows_list (fun _ => lim_feed) r1 hf1
  obtain ⟨l2, rfl, hl2⟩ := rows_list (fun _ => lim_pnt) r2 hf2
  obtain ⟨l5, rfl, hl5⟩ := rows_list (fun _ => lim_con) r5 hf5
  obtain ⟨l6, rfl, hl6⟩ := rows_list (fun _ => lim_cur) r6 hf6
  exact ⟨⟨⟨⟨s, l1, l2⟩, ⟨zo, zs⟩, l5, l6⟩, _, _, _, _⟩, agg_of hcs, ⟨hr1, hr2, hr5, hr6, hs, hl1, hl2, hl5, hl6⟩⟩
set_option maxRecDepth 100000 in
theorem open_span2 (hval : Value.okWide Tryd.prog w r b0 88 v) (hd : DataW.Trod enc Tryd.prog w 0 (fun _ => true) held 88 v d p) :
    ∃ a : Int × Int, v = .agg #[.int .i64 a.1, .int .i64 a.2] ∧ I64 a.1 ∧ I64 a.2 := by
  obtain ⟨cs, rfl, h⟩ := open_struct [.int .i64, .int .i64] (by kernel_rfl) Tryd.underlying88 hval hd
  simp only [CellK.fitsAll, CellK.fits] at h
  obtain ⟨_, _, hcs, ⟨a, rfl, ha⟩, _, _, rfl, ⟨b, rfl, hb⟩, rfl⟩ := h
  exact ⟨⟨a, b⟩, agg_of hcs, ha, hb⟩
end

end Go.Proofs.YtlpjniejbblcnaaDoor
