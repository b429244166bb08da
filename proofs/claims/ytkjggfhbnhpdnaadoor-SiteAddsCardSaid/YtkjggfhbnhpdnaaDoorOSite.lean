/-
  The arguments of the laws of package site, opened.
-/
import Derived.Test.YtkjggfhbnhpdnaaDoorOpen
import Derived.Test.YtkjggfhbnhpdnaaDoorWSite16
namespace Go.Proofs.YtkjggfhbnhpdnaaDoor
open Go.RowKit
set_option linter.unusedVariables false

structure SiteV where
  S : SiteR
  fv : Value
  pv : Value
structure SiteIn (w : World) (a : SiteV) : Prop where
  hF : IsSl w 5 a.fv (a.S.F.map Feed.cells)
  hP : IsSl w 5 a.pv (a.S.P.map Pnt.cells)
  hn : a.S.name.size ≤ maxLen
  fF : ∀ f ∈ a.S.F, f.fits
  fP : ∀ p ∈ a.S.P, p.fits
structure CaseV where
  s : SiteV
  C : List CapR
  W : List WantR
  Z : List Int
  cv : Value
  wv : Value
  zv : Value
structure CaseIn (w : World) (a : CaseV) : Prop where
  hs : SiteIn w a.s
  hC : IsSl w 4 a.cv (a.C.map CapR.cells)
  hW : IsSl w 3 a.wv (a.W.map WantR.cells)
  hZ : IsSl w 1 a.zv (a.Z.map encZ)
  fW : ∀ x ∈ a.W, I64 x.phases

theorem feed_row {w : World} {row : List Value} (h : CellK.fitsAll w [.str, .int .i64, .int .i64, .int .i64, .int .i64] row) : ∃ t : Feed, row = t.cells ∧ t.fits := by
  simp only [CellK.fitsAll, CellK.fits] at h
  obtain ⟨_, _, rfl, ⟨a, rfl, ha⟩, _, _, rfl, ⟨b, rfl, _⟩, _, _, rfl, ⟨c, rfl, _⟩, _, _, rfl, ⟨d, rfl, _⟩, _, _, rfl, ⟨e, rfl, _⟩, rfl⟩ := h
  exact ⟨⟨a, b, c, d, e⟩, rfl, ha⟩
theorem pnt_row {w : World} {row : List Value} (h : CellK.fitsAll w [.str, .int .i64, .int .i64, .int .i64, .int .i64] row) : ∃ t : Pnt, row = t.cells ∧ t.fits := by
  simp only [CellK.fitsAll, CellK.fits] at h
  obtain ⟨_, _, rfl, ⟨a, rfl, ha⟩, _, _, rfl, ⟨b, rfl, _⟩, _, _, rfl, ⟨c, rfl, _⟩, _, _, rfl, ⟨d, rfl, _⟩, _, _, rfl, ⟨e, rfl, _⟩, rfl⟩ := h
  exact ⟨⟨a, b, c, d, e⟩, rfl, ha⟩
theorem cap_row {w : World} {row : List Value} (h : CellK.fitsAll w [.int .i64, .int .i64, .int .i64, .int .i64] row) : ∃ t : CapR, row = t.cells ∧ True := by
  simp only [CellK.fitsAll, CellK.fits] at h
  obtain ⟨_, _, rfl, ⟨b, rfl, _⟩, _, _, rfl, ⟨c, rfl, _⟩, _, _, rfl, ⟨d, rfl, _⟩, _, _, rfl, ⟨e, rfl, _⟩, rfl⟩ := h
  exact ⟨⟨b, c, d, e⟩, rfl, trivial⟩
theorem want_row {w : World} {row : List Value} (h : CellK.fitsAll w [.int .i64, .int .i64, .int .i64] row) : ∃ t : WantR, row = t.cells ∧ I64 t.phases := by
  simp only [CellK.fitsAll, CellK.fits] at h
  obtain ⟨_, _, rfl, ⟨b, rfl, _⟩, _, _, rfl, ⟨c, rfl, hc⟩, _, _, rfl, ⟨d, rfl, _⟩, rfl⟩ := h
  exact ⟨⟨b, c, d⟩, rfl, hc⟩
theorem int_row {w : World} {row : List Value} (h : CellK.fitsAll w [.int .i64] row) : ∃ t : Int, row = encZ t ∧ I64 t := by
  simp only [CellK.fitsAll, CellK.fits] at h
  obtain ⟨_, _, rfl, ⟨b, rfl, hb⟩, rfl⟩ := h
  exact ⟨b, rfl, hb⟩

section
variable {H : Type} {enc : TypeId × Value → H} {w : World} {held : Bool} {r : Reach} {b0 : Nat} {v : Value} {d : DataW H} {p : List MemPlace}

set_option maxRecDepth 100000 in
theorem open_site (hval : Value.okWide Tryd.prog w r b0 25 v) (hd : DataW.Trod enc Tryd.prog w 0 (fun _ => true) held 25 v d p) :
    ∃ a : SiteV, v = .agg #[.string a.S.name, a.fv, a.pv] ∧ SiteIn w a := by
  obtain ⟨cs, rfl, h⟩ := open_struct [.str, .sl [.str, .int .i64, .int .i64, .int .i64, .int .i64], .sl [.str, .int .i64, .int .i64, .int .i64, .int .i64]] (by kernel_rfl) Tryd.underlying25 hval hd
  simp only [CellK.fitsAll] at h
  obtain ⟨_, _, hcs, h0, _, _, rfl, h1, _, _, rfl, h2, rfl⟩ := h
  unfold CellK.fits at h0 h1 h2
  obtain ⟨s, rfl, hs⟩ := h0
  obtain ⟨r1, hr1, hf1⟩ := h1
  obtain ⟨r2, hr2, hf2⟩ := h2
  obtain ⟨l1, rfl, hl1⟩ := rows_list (fun _ => feed_row) r1 hf1
  obtain ⟨l2, rfl, hl2⟩ := rows_list (fun _ => pnt_row) r2 hf2
  exact ⟨⟨⟨s, l1, l2⟩, _, _⟩, agg_of hcs, hr1, hr2, hs, hl1, hl2⟩

set_option maxRecDepth 100000 in
theorem open_capsl (hval : Value.okWide Tryd.prog w r b0 27 v) (hd : DataW.Trod enc Tryd.prog w 0 (fun _ => true) held 27 v d p) :
    ∃ l : List CapR, IsSl w 4 v (l.map CapR.cells) ∧ True := by
  obtain ⟨rows, h1, h2⟩ := open_sl [.int .i64, .int .i64, .int .i64, .int .i64] (by kernel_rfl) Tryd.underlying27 hval hd
  obtain ⟨l, rfl, hl⟩ := rows_list (fun _ => cap_row) rows h2
  exact ⟨l, h1, trivial⟩

set_option maxRecDepth 100000 in
theorem open_case (hval : Value.okWide Tryd.prog w r b0 31 v) (hd : DataW.Trod enc Tryd.prog w 0 (fun _ => true) held 31 v d p) :
    ∃ a : CaseV, v = .agg #[.string a.s.S.name, a.s.fv, a.s.pv, a.cv, a.wv, a.zv] ∧ CaseIn w a := by
  obtain ⟨cs, rfl, h⟩ := open_struct [.str, .sl [.str, .int .i64, .int .i64, .int .i64, .int .i64], .sl [.str, .int .i64, .int .i64, .int .i64, .int .i64], .sl [.int .i64, .int .i64, .int .i64, .int .i64], .sl [.int .i64, .int .i64, .int .i64], .sl [.int .i64]] (by kernel_rfl) Tryd.underlying31 hval hd
  simp only [CellK.fitsAll] at h
  obtain ⟨_, _, hcs, h0, _, _, rfl, h1, _, _, rfl, h2, _, _, rfl, h3, _, _, rfl, h4, _, _, rfl, h5, rfl⟩ := h
  unfold CellK.fits at h0 h1 h2 h3 h4 h5
  obtain ⟨s, rfl, hs⟩ := h0
  obtain ⟨r1, hr1, hf1⟩ := h1
  obtain ⟨r2, hr2, hf2⟩ := h2
  obtain ⟨r3, hr3, hf3⟩ := h3
  obtain ⟨r4, hr4, hf4⟩ := h4
  obtain ⟨r5, hr5, hf5⟩ := h5
  obtain ⟨l1, rfl, hl1⟩ := rows_list (fun _ => feed_row) r1 hf1
  obtain ⟨l2, rfl, hl2⟩ := rows_list (fun _ => pnt_row) r2 hf2
  obtain ⟨l3, rfl, hl3⟩ := rows_list (fun _ => cap_row) r3 hf3
  obtain ⟨l4, rfl, hl4⟩ := rows_list (fun _ => want_row) r4 hf4
  obtain ⟨l5, rfl, hl5⟩ := rows_list (fun _ => int_row) r5 hf5
  exact ⟨⟨⟨⟨s, l1, l2⟩, _, _⟩, l3, l4, l5, _, _, _⟩, agg_of hcs, ⟨hr1, hr2, hs, hl1, hl2⟩, hr3, hr4, hr5, hl4⟩
end

end Go.Proofs.YtkjggfhbnhpdnaaDoor
