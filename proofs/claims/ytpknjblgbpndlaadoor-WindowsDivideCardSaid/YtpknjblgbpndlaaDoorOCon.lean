/-
  The arguments of the laws on contracts and of WindowsDivide, opened; the table of the months' lengths, read off the row's list.
-/
import Derived.Test.YtpknjblgbpndlaaDoorOpen
import Derived.Test.YtpknjblgbpndlaaDoorRows
import Derived.Test.YtpknjblgbpndlaaDoorWCal1
import Derived.Test.YtpknjblgbpndlaaDoorPConM
import Derived.Test.YtpknjblgbpndlaaDoorWWin10
import Derived.MakeChecks
import Derived.Lib.LaidTab
namespace Go.Proofs.YtpknjblgbpndlaaDoor
open Go.RowKit Go.Lib
set_option linter.unusedVariables false

structure CourseV where
  v : Value
  l : List ConR
  z : ZoneR
  f : Int
  a : Int
  b : Int
structure ValuedV where
  v : Value
  L : List (Int × Int)
  W : WinR
  z : ZoneR
  a : Int
  b : Int

structure SiteN where
  s : ByteArray
  A : Option Addr
  B : Option Addr
  n : Nat
  c : Nat
  m : Nat
  d : Nat
theorem con_row {w : World} {row : List Value} (h : CellK.fitsAll w [.str, .int .i64, .int .i64, .int .i64, .int .i64, .int .i64, .int .i64, .int .i64] row) : ∃ t : ConR, row = t.cells ∧ t.fits := by
  simp only [CellK.fitsAll, CellK.fits] at h
  obtain ⟨_, _, rfl, ⟨a, rfl, ha⟩, _, _, rfl, ⟨b, rfl, hb⟩, _, _, rfl, ⟨c, rfl, _⟩, _, _, rfl, ⟨d, rfl, _⟩, _, _, rfl, ⟨e, rfl, _⟩, _, _, rfl, ⟨f, rfl, _⟩, _, _, rfl, ⟨g, rfl, _⟩, _, _, rfl, ⟨i, rfl, hi⟩, rfl⟩ := h
  exact ⟨⟨a, b, ⟨c, d, e, f, g⟩, i⟩, rfl, ha, hb, hi⟩
theorem step_row {w : World} {row : List Value} (h : CellK.fitsAll w [.int .i64, .int .i64] row) : ∃ t : Int × Int, row = [.int .i64 t.1, .int .i64 t.2] ∧ True := by
  simp only [CellK.fitsAll, CellK.fits] at h
  obtain ⟨_, _, rfl, ⟨a, rfl, ha⟩, _, _, rfl, ⟨b, rfl, hb⟩, rfl⟩ := h
  exact ⟨⟨a, b⟩, rfl, trivial⟩

theorem lenV_of {l : List (String × DataW Unit)} {w : World} (h : laidMetH Tryd.prog l w) (h0 : (l.all fun x => x.2.handleName?.isNone) = true) (he : l = Rows.windowsDivideRow.laid) : LenV w := by
  rw [MakeChecks.laidMetH_plain _ _ _ h0] at h
  subst he
  have ht := tabIs_of_head (P := Tryd.prog) (W := w) (g := 0) (t := 115) (e := 3) (n := 12) (k := .i64) (zs := [31, 28, 31, 30, 31, 30, 31, 31, 30, 31, 30, 31]) (rest := []) (by kernel_rfl) (by kernel_rfl) Tryd.underlying115 Tryd.underlying3 (by kernel_rfl) (by kernel_rfl) h
  have hc : ∀ k, k < 12 → w.cell? ⟨0, k, none⟩ = some (.int .i64 (lenT k)) := fun k hk => by
    rw [ht.cell (g := 0) (by kernel_rfl) k (by simpa using hk)]
    have : ∀ i : Fin 12, ([31, 28, 31, 30, 31, 30, 31, 31, 30, 31, 30, 31] : List Int).getD i 0 = lenT i := by decide
    rw [this ⟨k, hk⟩]
  obtain ⟨c, e, fr, hb, _⟩ := Go.Sort.cells_of_cell? (hc 0 (by omega))
  exact ⟨(Array.getElem?_eq_some_iff.1 hb).1, hc⟩

section
variable {H : Type} {enc : TypeId × Value → H} {w : World} {r : Reach} {b0 : Nat} {v : Value} {d : DataW H} {p : List MemPlace} {held : Bool}

set_option maxRecDepth 100000 in
theorem open_zone (hval : Value.okWide Tryd.prog w r b0 26 v) (hd : DataW.Trod enc Tryd.prog w 0 (fun _ => true) held 26 v d p) :
    ∃ a : ZoneR, v = .agg #[.int .i64 a.off, .bool a.sum] ∧ True := by
  obtain ⟨cs, rfl, h⟩ := open_struct [.int .i64, .bool] (by kernel_rfl) Tryd.underlying26 hval hd
  simp only [CellK.fitsAll, CellK.fits] at h
  obtain ⟨_, _, hcs, ⟨a, rfl, _⟩, _, _, rfl, ⟨b, rfl⟩, rfl⟩ := h
  exact ⟨⟨a, b⟩, agg_of hcs, trivial⟩
set_option maxRecDepth 100000 in
theorem open_cons (hval : Value.okWide Tryd.prog w r b0 50 v) (hd : DataW.Trod enc Tryd.prog w 0 (fun _ => true) held 50 v d p) :
    ∃ l : List ConR, IsSl w 8 v (l.map ConR.cells) ∧ ∀ c ∈ l, c.fits := by
  obtain ⟨rows, h1, h2⟩ := open_sl [.str, .int .i64, .int .i64, .int .i64, .int .i64, .int .i64, .int .i64, .int .i64] (by kernel_rfl) Tryd.underlying50 hval hd
  obtain ⟨l, rfl, hl⟩ := rows_list (fun _ => con_row) rows h2
  exact ⟨l, h1, hl⟩
set_option maxRecDepth 100000 in
theorem open_con (hval : Value.okWide Tryd.prog w r b0 43 v) (hd : DataW.Trod enc Tryd.prog w 0 (fun _ => true) held 43 v d p) :
    ∃ a : ConR, v = .agg #[.string a.nm, .int .i64 a.fd, .int .i64 a.w.dy, .int .i64 a.w.st, .int .i64 a.w.en, .int .i64 a.w.fr, .int .i64 a.w.to, .int .i64 a.tot] ∧ a.fits := by
  obtain ⟨cs, rfl, h⟩ := open_struct [.str, .int .i64, .int .i64, .int .i64, .int .i64, .int .i64, .int .i64, .int .i64] (by kernel_rfl) Tryd.underlying43 hval hd
  obtain ⟨t, ht, hf⟩ := con_row h
  exact ⟨t, agg_of ht, hf⟩
set_option maxRecDepth 100000 in
theorem open_course (hval : Value.okWide Tryd.prog w r b0 58 v) (hd : DataW.Trod enc Tryd.prog w 0 (fun _ => true) held 58 v d p) :
    ∃ a : CourseV, v = .agg #[a.v, .int .i64 a.z.off, .bool a.z.sum, .int .i64 a.f, .int .i64 a.a, .int .i64 a.b] ∧ IsSl w 8 a.v (a.l.map ConR.cells) ∧ (∀ c ∈ a.l, c.fits) ∧ I64 a.a ∧ I64 a.b := by
  obtain ⟨cs, rfl, h⟩ := open_struct [.sl [.str, .int .i64, .int .i64, .int .i64, .int .i64, .int .i64, .int .i64, .int .i64], .int .i64, .bool, .int .i64, .int .i64, .int .i64] (by kernel_rfl) Tryd.underlying58 hval hd
  simp only [CellK.fitsAll] at h
  obtain ⟨_, _, hcs, h0, _, _, rfl, h1, _, _, rfl, h2, _, _, rfl, h3, _, _, rfl, h4, _, _, rfl, h5, rfl⟩ := h
  unfold CellK.fits at h0 h1 h2 h3 h4 h5
  obtain ⟨r1, hr1, hf1⟩ := h0
  obtain ⟨l, rfl, hl⟩ := rows_list (fun _ => con_row) r1 hf1
  obtain ⟨a, rfl, _⟩ := h1
  obtain ⟨b, rfl⟩ := h2
  obtain ⟨c, rfl, _⟩ := h3
  obtain ⟨d, rfl, hd4⟩ := h4
  obtain ⟨e, rfl, hd5⟩ := h5
  exact ⟨⟨_, l, ⟨a, b⟩, c, d, e⟩, agg_of hcs, hr1, hl, hd4, hd5⟩
set_option maxRecDepth 100000 in
theorem open_valued (hval : Value.okWide Tryd.prog w r b0 30 v) (hd : DataW.Trod enc Tryd.prog w 0 (fun _ => true) held 30 v d p) :
    ∃ a : ValuedV, v = .agg #[a.v, .int .i64 a.W.dy, .int .i64 a.W.st, .int .i64 a.W.en, .int .i64 a.W.fr, .int .i64 a.W.to, .int .i64 a.z.off, .bool a.z.sum, .int .i64 a.a, .int .i64 a.b] ∧ IsSl w 2 a.v (a.L.map encP) ∧ I64 a.b := by
  obtain ⟨cs, rfl, h⟩ := open_struct [.sl [.int .i64, .int .i64], .int .i64, .int .i64, .int .i64, .int .i64, .int .i64, .int .i64, .bool, .int .i64, .int .i64] (by kernel_rfl) Tryd.underlying30 hval hd
  simp only [CellK.fitsAll] at h
  obtain ⟨_, _, hcs, h0, _, _, rfl, h1, _, _, rfl, h2, _, _, rfl, h3, _, _, rfl, h4, _, _, rfl, h5, _, _, rfl, h6, _, _, rfl, h7, _, _, rfl, h8, _, _, rfl, h9, rfl⟩ := h
  unfold CellK.fits at h0 h1 h2 h3 h4 h5 h6 h7 h8 h9
  obtain ⟨r1, hr1, hf1⟩ := h0
  obtain ⟨L, rfl, hl⟩ := rows_list (fun _ => step_row) r1 hf1
  obtain ⟨a, rfl, _⟩ := h1
  obtain ⟨b, rfl, _⟩ := h2
  obtain ⟨c, rfl, _⟩ := h3
  obtain ⟨d, rfl, _⟩ := h4
  obtain ⟨e, rfl, _⟩ := h5
  obtain ⟨f, rfl, _⟩ := h6
  obtain ⟨g, rfl⟩ := h7
  obtain ⟨i, rfl, _⟩ := h8
  obtain ⟨j, rfl, hj⟩ := h9
  exact ⟨⟨_, L, ⟨a, b, c, d, e⟩, ⟨f, g⟩, i, j⟩, agg_of hcs, hr1, hj⟩
set_option maxRecDepth 100000 in
theorem open_siteN (hval : Value.okWide Tryd.prog w r b0 47 v) (hd : DataW.Trod enc Tryd.prog w 0 (fun _ => true) held 47 v d p) :
    ∃ a : SiteN, v = .agg #[.string a.s, .slice a.A a.n a.c, .slice a.B a.m a.d] ∧ a.n ≤ maxLen := by
  obtain ⟨cs, rfl, h⟩ := open_struct [.str, .sl [.str, .int .i64, .int .i64, .int .i64, .int .i64], .sl [.str, .int .i64, .int .i64, .int .i64, .int .i64]] (by kernel_rfl) Tryd.underlying47 hval hd
  simp only [CellK.fitsAll] at h
  obtain ⟨_, _, hcs, h0, _, _, rfl, h1, _, _, rfl, h2, rfl⟩ := h
  unfold CellK.fits at h0 h1 h2
  obtain ⟨s, rfl, hs⟩ := h0
  obtain ⟨r1, ⟨A, c, rfl, q1, q2, _⟩, _⟩ := h1
  obtain ⟨r2, ⟨B, d, rfl, _, _, _⟩, _⟩ := h2
  exact ⟨⟨s, A, B, r1.length, c, r2.length, d⟩, agg_of hcs, Nat.le_trans q1 q2⟩
end

end Go.Proofs.YtpknjblgbpndlaaDoor
