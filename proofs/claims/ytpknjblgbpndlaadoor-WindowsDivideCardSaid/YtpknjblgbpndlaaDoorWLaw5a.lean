/-
  Walks: the examples of the chapter on windows.
-/
import Derived.Test.YtpknjblgbpndlaaDoorPEx5
import Derived.Outline
namespace Go.Proofs.YtpknjblgbpndlaaDoor
open Go.RowKit Go.Lib Go.Maps
set_option linter.unusedVariables false

theorem span_at {w : World} {A : Option Addr} {l : List (Int × Int)} (h : SlAt w 2 A (l.map encP)) {k : Nat} {x : Int × Int} (hk : l[k]? = some x) :
    ∃ b off, A = some ⟨b, off, none⟩ ∧ b < w.heap.size ∧ w.cell? ⟨b, off + k * 2, none⟩ = some (.int .i64 x.1) ∧ w.cell? ⟨b, off + k * 2 + 1, none⟩ = some (.int .i64 x.2) := by
  obtain ⟨b, off, e, hb, hc⟩ := h k (encP x) (by rw [List.getElem?_map, hk]; rfl)
  have c0 := hc 0 _ rfl
  have c1 := hc 1 _ rfl
  exact ⟨b, off, e, hb, by simpa using c0, by simpa [Nat.add_assoc] using c1⟩

theorem exH_1320 (w : World) (hv : LenV w) : Calls Tryd.prog 14 #[.agg #[.int .i64 32, .int .i64 1320, .int .i64 360, .int .i64 0, .int .i64 (-1)], .agg #[.int .i64 0, .bool false], .int .i64 1320] w fun e w' => e = .returned (.bool true) ∧ Below w.heap.size w w' := by
  have h := holdsT_any exN exZ 1320 w hv
  rw [exN_1320] at h
  exact h
theorem exH_1799 (w : World) (hv : LenV w) : Calls Tryd.prog 14 #[.agg #[.int .i64 32, .int .i64 1320, .int .i64 360, .int .i64 0, .int .i64 (-1)], .agg #[.int .i64 0, .bool false], .int .i64 1799] w fun e w' => e = .returned (.bool true) ∧ Below w.heap.size w w' := by
  have h := holdsT_any exN exZ 1799 w hv
  rw [exN_1799] at h
  exact h
theorem exH_0 (w : World) (hv : LenV w) : Calls Tryd.prog 14 #[.agg #[.int .i64 32, .int .i64 1320, .int .i64 360, .int .i64 0, .int .i64 (-1)], .agg #[.int .i64 0, .bool false], .int .i64 0] w fun e w' => e = .returned (.bool false) ∧ Below w.heap.size w w' := by
  have h := holdsT_any exN exZ 0 w hv
  rw [exN_0] at h
  exact h
theorem exH_1800 (w : World) (hv : LenV w) : Calls Tryd.prog 14 #[.agg #[.int .i64 32, .int .i64 1320, .int .i64 360, .int .i64 0, .int .i64 (-1)], .agg #[.int .i64 0, .bool false], .int .i64 1800] w fun e w' => e = .returned (.bool false) ∧ Below w.heap.size w w' := by
  have h := holdsT_any exN exZ 1800 w hv
  rw [exN_1800] at h
  exact h
theorem exNx_0 (w : World) (hv : LenV w) : Calls Tryd.prog 71 #[.agg #[.int .i64 0, .int .i64 480, .int .i64 1020, .int .i64 0, .int .i64 (-1)], .agg #[.int .i64 0, .bool false], .int .i64 0] w fun e w' => e = .returned (.int .i64 480) ∧ Below w.heap.size w w' := by
  have h := winNext_any exW exZ 0 w hv
  rw [nextA_0] at h
  exact h
theorem exNx_480 (w : World) (hv : LenV w) : Calls Tryd.prog 71 #[.agg #[.int .i64 0, .int .i64 480, .int .i64 1020, .int .i64 0, .int .i64 (-1)], .agg #[.int .i64 0, .bool false], .int .i64 480] w fun e w' => e = .returned (.int .i64 1020) ∧ Below w.heap.size w w' := by
  have h := winNext_any exW exZ 480 w hv
  rw [nextA_480] at h
  exact h
theorem exNx_5 (w : World) (hv : LenV w) : Calls Tryd.prog 71 #[.agg #[.int .i64 0, .int .i64 0, .int .i64 0, .int .i64 5, .int .i64 (-1)], .agg #[.int .i64 0, .bool false], .int .i64 5] w fun e w' => e = .returned (.int .i64 (-1)) ∧ Below w.heap.size w w' := by
  have h := winNext_any exF exZ 5 w hv
  rw [nextA_5] at h
  exact h
theorem exVd (w : World) : Calls Tryd.prog 11 #[.agg #[.int .i64 0, .int .i64 0, .int .i64 1440, .int .i64 0, .int .i64 0]] w fun e w' => e = .returned (.int .i64 1) ∧ Below w.heap.size w w' := by
  have h := winValid_any ⟨0, 0, 1440, 0, 0⟩ w
  rw [valid_ex] at h
  exact h

end Go.Proofs.YtpknjblgbpndlaaDoor
