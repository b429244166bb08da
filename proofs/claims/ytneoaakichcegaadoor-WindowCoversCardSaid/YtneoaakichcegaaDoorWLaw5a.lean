/-
  Walks: the examples of the chapter on windows.
-/
import Derived.Test.YtneoaakichcegaaDoorPEx5
import Derived.Outline
namespace Go.Proofs.YtneoaakichcegaaDoor
open Go.RowKit Go.Lib Go.Maps
set_option linter.unusedVariables false

theorem span_at {w : World} {A : Option Addr} {l : List (Int × Int)} (h : SlAt w 2 A (l.map encP)) {k : Nat} {x : Int × Int} (hk : l[k]? = some x) :
    ∃ b off, A = some ⟨b, off, none⟩ ∧ b < w.heap.size ∧ w.cell? ⟨b, off + k * 2, none⟩ = some (.int .i64 x.1) ∧ w.cell? ⟨b, off + k * 2 + 1, none⟩ = some (.int .i64 x.2) := by
  obtain ⟨b, off, e, hb, hc⟩ := h k (encP x) (by rw [List.getElem?_map, hk]; rfl)
  have c0 := hc 0 _ rfl
  have c1 := hc 1 _ rfl
  exact ⟨b, off, e, hb, by simpa using c0, by simpa [Nat.add_assoc] using c1⟩

theorem exH_1320 (w : World) (hv : LenV w) : Calls Tryd.prog 15 #[.agg #[.int .i64 32, .int .i64 1320, .int .i64 360, .int .i64 0, .int .i64 (-1)], .agg #[.int .i64 0, .bool false], .int .i64 1320] w fun e w' => e = .returned (.bool true) ∧ Below w.heap.size w w' := by
  have h := holdsT_any exN exZ 1320 w hv
  rw [exN_1320] at h
  exact h
theorem exH_1799 (w : World) (hv : LenV w) : Calls Tryd.prog 15 #[.agg #[.int .i64 32, .int .i64 1320, .int .i64 360, .int .i64 0, .int .i64 (-1)], .agg #[.int .i64 0, .bool false], .int .i64 1799] w fun e w' => e = .returned (.bool true) ∧ Below w.heap.size w w' := by
  have h := holdsT_any exN exZ 1799 w hv
  rw [exN_1799] at h
  exact h
theorem exH_0 (w : World) (hv : LenV w) : Calls Tryd.prog 15 #[.agg #[.int .i64 32, .int .i64 1320, .int .i64 360, .int .i64 0, .int .i64 (-1)], .agg #[.int .i64 0, .bool false], .int .i64 0] w fun e w' => e = .returned (.bool false) ∧ Below w.heap.size w w' := by
  have h := holdsT_any exN exZ 0 w hv
  rw [exN_0] at h
  exact h
theorem exH_1800 (w : World) (hv : LenV w) : Calls Tryd.prog 15 #[.agg #[.int .i64 32, .int .i64 1320, .int .i64 360, .int .i64 0, .int .i64 (-1)], .agg #[.int .i64 0, .bool false], .int .i64 1800] w fun e w' => e = .returned (.bool false) ∧ Below w.heap.size w w' := by
  have h := holdsT_any exN exZ 1800 w hv
  rw [exN_1800] at h
  exact h
theorem exNx_0 (w : World) (hv : LenV w) : Calls Tryd.prog 20 #[.agg #[.int .i64 0, .int .i64 480, .int .i64 1020, .int .i64 0, .int .i64 (-1)], .agg #[.int .i64 0, .bool false], .int .i64 0] w fun e w' => e = .returned (.int .i64 480) ∧ Below w.heap.size w w' := by
  have h := winNext_any exW exZ 0 w hv
  rw [nextA_0] at h
  exact h
theorem exNx_480 (w : World) (hv : LenV w) : Calls Tryd.prog 20 #[.agg #[.int .i64 0, .int .i64 480, .int .i64 1020, .int .i64 0, .int .i64 (-1)], .agg #[.int .i64 0, .bool false], .int .i64 480] w fun e w' => e = .returned (.int .i64 1020) ∧ Below w.heap.size w w' := by
  have h := winNext_any exW exZ 480 w hv
  rw [nextA_480] at h
  exact h
theorem exNx_5 (w : World) (hv : LenV w) : Calls Tryd.prog 20 #[.agg #[.int .i64 0, .int .i64 0, .int .i64 0, .int .i64 5, .int .i64 (-1)], .agg #[.int .i64 0, .bool false], .int .i64 5] w fun e w' => e = .returned (.int .i64 (-1)) ∧ Below w.heap.size w w' := by
  have h := winNext_any exF exZ 5 w hv
  rw [nextA_5] at h
  exact h
theorem exVd (w : World) : Calls Tryd.prog 12 #[.agg #[.int .i64 0, .int .i64 0, .int .i64 1440, .int .i64 0, .int .i64 0]] w fun e w' => e = .returned (.int .i64 1) ∧ Below w.heap.size w w' := by
  have h := winValid_any ⟨0, 0, 1440, 0, 0⟩ w
  rw [valid_ex] at h
  exact h

set_option maxRecDepth 100000 in
set_option maxHeartbeats 3200000 in
theorem ex5_any (w : World) (hv : LenV w) : Calls Tryd.prog 18 #[] w fun e w' => e = .returned (.bool true) ∧ Below w.heap.size w w' := by
  have HV := Lib.hid hv
  clear hv
  go_enter Tryd.func18, Tryd.ntmps18
  go_wp2_with fail
  refine (spans_any exW exZ 500 2000 _ (HV.out.alloc _)).mono ?_
  rintro e w1 ⟨v, rfl, hv1, hb1⟩
  rw [spans_ex.e]
  rw [spans_ex.l] at hv1
  obtain ⟨A, c, rfl, hlc, hcm, hsl⟩ := hv1
  obtain ⟨b, off, rfl, hbb, x0, x1⟩ := span_at hsl (k := 0) rfl
  obtain ⟨_, _, e9, _, y0, y1⟩ := span_at hsl (k := 1) rfl
  injection e9 with e9
  injection e9 with e91 e92 _
  subst e91
  subst e92
  simp only [Nat.zero_mul, Nat.add_zero, Nat.one_mul] at x0 x1 y0 y1
  obtain ⟨hc, hf⟩ := bcell hb1
  have hz1 := hb1.size
  simp only [World.size_alloc, Nat.add_one_le_iff] at hz1
  have HB := Lib.hid (below_step (below_alloc (Below.refl _ _) _) hb1)
  have HV1 := Lib.hid ((HV.out.alloc _).below hb1)
  clear hb1 hsl hlc hcm
  simp only [List.map_cons, List.map_nil, List.length_cons, List.length_nil, Nat.zero_add, Nat.reduceAdd]
  have hbw := HB.out
  go_wp2_with (first | (go_at_call 15; (first | ((with_reducible refine (exH_1320 _ (HV.out.below (by repeat (first | exact hbw | refine below_alloc ?_ _ | refine below_drew ?_ | refine below_drewN ?_ _)))).mono ?_); rintro e w' ⟨rfl, hb⟩; obtain ⟨hc, hf⟩ := bcell hb; have hz := hb.size; (try simp only [World.size_alloc, Nat.add_one_le_iff] at hz); (try (have hz0 : w.heap.size < w'.heap.size := by omega)); (try (have hz1 : w.heap.size + 1 < w'.heap.size := by omega)); (try (have hz2 : w.heap.size < w'.heap.size := by omega)); replace hbw := below_step (w := w) (by repeat (first | exact hbw | refine below_alloc ?_ _ | refine below_drew ?_ | refine below_drewN ?_ _ | (refine below_set ?_ ?_ _; rotate_left; (first | exact Nat.le_refl _ | (simp only [World.size_alloc]; omega) | omega)))) hb; clear hb; (try (have hy9 : w1.heap.size < w'.heap.size := by omega))) | ((with_reducible refine (exH_1799 _ (HV.out.below (by repeat (first | exact hbw | refine below_alloc ?_ _ | refine below_drew ?_ | refine below_drewN ?_ _)))).mono ?_); rintro e w' ⟨rfl, hb⟩; obtain ⟨hc, hf⟩ := bcell hb; have hz := hb.size; (try simp only [World.size_alloc, Nat.add_one_le_iff] at hz); (try (have hz0 : w.heap.size < w'.heap.size := by omega)); (try (have hz1 : w.heap.size + 1 < w'.heap.size := by omega)); (try (have hz2 : w.heap.size < w'.heap.size := by omega)); replace hbw := below_step (w := w) (by repeat (first | exact hbw | refine below_alloc ?_ _ | refine below_drew ?_ | refine below_drewN ?_ _ | (refine below_set ?_ ?_ _; rotate_left; (first | exact Nat.le_refl _ | (simp only [World.size_alloc]; omega) | omega)))) hb; clear hb; (try (have hy9 : w1.heap.size < w'.heap.size := by omega))) | ((with_reducible refine (exH_0 _ (HV.out.below (by repeat (first | exact hbw | refine below_alloc ?_ _ | refine below_drew ?_ | refine below_drewN ?_ _)))).mono ?_); rintro e w' ⟨rfl, hb⟩; obtain ⟨hc, hf⟩ := bcell hb; have hz := hb.size; (try simp only [World.size_alloc, Nat.add_one_le_iff] at hz); (try (have hz0 : w.heap.size < w'.heap.size := by omega)); (try (have hz1 : w.heap.size + 1 < w'.heap.size := by omega)); (try (have hz2 : w.heap.size < w'.heap.size := by omega)); replace hbw := below_step (w := w) (by repeat (first | exact hbw | refine below_alloc ?_ _ | refine below_drew ?_ | refine below_drewN ?_ _ | (refine below_set ?_ ?_ _; rotate_left; (first | exact Nat.le_refl _ | (simp only [World.size_alloc]; omega) | omega)))) hb; clear hb; (try (have hy9 : w1.heap.size < w'.heap.size := by omega))) | ((with_reducible refine (exH_1800 _ (HV.out.below (by repeat (first | exact hbw | refine below_alloc ?_ _ | refine below_drew ?_ | refine below_drewN ?_ _)))).mono ?_); rintro e w' ⟨rfl, hb⟩; obtain ⟨hc, hf⟩ := bcell hb; have hz := hb.size; (try simp only [World.size_alloc, Nat.add_one_le_iff] at hz); (try (have hz0 : w.heap.size < w'.heap.size := by omega)); (try (have hz1 : w.heap.size + 1 < w'.heap.size := by omega)); (try (have hz2 : w.heap.size < w'.heap.size := by omega)); replace hbw := below_step (w := w) (by repeat (first | exact hbw | refine below_alloc ?_ _ | refine below_drew ?_ | refine below_drewN ?_ _ | (refine below_set ?_ ?_ _; rotate_left; (first | exact Nat.le_refl _ | (simp only [World.size_alloc]; omega) | omega)))) hb; clear hb; (try (have hy9 : w1.heap.size < w'.heap.size := by omega))))) | (go_at_call 12; ((with_reducible refine (exVd _).mono ?_); rintro e w' ⟨rfl, hb⟩; obtain ⟨hc, hf⟩ := bcell hb; have hz := hb.size; (try simp only [World.size_alloc, Nat.add_one_le_iff] at hz); (try (have hz0 : w.heap.size < w'.heap.size := by omega)); (try (have hz1 : w.heap.size + 1 < w'.heap.size := by omega)); (try (have hz2 : w.heap.size < w'.heap.size := by omega)); replace hbw := below_step (w := w) (by repeat (first | exact hbw | refine below_alloc ?_ _ | refine below_drew ?_ | refine below_drewN ?_ _ | (refine below_set ?_ ?_ _; rotate_left; (first | exact Nat.le_refl _ | (simp only [World.size_alloc]; omega) | omega)))) hb; clear hb; (try (have hy9 : w1.heap.size < w'.heap.size := by omega)))) | (go_at_call 20; (first | ((with_reducible refine (exNx_0 _ (HV.out.below (by repeat (first | exact hbw | refine below_alloc ?_ _ | refine below_drew ?_ | refine below_drewN ?_ _)))).mono ?_); rintro e w' ⟨rfl, hb⟩; obtain ⟨hc, hf⟩ := bcell hb; have hz := hb.size; (try simp only [World.size_alloc, Nat.add_one_le_iff] at hz); (try (have hz0 : w.heap.size < w'.heap.size := by omega)); (try (have hz1 : w.heap.size + 1 < w'.heap.size := by omega)); (try (have hz2 : w.heap.size < w'.heap.size := by omega)); replace hbw := below_step (w := w) (by repeat (first | exact hbw | refine below_alloc ?_ _ | refine below_drew ?_ | refine below_drewN ?_ _ | (refine below_set ?_ ?_ _; rotate_left; (first | exact Nat.le_refl _ | (simp only [World.size_alloc]; omega) | omega)))) hb; clear hb; (try (have hy9 : w1.heap.size < w'.heap.size := by omega))) | ((with_reducible refine (exNx_480 _ (HV.out.below (by repeat (first | exact hbw | refine below_alloc ?_ _ | refine below_drew ?_ | refine below_drewN ?_ _)))).mono ?_); rintro e w' ⟨rfl, hb⟩; obtain ⟨hc, hf⟩ := bcell hb; have hz := hb.size; (try simp only [World.size_alloc, Nat.add_one_le_iff] at hz); (try (have hz0 : w.heap.size < w'.heap.size := by omega)); (try (have hz1 : w.heap.size + 1 < w'.heap.size := by omega)); (try (have hz2 : w.heap.size < w'.heap.size := by omega)); replace hbw := below_step (w := w) (by repeat (first | exact hbw | refine below_alloc ?_ _ | refine below_drew ?_ | refine below_drewN ?_ _ | (refine below_set ?_ ?_ _; rotate_left; (first | exact Nat.le_refl _ | (simp only [World.size_alloc]; omega) | omega)))) hb; clear hb; (try (have hy9 : w1.heap.size < w'.heap.size := by omega))) | ((with_reducible refine (exNx_5 _ (HV.out.below (by repeat (first | exact hbw | refine below_alloc ?_ _ | refine below_drew ?_ | refine below_drewN ?_ _)))).mono ?_); rintro e w' ⟨rfl, hb⟩; obtain ⟨hc, hf⟩ := bcell hb; have hz := hb.size; (try simp only [World.size_alloc, Nat.add_one_le_iff] at hz); (try (have hz0 : w.heap.size < w'.heap.size := by omega)); (try (have hz1 : w.heap.size + 1 < w'.heap.size := by omega)); (try (have hz2 : w.heap.size < w'.heap.size := by omega)); replace hbw := below_step (w := w) (by repeat (first | exact hbw | refine below_alloc ?_ _ | refine below_drew ?_ | refine below_drewN ?_ _ | (refine below_set ?_ ?_ _; rotate_left; (first | exact Nat.le_refl _ | (simp only [World.size_alloc]; omega) | omega)))) hb; clear hb; (try (have hy9 : w1.heap.size < w'.heap.size := by omega))))))
  go_ret
  exact ⟨rfl, by repeat (first | exact hbw | refine below_alloc ?_ _)⟩

end Go.Proofs.YtneoaakichcegaaDoor
