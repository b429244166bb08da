/-
  Walks: Holds of package window.
-/
import Derived.Test.YtlpjniejbblcnaaDoorWWin3
import Derived.Test.YtlpjniejbblcnaaDoorWWin5
namespace Go.Proofs.YtlpjniejbblcnaaDoor
open Go.RowKit Go.Lib
set_option linter.unusedVariables false

/-- a valid window holds .. -/
theorem holds_any (W : WinR) (z : ZoneR) (t : Int) (w : World) (hv : LenV w) (hW : winB W = true) :
    Calls Tryd.prog 81 #[.agg #[.int .i64 W.dy, .int .i64 W.st, .int .i64 W.en, .int .i64 W.fr, .int .i64 W.to], .agg #[.int .i64 z.off, .bool z.sum], .int .i64 t] w
      fun e w' => e = .returned (.bool (holdsB W z t)) ∧ Below w.heap.size w w' := by
  cases hi : inB W t with
  | false => exact holds_out W z t w hW hi
  | true =>
    cases hz : zoneB z with
    | false => exact holds_bad W z t w hW hi (.inl hz)
    | true =>
      cases ht : timeB t with
      | false => exact holds_bad W z t w hW hi (.inr ⟨hz, ht⟩)
      | true =>
        by_cases hle : W.st ≤ W.en
        · exact holds_in W z t w hv hW hi hz ht hle
        · exact holds_night W z t w hv hW hi hz ht (by omega)

theorem holdsB_no {W : WinR} {z : ZoneR} {t : Int} (h : winB W = false) : holdsB W z t = false := by
  unfold holdsB; rw [h]; simp

set_option maxRecDepth 100000 in
set_option maxHeartbeats 1600000 in
theorem holdsT_any (W : WinR) (z : ZoneR) (t : Int) (w : World) (hv : LenV w) :
    Calls Tryd.prog 71 #[.agg #[.int .i64 W.dy, .int .i64 W.st, .int .i64 W.en, .int .i64 W.fr, .int .i64 W.to], .agg #[.int .i64 z.off, .bool z.sum], .int .i64 t] w
      fun e w' => e = .returned (.bool (holdsB W z t)) ∧ Below w.heap.size w w' := by
  have hbw := Below.refl w.heap.size w
  have HV := Lib.hid hv
  cases hW : winB W with
  | false =>
    have HE := Lib.hid (winE_false hW)
    have HN := Lib.hid (holdsB_no (z := z) (t := t) hW)
    clear hW hv
    go_enter Tryd.func71, Tryd.ntmps71
    go_wp2_with (go_at_call 54; refine (winValid_any W _).mono ?_; rintro e w' ⟨rfl, hb⟩; obtain ⟨hc, hf⟩ := bcell hb; have hz := hb.size; (try simp only [World.size_alloc, Nat.add_one_le_iff] at hz); (try (have hz0 : w.heap.size < w'.heap.size := by omega)); (try (have hz1 : w.heap.size + 1 < w'.heap.size := by omega)); (try (have hz2 : w.heap.size < w'.heap.size := by omega)); replace hbw := below_step (w := w) (by repeat (first | exact hbw | refine below_alloc ?_ _ | refine below_drew ?_ | refine below_drewN ?_ _ | (refine below_set ?_ ?_ _; rotate_left; (first | exact Nat.le_refl _ | (simp only [World.size_alloc]; omega) | omega)))) hb; clear hb; rw [HE.out])
    go_ret
    exact ⟨ret_bool HN.out.symm, by repeat (first | exact hbw | refine below_alloc ?_ _ | refine below_drewN ?_ _)⟩
  | true =>
    have HE := Lib.hid (winE_true hW)
    have HW := Lib.hid hW
    clear hW hv
    go_enter Tryd.func71, Tryd.ntmps71
    go_wp2_with (first | (go_at_call 54; refine (winValid_any W _).mono ?_; rintro e w' ⟨rfl, hb⟩; obtain ⟨hc, hf⟩ := bcell hb; have hz := hb.size; (try simp only [World.size_alloc, Nat.add_one_le_iff] at hz); (try (have hz0 : w.heap.size < w'.heap.size := by omega)); (try (have hz1 : w.heap.size + 1 < w'.heap.size := by omega)); (try (have hz2 : w.heap.size < w'.heap.size := by omega)); replace hbw := below_step (w := w) (by repeat (first | exact hbw | refine below_alloc ?_ _ | refine below_drew ?_ | refine below_drewN ?_ _ | (refine below_set ?_ ?_ _; rotate_left; (first | exact Nat.le_refl _ | (simp only [World.size_alloc]; omega) | omega)))) hb; clear hb; rw [HE.out]) | (go_at_call 81; refine (holds_any W z t _ (HV.out.below (by repeat (first | exact hbw | refine below_alloc ?_ _ | refine below_drew ?_ | refine below_drewN ?_ _))) HW.out).mono ?_; rintro e w' ⟨rfl, hb⟩; obtain ⟨hc, hf⟩ := bcell hb; have hz := hb.size; (try simp only [World.size_alloc, Nat.add_one_le_iff] at hz); (try (have hz0 : w.heap.size < w'.heap.size := by omega)); (try (have hz1 : w.heap.size + 1 < w'.heap.size := by omega)); (try (have hz2 : w.heap.size < w'.heap.size := by omega)); replace hbw := below_step (w := w) (by repeat (first | exact hbw | refine below_alloc ?_ _ | refine below_drew ?_ | refine below_drewN ?_ _ | (refine below_set ?_ ?_ _; rotate_left; (first | exact Nat.le_refl _ | (simp only [World.size_alloc]; omega) | omega)))) hb; clear hb))
    go_ret
    exact ⟨rfl, by repeat (first | exact hbw | refine below_alloc ?_ _ | refine below_drewN ?_ _)⟩

end Go.Proofs.YtlpjniejbblcnaaDoor
