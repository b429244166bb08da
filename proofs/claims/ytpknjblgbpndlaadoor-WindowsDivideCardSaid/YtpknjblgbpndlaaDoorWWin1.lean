/-
  Walks: the leaves of package window.
-/
import Derived.Test.YtpknjblgbpndlaaDoorWCal3
import Derived.Test.YtpknjblgbpndlaaDoorPWin2
namespace Go.Proofs.YtpknjblgbpndlaaDoor
open Go.RowKit Go.Lib
set_option linter.unusedVariables false

def WinR.vals (W : WinR) : Array Value := #[.int .i64 W.dy, .int .i64 W.st, .int .i64 W.en, .int .i64 W.fr, .int .i64 W.to]
theorem bits_and1 (x : Int) (h0 : 0 ≤ x) (h1 : x ≤ 127) : bits .and .i64 x 1 = x % 2 := by
  obtain ⟨k, rfl⟩ : ∃ k : Fin 128, x = ((k : Nat) : Int) := ⟨⟨x.toNat, by omega⟩, by simp; omega⟩
  revert k
  decide

set_option maxRecDepth 100000 in
set_option maxHeartbeats 400000 in
theorem winZone_any (z : ZoneR) (w : World) (hv : LenV w) :
    Calls Tryd.prog 27 #[.agg #[.int .i64 z.off, .bool z.sum]] w fun e w' => e = .returned (.bool (zoneB z)) ∧ Below w.heap.size w w' := by
  have HV := Lib.hid hv
  clear hv
  have hbw := Below.refl w.heap.size w
  cases hz : zoneB z with
  | false =>
    have HZ := Lib.hid hz
    clear hz
    go_enter Tryd.func27, Tryd.ntmps27
    go_wp2_with ((go_at_call 46; refine (local_zone z 0 _ HZ.out).mono ?_; rintro e w' ⟨rfl, hb⟩; obtain ⟨hc, hf⟩ := bcell hb; have hz := hb.size; (try simp only [World.size_alloc, Nat.add_one_le_iff] at hz); (try (have hz0 : w.heap.size < w'.heap.size := by omega)); (try (have hz1 : w.heap.size + 1 < w'.heap.size := by omega)); (try (have hz2 : w.heap.size < w'.heap.size := by omega)); replace hbw := below_step (w := w) (by repeat (first | exact hbw | refine below_alloc ?_ _ | refine below_drew ?_ | refine below_drewN ?_ _ | (refine below_set ?_ ?_ _; rotate_left; (first | exact Nat.le_refl _ | (simp only [World.size_alloc]; omega) | omega)))) hb; clear hb))
    go_ret
    exact ⟨rfl, by repeat (first | exact hbw | refine below_set ?_ (by simp; omega) _ | refine below_alloc ?_ _ | refine below_drewN ?_ _)⟩
  | true =>
    have HZ := Lib.hid hz
    clear hz
    go_enter Tryd.func27, Tryd.ntmps27
    go_wp2_with ((go_at_call 46; refine (local_any z 0 _ (HV.out.below (by repeat (first | exact hbw | refine below_alloc ?_ _ | refine below_drew ?_ | refine below_drewN ?_ _))) HZ.out (by omega) (by omega)).mono ?_; rintro e w' ⟨⟨y, m, d, rfl⟩, hb⟩; obtain ⟨hc, hf⟩ := bcell hb; have hz := hb.size; (try simp only [World.size_alloc, Nat.add_one_le_iff] at hz); (try (have hz0 : w.heap.size < w'.heap.size := by omega)); (try (have hz1 : w.heap.size + 1 < w'.heap.size := by omega)); (try (have hz2 : w.heap.size < w'.heap.size := by omega)); replace hbw := below_step (w := w) (by repeat (first | exact hbw | refine below_alloc ?_ _ | refine below_drew ?_ | refine below_drewN ?_ _ | (refine below_set ?_ ?_ _; rotate_left; (first | exact Nat.le_refl _ | (simp only [World.size_alloc]; omega) | omega)))) hb; clear hb))
    go_ret
    exact ⟨rfl, by repeat (first | exact hbw | refine below_set ?_ (by simp; omega) _ | refine below_alloc ?_ _ | refine below_drewN ?_ _)⟩

set_option maxRecDepth 100000 in
set_option maxHeartbeats 800000 in
theorem winValid_any (W : WinR) (w : World) :
    Calls Tryd.prog 11 #[.agg #[.int .i64 W.dy, .int .i64 W.st, .int .i64 W.en, .int .i64 W.fr, .int .i64 W.to]] w fun e w' => e = .returned (.int .i64 (winE W)) ∧ Below w.heap.size w w' := by
  go_enter Tryd.func11, Tryd.ntmps11
  go_wp2
  all_goals go_ret
  all_goals first
    | exact ⟨ret_int (winE_no (by rintro ⟨_, _, _, _, _, _, _, _, _⟩; (try simp at *); omega)).symm, below_alloc (Below.refl _ _) _⟩
    | exact ⟨ret_int (winE_ok (by constructor <;> ((try simp at *); omega))).symm, below_alloc (Below.refl _ _) _⟩

end Go.Proofs.YtpknjblgbpndlaaDoor
