/-
  Walks: holds of package window, inside of the window's times.
-/
import Derived.Test.YtlpjniejbblcnaaDoorWWin2
namespace Go.Proofs.YtlpjniejbblcnaaDoor
open Go.RowKit Go.Lib
set_option linter.unusedVariables false

set_option maxRecDepth 100000 in
set_option maxHeartbeats 3200000 in
theorem holds_in (W : WinR) (z : ZoneR) (t : Int) (w : World) (hv : LenV w) (hW : winB W = true) (hi : inB W t = true) (hz : zoneB z = true) (ht : timeB t = true) (hle : W.st ≤ W.en) :
    Calls Tryd.prog 81 #[.agg #[.int .i64 W.dy, .int .i64 W.st, .int .i64 W.en, .int .i64 W.fr, .int .i64 W.to], .agg #[.int .i64 z.off, .bool z.sum], .int .i64 t] w
      fun e w' => e = .returned (.bool (holdsB W z t)) ∧ Below w.heap.size w w' := by
  obtain ⟨h1, h2⟩ := inB_iff.1 hi
  obtain ⟨t0, t1⟩ := timeB_iff.1 ht
  obtain ⟨d0, d1, s0, s1, e0, e1, f0, f1, ht2⟩ := winB_iff.1 hW
  have HP : Hid (holdsB W z t = dayB W.dy W.st W.en (wdF ((t + offF z t) / 1440)) ((t + offF z t) % 1440)) := holdsB_in hW hz t0 t1 h1 h2
  have HZ := Lib.hid hz
  have HV := Lib.hid hv
  have hwd := wdF_rng ((t + offF z t) / 1440)
  have HL := Lib.hid (fun (w : World) (h : LenV w) => local_any z t w h HZ.out t0 t1)
  have hm0 : 0 ≤ (t + offF z t) % 1440 := by omega
  have hm1 : (t + offF z t) % 1440 < 1440 := by omega
  generalize wdF ((t + offF z t) / 1440) = wd at *
  generalize (t + offF z t) % 1440 = m at *
  have hend : ¬ (0 ≤ W.to) ∨ (0 ≤ W.to ∧ t < W.to) := by omega
  clear hW hi hz ht hv h2 ht2
  have hbw := Below.refl w.heap.size w
  obtain ⟨hwd1, hwd2⟩ := hwd
  have hq1 : 1 ≤ (wd + 5) % 7 + 1 := by omega
  have hq2 : (wd + 5) % 7 + 1 ≤ 7 := by omega
  generalize hb1 : onB W.dy wd = b1 at *
  generalize hb2 : onB W.dy ((wd + 5) % 7 + 1) = b2 at *
  have HB1 := Lib.hid hb1
  have HB2 := Lib.hid hb2
  have HD : Hid (holdsB W z t = if W.st = W.en then b1 else if W.st < W.en then b1 && (decide (W.st ≤ m) && decide (m < W.en)) else (b1 && decide (W.st ≤ m)) || (b2 && decide (m < W.en))) := by
    unfold Hid; rw [HP.out]; unfold dayB; rw [hb1, hb2]
  clear hb1 hb2 HP
  rcases Int.lt_trichotomy W.st W.en with c | c | c
  · have c2 : (W.st == W.en) = false := by simp; omega
    rcases hend with g | ⟨g, g2⟩
    all_goals cases b1
    all_goals
      go_enter Tryd.func81, Tryd.ntmps81
      go_wp2_with (first | (go_at_call 91; refine (HL.out _ (HV.out.below (by repeat (first | exact hbw | refine below_alloc ?_ _ | refine below_drew ?_ | refine below_drewN ?_ _)))).mono ?_; rintro e w' ⟨⟨y, mo, d, rfl⟩, hb⟩; obtain ⟨hc, hf⟩ := bcell hb; have hz := hb.size; (try simp only [World.size_alloc, Nat.add_one_le_iff] at hz); (try (have hz0 : w.heap.size < w'.heap.size := by omega)); (try (have hz1 : w.heap.size + 1 < w'.heap.size := by omega)); (try (have hz2 : w.heap.size < w'.heap.size := by omega)); replace hbw := below_step (w := w) (by repeat (first | exact hbw | refine below_alloc ?_ _ | refine below_drew ?_ | refine below_drewN ?_ _ | (refine below_set ?_ ?_ _; rotate_left; (first | exact Nat.le_refl _ | (simp only [World.size_alloc]; omega) | omega)))) hb; clear hb) | (go_at_call 92; refine (onDay_any _ _ _ _ _ _ _ d0 d1 hwd1 hwd2).mono ?_; rintro e w' ⟨rfl, hb⟩; obtain ⟨hc, hf⟩ := bcell hb; have hz := hb.size; (try simp only [World.size_alloc, Nat.add_one_le_iff] at hz); (try (have hz0 : w.heap.size < w'.heap.size := by omega)); (try (have hz1 : w.heap.size + 1 < w'.heap.size := by omega)); (try (have hz2 : w.heap.size < w'.heap.size := by omega)); replace hbw := below_step (w := w) (by repeat (first | exact hbw | refine below_alloc ?_ _ | refine below_drew ?_ | refine below_drewN ?_ _ | (refine below_set ?_ ?_ _; rotate_left; (first | exact Nat.le_refl _ | (simp only [World.size_alloc]; omega) | omega)))) hb; clear hb; rw [HB1.out]))
      all_goals go_ret
      all_goals exact ⟨ret_bool (by rw [HD.out, if_neg (by omega), if_pos c]; simp; try omega), by repeat (first | exact hbw | refine below_set ?_ (by simp; omega) _ | refine below_alloc ?_ _ | refine below_drewN ?_ _)⟩
  · rcases hend with g | ⟨g, g2⟩
    all_goals
      go_enter Tryd.func81, Tryd.ntmps81
      go_wp2_with (first | (go_at_call 91; refine (HL.out _ (HV.out.below (by repeat (first | exact hbw | refine below_alloc ?_ _ | refine below_drew ?_ | refine below_drewN ?_ _)))).mono ?_; rintro e w' ⟨⟨y, mo, d, rfl⟩, hb⟩; obtain ⟨hc, hf⟩ := bcell hb; have hz := hb.size; (try simp only [World.size_alloc, Nat.add_one_le_iff] at hz); (try (have hz0 : w.heap.size < w'.heap.size := by omega)); (try (have hz1 : w.heap.size + 1 < w'.heap.size := by omega)); (try (have hz2 : w.heap.size < w'.heap.size := by omega)); replace hbw := below_step (w := w) (by repeat (first | exact hbw | refine below_alloc ?_ _ | refine below_drew ?_ | refine below_drewN ?_ _ | (refine below_set ?_ ?_ _; rotate_left; (first | exact Nat.le_refl _ | (simp only [World.size_alloc]; omega) | omega)))) hb; clear hb) | (go_at_call 92; refine (onDay_any _ _ _ _ _ _ _ d0 d1 hwd1 hwd2).mono ?_; rintro e w' ⟨rfl, hb⟩; obtain ⟨hc, hf⟩ := bcell hb; have hz := hb.size; (try simp only [World.size_alloc, Nat.add_one_le_iff] at hz); (try (have hz0 : w.heap.size < w'.heap.size := by omega)); (try (have hz1 : w.heap.size + 1 < w'.heap.size := by omega)); (try (have hz2 : w.heap.size < w'.heap.size := by omega)); replace hbw := below_step (w := w) (by repeat (first | exact hbw | refine below_alloc ?_ _ | refine below_drew ?_ | refine below_drewN ?_ _ | (refine below_set ?_ ?_ _; rotate_left; (first | exact Nat.le_refl _ | (simp only [World.size_alloc]; omega) | omega)))) hb; clear hb; rw [HB1.out]))
      all_goals go_ret
      all_goals exact ⟨ret_bool (by rw [HD.out, if_pos c]), by repeat (first | exact hbw | refine below_set ?_ (by simp; omega) _ | refine below_alloc ?_ _ | refine below_drewN ?_ _)⟩
  · omega

end Go.Proofs.YtlpjniejbblcnaaDoor
