/-
  Walks: summer time and local dates of package calendar.
-/
import Derived.Test.YtlpjniejbblcnaaDoorWCal2
namespace Go.Proofs.YtlpjniejbblcnaaDoor
open Go.RowKit Go.Lib
set_option linter.unusedVariables false

set_option maxRecDepth 100000 in
set_option maxHeartbeats 1600000 in
theorem lastSunday_any (y m : Int) (w : World) (hv : LenV w) (h0 : 1900 ≤ y) (h1 : y ≤ 4000) (h2 : 1 ≤ m) (h3 : m ≤ 12) :
    Calls Tryd.prog 114 #[.int .i64 y, .int .i64 m] w fun e w' => e = .returned (.int .i64 (sunF y m)) ∧ ∃ n, w' = w.drewN n := by
  have hb := yst_bd y h0 h1
  have HC := Lib.hid (fun (m : Int) h1 h2 => And.intro (cum_succ (y := y) (m := m) h1 h2) (dimF_rng y m))
  go_enter Tryd.func114, Tryd.ntmps114
  go_wp2_with (first | (go_at_call 108; refine (yearStart_any _ _ (by omega) (by omega)).mono ?_; rintro e w' ⟨rfl, n2, rfl⟩))
  go_loop [5, 6] (fun r i => ∃ k : Int, 1 ≤ k ∧ k ≤ m + 1 ∧ i = .int .i64 k ∧ r = .int .i64 (yst y + cum y k - 1)) (fun _ i => (m + 1 - intOf i).toNat)
  case atStart => exact ⟨1, by omega, by omega, rfl, by rw [cum_one, Int.add_zero]⟩
  case round =>
    obtain ⟨k, hk1, hk2, rfl, rfl⟩ := hrel
    have hcr := cum_rng y k
    by_cases hc : k ≤ m
    · obtain ⟨hcs, hdm, hdm2⟩ := HC.out k hk1 (by omega)
      go_wp2_with (go_at_call 109; refine (monthDays_any _ _ _ (by repeat (first | exact hv | refine LenV.alloc ?_ _ | refine LenV.drewN ?_ _)) (by omega) (by omega) (by omega) (by omega)).mono ?_; rintro e w' ⟨rfl, rfl⟩)
      go_round
      case rel => exact ⟨k + 1, by omega, by omega, rfl, by rw [hcs]; go_num⟩
      case measure => simp [intOf]; omega
    · obtain rfl : k = m + 1 := by omega
      have hw := wdF_rng (yst y + cum y (m + 1) - 1)
      go_wp2_with (go_at_call 110; refine (weekday_any _ _ (by omega) (by omega)).mono ?_; rintro e w' ⟨rfl, n3, rfl⟩)
      go_ret
      exact ⟨ret_int (by unfold sunF; first | rfl | omega), _, rfl⟩

set_option maxRecDepth 100000 in
set_option maxHeartbeats 1600000 in
theorem summer_any (t : Int) (w : World) (hv : LenV w) (h0 : 0 ≤ t) (h1 : t ≤ 268435456) :
    Calls Tryd.prog 111 #[.int .i64 t] w fun e w' => e = .returned (.bool (sumB t)) ∧ ∃ n, w' = w.drewN n := by
  have ht : timeB t = true := timeB_iff.2 ⟨h0, h1⟩
  have HT := Lib.hid ht
  clear ht
  have hy := yearF_rng (day := t / 1440) (by omega) (by omega)
  have HS : Hid (sumB t = (decide (begF (yearF (t / 1440)) ≤ t) && decide (t < endF (yearF (t / 1440))))) := rfl
  have hyb := yst_bd _ (show 1900 ≤ yearF (t / 1440) by omega) (by omega)
  have hb := begF_rng (yearF (t / 1440))
  have he := endF_rng (yearF (t / 1440))
  generalize hY : yearF (t / 1440) = y at *
  have HY := Lib.hid hY
  unfold begF endF at *
  clear hY
  have hd0 : 0 ≤ t / 1440 := by omega
  have hd1 : t / 1440 ≤ 190000 := by omega
  by_cases hlt : t < sunF y 3 * 1440 + 60
  all_goals
    go_enter Tryd.func111, Tryd.ntmps111
    go_wp2_with (first | (go_at_call 100; refine (calTime_any _ _).mono ?_; rintro e w' ⟨rfl, rfl⟩; rw [HT.out]) | (go_at_call 107; refine (yearOf_any _ _ (by omega) (by omega)).mono ?_; rintro e w' ⟨rfl, n1, rfl⟩; rw [HY.out]) | (go_at_call 114; refine (lastSunday_any _ _ _ (by repeat (first | exact hv | refine LenV.alloc ?_ _ | refine LenV.drewN ?_ _)) (by omega) (by omega) (by omega) (by omega)).mono ?_; rintro e w' ⟨rfl, n2, rfl⟩))
    go_ret
    exact ⟨ret_bool (by rw [HS.out]; simp; omega), _, rfl⟩

set_option maxRecDepth 100000 in
set_option maxHeartbeats 400000 in
theorem calZone_any (z : ZoneR) (w : World) :
    Calls Tryd.prog 99 #[.agg #[.int .i64 z.off, .bool z.sum]] w fun e w' => e = .returned (.bool (zoneB z)) ∧ Below w.heap.size w w' := by
  go_enter Tryd.func99, Tryd.ntmps99
  go_wp2
  all_goals go_ret
  all_goals exact ⟨ret_bool (by rw [Bool.eq_iff_iff, zoneB_iff]; simp; omega), below_alloc (Below.refl _ _) _⟩

set_option maxRecDepth 100000 in
set_option maxHeartbeats 800000 in
theorem offset_any (z : ZoneR) (t : Int) (w : World) (hv : LenV w) (hz : zoneB z = true) (h0 : 0 ≤ t) (h1 : t ≤ 268435456) :
    Calls Tryd.prog 102 #[.agg #[.int .i64 z.off, .bool z.sum], .int .i64 t] w fun e w' => e = .returned (.int .i64 (offF z t)) ∧ Below w.heap.size w w' := by
  have HZ := Lib.hid hz
  obtain ⟨z1, z2⟩ := zoneB_iff.1 hz
  clear hz
  obtain ⟨zo, zs⟩ := z
  have HO : Hid (offF ⟨zo, zs⟩ t = if (zs && sumB t) = true then zo + 60 else zo) := rfl
  simp only at z1 z2
  generalize hs : sumB t = s at *
  have HS := Lib.hid hs
  clear hs
  cases zs
  all_goals cases s
  all_goals
    go_enter Tryd.func102, Tryd.ntmps102
    go_wp2_with (first | (go_at_call 99; refine (calZone_any ⟨zo, _⟩ _).mono ?_; rintro e w' ⟨rfl, hb⟩; rw [HZ.out]; obtain ⟨hc, hf⟩ := bcell hb; have hz := hb.size; simp only [World.size_alloc, Nat.add_one_le_iff] at hz) | (go_at_call 111; refine (summer_any _ _ (by exact (hv.alloc _).below hb) (by omega) (by omega)).mono ?_; rintro e w' ⟨rfl, n2, rfl⟩; rw [HS.out]))
    go_ret
    exact ⟨ret_int (by rw [HO.out]; simp), by repeat (first | exact below_step (below_alloc (Below.refl _ _) _) hb | refine below_drewN ?_ _)⟩

set_option maxRecDepth 100000 in
set_option maxHeartbeats 800000 in
theorem local_zone (z : ZoneR) (t : Int) (w : World) (hz : zoneB z = false) :
    Calls Tryd.prog 91 #[.agg #[.int .i64 z.off, .bool z.sum], .int .i64 t] w fun e w' => e = .returned (.tuple #[.agg #[.int .i64 0, .int .i64 0, .int .i64 0, .int .i64 0, .int .i64 0], .int .i64 1]) ∧ Below w.heap.size w w' := by
  have HZ := Lib.hid hz
  clear hz
  have hbw := Below.refl w.heap.size w
  go_enter Tryd.func91, Tryd.ntmps91
  go_wp2_with ((go_at_call 99; refine (calZone_any z _).mono ?_; rintro e w' ⟨rfl, hb⟩; obtain ⟨hc, hf⟩ := bcell hb; have hz := hb.size; (try simp only [World.size_alloc, Nat.add_one_le_iff] at hz); (try (have hz0 : w.heap.size < w'.heap.size := by omega)); (try (have hz1 : w.heap.size + 1 < w'.heap.size := by omega)); (try (have hz2 : w.heap.size < w'.heap.size := by omega)); replace hbw := below_step (w := w) (by repeat (first | exact hbw | refine below_alloc ?_ _ | refine below_drew ?_ | refine below_drewN ?_ _ | (refine below_set ?_ ?_ _; rotate_left; (first | exact Nat.le_refl _ | (simp only [World.size_alloc]; omega) | omega)))) hb; clear hb; rw [HZ.out]))
  exact bodyPost_ret (v := .tuple #[.agg #[.int .i64 0, .int .i64 0, .int .i64 0, .int .i64 0, .int .i64 0], .int .i64 1]) (by simp [results, Tryd.results91, go_sem, hc]) rfl ⟨rfl, by repeat (first | exact hbw | refine below_set ?_ (by simp) _ | refine below_alloc ?_ _ | refine below_drewN ?_ _)⟩
set_option maxRecDepth 100000 in
set_option maxHeartbeats 800000 in
theorem local_time (z : ZoneR) (t : Int) (w : World) (hz : zoneB z = true) (ht : timeB t = false) :
    Calls Tryd.prog 91 #[.agg #[.int .i64 z.off, .bool z.sum], .int .i64 t] w fun e w' => e = .returned (.tuple #[.agg #[.int .i64 0, .int .i64 0, .int .i64 0, .int .i64 0, .int .i64 0], .int .i64 2]) ∧ Below w.heap.size w w' := by
  have HZ := Lib.hid hz
  have HT := Lib.hid ht
  clear hz ht
  have hbw := Below.refl w.heap.size w
  go_enter Tryd.func91, Tryd.ntmps91
  go_wp2_with (first | (go_at_call 99; refine (calZone_any z _).mono ?_; rintro e w' ⟨rfl, hb⟩; obtain ⟨hc, hf⟩ := bcell hb; have hz := hb.size; (try simp only [World.size_alloc, Nat.add_one_le_iff] at hz); (try (have hz0 : w.heap.size < w'.heap.size := by omega)); (try (have hz1 : w.heap.size + 1 < w'.heap.size := by omega)); (try (have hz2 : w.heap.size < w'.heap.size := by omega)); replace hbw := below_step (w := w) (by repeat (first | exact hbw | refine below_alloc ?_ _ | refine below_drew ?_ | refine below_drewN ?_ _ | (refine below_set ?_ ?_ _; rotate_left; (first | exact Nat.le_refl _ | (simp only [World.size_alloc]; omega) | omega)))) hb; clear hb; rw [HZ.out]) | (go_at_call 100; refine (calTime_any _ _).mono ?_; rintro e w' ⟨rfl, rfl⟩; rw [HT.out]))
  exact bodyPost_ret (v := .tuple #[.agg #[.int .i64 0, .int .i64 0, .int .i64 0, .int .i64 0, .int .i64 0], .int .i64 2]) (by simp [results, Tryd.results91, go_sem, hc]) rfl ⟨rfl, by repeat (first | exact hbw | refine below_set ?_ (by simp) _ | refine below_alloc ?_ _ | refine below_drewN ?_ _)⟩
set_option maxRecDepth 100000 in
set_option maxHeartbeats 1600000 in
theorem local_any (z : ZoneR) (t : Int) (w : World) (hv : LenV w) (hz : zoneB z = true) (h0 : 0 ≤ t) (h1 : t ≤ 268435456) :
    Calls Tryd.prog 91 #[.agg #[.int .i64 z.off, .bool z.sum], .int .i64 t] w
      fun e w' => (∃ y m d : Int, e = .returned (.tuple #[.agg #[.int .i64 y, .int .i64 m, .int .i64 d, .int .i64 (wdF ((t + offF z t) / 1440)), .int .i64 ((t + offF z t) % 1440)], .int .i64 0])) ∧ Below w.heap.size w w' := by
  have HZ := Lib.hid hz
  have HT := Lib.hid (timeB_iff.2 ⟨h0, h1⟩)
  obtain ⟨z1, z2⟩ := zoneB_iff.1 hz
  have hob : -840 ≤ offF z t ∧ offF z t ≤ 900 := by unfold offF; split <;> omega
  clear hz
  generalize hO : offF z t = o at *
  have HO := Lib.hid hO
  clear hO
  have hbw := Below.refl w.heap.size w
  go_enter Tryd.func91, Tryd.ntmps91
  go_wp2_with (first | (go_at_call 99; refine (calZone_any z _).mono ?_; rintro e w' ⟨rfl, hb⟩; obtain ⟨hc, hf⟩ := bcell hb; have hz := hb.size; (try simp only [World.size_alloc, Nat.add_one_le_iff] at hz); (try (have hz0 : w.heap.size < w'.heap.size := by omega)); (try (have hz1 : w.heap.size + 1 < w'.heap.size := by omega)); (try (have hz2 : w.heap.size < w'.heap.size := by omega)); replace hbw := below_step (w := w) (by repeat (first | exact hbw | refine below_alloc ?_ _ | refine below_drew ?_ | refine below_drewN ?_ _ | (refine below_set ?_ ?_ _; rotate_left; (first | exact Nat.le_refl _ | (simp only [World.size_alloc]; omega) | omega)))) hb; clear hb; rw [HZ.out]) | (go_at_call 100; refine (calTime_any _ _).mono ?_; rintro e w' ⟨rfl, rfl⟩; rw [HT.out]) | (go_at_call 102; refine (offset_any z t _ (hv.below (by repeat (first | exact hbw | refine below_alloc ?_ _ | refine below_drew ?_ | refine below_drewN ?_ _))) HZ.out h0 h1).mono ?_; rintro e w' ⟨rfl, hb⟩; obtain ⟨hc, hf⟩ := bcell hb; have hz := hb.size; (try simp only [World.size_alloc, Nat.add_one_le_iff] at hz); (try (have hz0 : w.heap.size < w'.heap.size := by omega)); (try (have hz1 : w.heap.size + 1 < w'.heap.size := by omega)); (try (have hz2 : w.heap.size < w'.heap.size := by omega)); replace hbw := below_step (w := w) (by repeat (first | exact hbw | refine below_alloc ?_ _ | refine below_drew ?_ | refine below_drewN ?_ _ | (refine below_set ?_ ?_ _; rotate_left; (first | exact Nat.le_refl _ | (simp only [World.size_alloc]; omega) | omega)))) hb; clear hb; rw [HO.out]) | (go_at_call 101; refine (civil_any _ _ (hv.below (by repeat (first | exact hbw | refine below_alloc ?_ _ | refine below_drew ?_ | refine below_drewN ?_ _))) (by omega) (by omega)).mono ?_; rintro e w' ⟨⟨y, m, d, rfl⟩, hb⟩; obtain ⟨hc, hf⟩ := bcell hb; have hz := hb.size; (try simp only [World.size_alloc, Nat.add_one_le_iff] at hz); (try (have hz0 : w.heap.size < w'.heap.size := by omega)); (try (have hz1 : w.heap.size + 1 < w'.heap.size := by omega)); (try (have hz2 : w.heap.size < w'.heap.size := by omega)); replace hbw := below_step (w := w) (by repeat (first | exact hbw | refine below_alloc ?_ _ | refine below_drew ?_ | refine below_drewN ?_ _ | (refine below_set ?_ ?_ _; rotate_left; (first | exact Nat.le_refl _ | (simp only [World.size_alloc]; omega) | omega)))) hb; clear hb))
  exact bodyPost_ret (v := .tuple #[.agg #[.int .i64 y, .int .i64 m, .int .i64 d, .int .i64 (wdF ((t + o) / 1440)), .int .i64 ((t + o) % 1440)], .int .i64 0]) (by simp [results, Tryd.results91, go_sem, *]) rfl ⟨⟨y, m, d, rfl⟩, by repeat (first | exact hbw | refine below_set ?_ (by simp) _ | refine below_alloc ?_ _ | refine below_drewN ?_ _)⟩

end Go.Proofs.YtlpjniejbblcnaaDoor
