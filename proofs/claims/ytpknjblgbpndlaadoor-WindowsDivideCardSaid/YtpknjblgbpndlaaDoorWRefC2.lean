/-
  Walks: summer time and local dates of the reference.
-/
import Derived.Test.YtpknjblgbpndlaaDoorWRefC1
namespace Go.Proofs.YtpknjblgbpndlaaDoor
open Go.RowKit Go.Lib
set_option linter.unusedVariables false

set_option maxHeartbeats 400000 in
theorem refRight_any (t : Int) (w : World) :
    Calls Tryd.prog 52 #[.int .i64 t] w fun e w' => e = .returned (.bool (timeB t)) ∧ w = w' := by
  go_enter Tryd.func52, Tryd.ntmps52
  go_wp2
  all_goals go_ret
  all_goals exact ⟨ret_bool (by rw [Bool.eq_iff_iff, timeB_iff]; simp; omega), rfl⟩

set_option maxRecDepth 100000 in
set_option maxHeartbeats 400000 in
theorem refZone_any (z : ZoneR) (w : World) :
    Calls Tryd.prog 53 #[.agg #[.int .i64 z.off, .bool z.sum]] w fun e w' => e = .returned (.bool (zoneB z)) ∧ Below w.heap.size w w' := by
  go_enter Tryd.func53, Tryd.ntmps53
  go_wp2
  all_goals go_ret
  all_goals exact ⟨ret_bool (by rw [Bool.eq_iff_iff, zoneB_iff]; simp; omega), below_alloc (Below.refl _ _) _⟩

theorem sunR_step {d w s : Int} (h : s + 7 * ((31 - s) / 7) = sunR d w) : s + 7 + 7 * ((31 - (s + 7)) / 7) = sunR d w := by omega

set_option maxRecDepth 100000 in
set_option maxHeartbeats 1600000 in
theorem refAfter_any (y m d wd mi M : Int) (w : World) (h0 : 1 ≤ d) (h1 : d ≤ 31) (h2 : 1 ≤ wd) (h3 : wd ≤ 7) :
    Calls Tryd.prog 100 #[.agg #[.int .i64 y, .int .i64 m, .int .i64 d, .int .i64 wd, .int .i64 mi], .int .i64 M] w fun e w' => e = .returned (.bool (afterB m d wd mi M)) ∧ Below w.heap.size w w' := by
  by_cases hm : m = M
  · subst hm
    have HA : Hid (afterB m d wd mi m = (decide (sunR d wd < d) || (d == sunR d wd && decide (60 ≤ mi)))) := by unfold Hid afterB; rw [if_pos rfl]
    have HS : Hid (d - wd % 7 + 7 * ((31 - (d - wd % 7)) / 7) = sunR d wd) := rfl
    have e0 : (m != m) = false := by simp
    go_enter Tryd.func100, Tryd.ntmps100
    go_wp2
    go_loop [5] (fun r => ∃ s : Int, r = .int .i64 s ∧ -10 ≤ s ∧ s ≤ 31 ∧ Hid (s + 7 * ((31 - s) / 7) = sunR d wd)) (fun r => (31 - intOf r).toNat)
    case atStart => exact ⟨_, rfl, by omega, by omega, HS⟩
    case round =>
      obtain ⟨s, rfl, s0, s1, HR⟩ := hrel
      by_cases hc : s + 7 ≤ 31
      · have HN := Lib.hid (sunR_step HR.out)
        go_wp2
        go_round
        case rel => exact ⟨_, rfl, by omega, by omega, HN⟩
        case measure => simp [intOf]; omega
      · have hs : sunR d wd = s := by have := HR.out; omega
        rw [hs] at HA
        clear hs HS HR
        rcases Int.lt_trichotomy s d with c | c | c
        · go_wp2
          all_goals go_ret
          all_goals exact ⟨ret_bool (by rw [HA.out, Bool.eq_iff_iff]; simp; omega), below_alloc (Below.refl _ _) _⟩
        · subst c
          have c3 : ¬ s < s := by omega
          go_wp2
          all_goals go_ret
          all_goals exact ⟨ret_bool (by rw [HA.out, Bool.eq_iff_iff]; simp), below_alloc (Below.refl _ _) _⟩
        · have c2 : (d == s) = false := by simp; omega
          have c3 : ¬ s < d := by omega
          go_wp2
          all_goals go_ret
          all_goals exact ⟨ret_bool (by rw [HA.out, Bool.eq_iff_iff]; simp; omega), below_alloc (Below.refl _ _) _⟩
  · have HA : Hid (afterB m d wd mi M = decide (M < m)) := by unfold Hid afterB; rw [if_neg hm]
    have e0 : (m != M) = true := by simpa using hm
    go_enter Tryd.func100, Tryd.ntmps100
    go_wp2
    go_ret
    exact ⟨ret_bool HA.out.symm, below_alloc (Below.refl _ _) _⟩

set_option maxRecDepth 100000 in
set_option maxHeartbeats 1600000 in
theorem refSummer_any (t : Int) (w : World) (h0 : 0 ≤ t) (h1 : t ≤ 268435456) :
    Calls Tryd.prog 83 #[.int .i64 t] w fun e w' => e = .returned (.bool (sumB t)) ∧ Below w.heap.size w w' := by
  have HT := Lib.hid (timeB_iff.2 ⟨h0, h1⟩)
  have hbw := Below.refl w.heap.size w
  go_enter Tryd.func83, Tryd.ntmps83
  go_wp2_with fail
  refine (refRight_any _ _).mono ?_
  rintro e w' ⟨rfl, rfl⟩
  rw [HT.out]
  go_wp2_with fail
  refine (refCivil_any _ _ (by omega) (by omega)).mono ?_
  rintro e w1 ⟨⟨y, m, d, hd, rfl⟩, hb1⟩
  have HS := Lib.hid (sum_ref hd)
  obtain ⟨_, hm1, hm2, hd1, hd2, _⟩ := hd
  have hdm := dimF_rng y m
  have hwd := wdF_rng (t / 1440)
  generalize wdF (t / 1440) = wd at *
  generalize t % 1440 = mi at *
  generalize ha3 : afterB m d wd mi 3 = a3 at *
  generalize ha10 : afterB m d wd mi 10 = a10 at *
  have H3 := Lib.hid ha3
  have H10 := Lib.hid ha10
  clear ha3 ha10
  cases a3
  all_goals cases a10
  all_goals
    go_wp2_with fail
    refine (refAfter_any _ _ _ _ _ _ _ (by omega) (by omega) (by omega) (by omega)).mono ?_
    rintro e w' ⟨rfl, hb⟩
    rw [H3.out]
    obtain ⟨hc, hf⟩ := bcell hb
    have hz := hb.size
    (try simp only [World.size_alloc, Nat.add_one_le_iff] at hz)
    have hz9 : w1.heap.size < w'.heap.size := by omega
    replace hb1 := below_step (w := w) (by repeat (first | exact hb1 | refine below_alloc ?_ _)) hb
    clear hb
    go_wp2_with fail
    first
      | (go_ret
         exact ⟨ret_bool HS.out, hb1⟩)
      | (refine (refAfter_any _ _ _ _ _ _ _ (by omega) (by omega) (by omega) (by omega)).mono ?_
         rintro e w'' ⟨rfl, hb⟩
         rw [H10.out]
         replace hb1 := below_step (w := w) hb1 hb
         clear hb
         go_wp2_with fail
         go_ret
         exact ⟨ret_bool HS.out, hb1⟩)

set_option maxRecDepth 100000 in
set_option maxHeartbeats 800000 in
theorem refOffset_any (z : ZoneR) (t : Int) (w : World) (hz : zoneB z = true) (h0 : 0 ≤ t) (h1 : t ≤ 268435456) :
    Calls Tryd.prog 69 #[.agg #[.int .i64 z.off, .bool z.sum], .int .i64 t] w fun e w' => e = .returned (.int .i64 (offF z t)) ∧ Below w.heap.size w w' := by
  have HZ := Lib.hid hz
  obtain ⟨z1, z2⟩ := zoneB_iff.1 hz
  clear hz
  obtain ⟨zo, zs⟩ := z
  have HO : Hid (offF ⟨zo, zs⟩ t = if (zs && sumB t) = true then zo + 60 else zo) := rfl
  simp only at z1 z2
  generalize hs : sumB t = s at *
  have HS := Lib.hid hs
  clear hs
  have hbw := Below.refl w.heap.size w
  cases zs
  all_goals cases s
  all_goals
    go_enter Tryd.func69, Tryd.ntmps69
    go_wp2_with (first | (go_at_call 53; refine (refZone_any ⟨zo, _⟩ _).mono ?_; rintro e w' ⟨rfl, hb⟩; obtain ⟨hc, hf⟩ := bcell hb; have hz := hb.size; (try simp only [World.size_alloc, Nat.add_one_le_iff] at hz); (try (have hz0 : w.heap.size < w'.heap.size := by omega)); (try (have hz1 : w.heap.size + 1 < w'.heap.size := by omega)); (try (have hz2 : w.heap.size < w'.heap.size := by omega)); replace hbw := below_step (w := w) (by repeat (first | exact hbw | refine below_alloc ?_ _ | refine below_drew ?_ | refine below_drewN ?_ _ | (refine below_set ?_ ?_ _; rotate_left; (first | exact Nat.le_refl _ | (simp only [World.size_alloc]; omega) | omega)))) hb; clear hb; rw [HZ.out]) | (go_at_call 83; refine (refSummer_any _ _ (by omega) (by omega)).mono ?_; rintro e w' ⟨rfl, hb⟩; obtain ⟨hc, hf⟩ := bcell hb; have hz := hb.size; (try simp only [World.size_alloc, Nat.add_one_le_iff] at hz); (try (have hz0 : w.heap.size < w'.heap.size := by omega)); (try (have hz1 : w.heap.size + 1 < w'.heap.size := by omega)); (try (have hz2 : w.heap.size < w'.heap.size := by omega)); replace hbw := below_step (w := w) (by repeat (first | exact hbw | refine below_alloc ?_ _ | refine below_drew ?_ | refine below_drewN ?_ _ | (refine below_set ?_ ?_ _; rotate_left; (first | exact Nat.le_refl _ | (simp only [World.size_alloc]; omega) | omega)))) hb; clear hb; rw [HS.out]))
    go_ret
    exact ⟨ret_int (by rw [HO.out]; simp), hbw⟩

set_option maxRecDepth 100000 in
set_option maxHeartbeats 1600000 in
theorem refLocal_any (z : ZoneR) (t : Int) (w : World) (hz : zoneB z = true) (h0 : 0 ≤ t) (h1 : t ≤ 268435456) :
    Calls Tryd.prog 54 #[.agg #[.int .i64 z.off, .bool z.sum], .int .i64 t] w
      fun e w' => (∃ y m d : Int, e = .returned (.tuple #[.agg #[.int .i64 y, .int .i64 m, .int .i64 d, .int .i64 (wdF ((t + offF z t) / 1440)), .int .i64 ((t + offF z t) % 1440)], .int .i64 0])) ∧ Below w.heap.size w w' := by
  have HZ := Lib.hid hz
  have HT := Lib.hid (timeB_iff.2 ⟨h0, h1⟩)
  obtain ⟨z1, z2⟩ := zoneB_iff.1 hz
  have hob : -840 ≤ offF z t ∧ offF z t ≤ 900 := by unfold offF; split <;> omega
  clear hz
  generalize hO : offF z t = o at *
  have HO := Lib.hid hO
  clear hO
  have hbw := Below.refl w.heap.size w
  go_enter Tryd.func54, Tryd.ntmps54
  go_wp2_with (first | (go_at_call 53; refine (refZone_any z _).mono ?_; rintro e w' ⟨rfl, hb⟩; obtain ⟨hc, hf⟩ := bcell hb; have hz := hb.size; (try simp only [World.size_alloc, Nat.add_one_le_iff] at hz); (try (have hz0 : w.heap.size < w'.heap.size := by omega)); (try (have hz1 : w.heap.size + 1 < w'.heap.size := by omega)); (try (have hz2 : w.heap.size < w'.heap.size := by omega)); replace hbw := below_step (w := w) (by repeat (first | exact hbw | refine below_alloc ?_ _ | refine below_drew ?_ | refine below_drewN ?_ _ | (refine below_set ?_ ?_ _; rotate_left; (first | exact Nat.le_refl _ | (simp only [World.size_alloc]; omega) | omega)))) hb; clear hb; rw [HZ.out]) | (go_at_call 52; refine (refRight_any _ _).mono ?_; rintro e w' ⟨rfl, rfl⟩; rw [HT.out]) | (go_at_call 69; refine (refOffset_any z t _ HZ.out h0 h1).mono ?_; rintro e w' ⟨rfl, hb⟩; obtain ⟨hc, hf⟩ := bcell hb; have hz := hb.size; (try simp only [World.size_alloc, Nat.add_one_le_iff] at hz); (try (have hz0 : w.heap.size < w'.heap.size := by omega)); (try (have hz1 : w.heap.size + 1 < w'.heap.size := by omega)); (try (have hz2 : w.heap.size < w'.heap.size := by omega)); replace hbw := below_step (w := w) (by repeat (first | exact hbw | refine below_alloc ?_ _ | refine below_drew ?_ | refine below_drewN ?_ _ | (refine below_set ?_ ?_ _; rotate_left; (first | exact Nat.le_refl _ | (simp only [World.size_alloc]; omega) | omega)))) hb; clear hb; rw [HO.out]) | (go_at_call 68; refine (refCivil_any _ _ (by omega) (by omega)).mono ?_; rintro e w' ⟨⟨y, m, d, _, rfl⟩, hb⟩; obtain ⟨hc, hf⟩ := bcell hb; have hz := hb.size; (try simp only [World.size_alloc, Nat.add_one_le_iff] at hz); (try (have hz0 : w.heap.size < w'.heap.size := by omega)); (try (have hz1 : w.heap.size + 1 < w'.heap.size := by omega)); (try (have hz2 : w.heap.size < w'.heap.size := by omega)); replace hbw := below_step (w := w) (by repeat (first | exact hbw | refine below_alloc ?_ _ | refine below_drew ?_ | refine below_drewN ?_ _ | (refine below_set ?_ ?_ _; rotate_left; (first | exact Nat.le_refl _ | (simp only [World.size_alloc]; omega) | omega)))) hb; clear hb))
  exact bodyPost_ret (v := .tuple #[.agg #[.int .i64 y, .int .i64 m, .int .i64 d, .int .i64 (wdF ((t + o) / 1440)), .int .i64 ((t + o) % 1440)], .int .i64 0]) (by simp [results, Tryd.results54, go_sem, *]) rfl ⟨⟨y, m, d, rfl⟩, by repeat (first | exact hbw | refine below_set ?_ (by simp) _ | refine below_alloc ?_ _ | refine below_drewN ?_ _)⟩

end Go.Proofs.YtpknjblgbpndlaaDoor
