/-
  Walks: years, dates and summer time of package calendar.
-/
import Derived.Test.YtlpjniejbblcnaaDoorWCal1
import Derived.Outline
namespace Go.Proofs.YtlpjniejbblcnaaDoor
open Go.RowKit Go.Lib
set_option linter.unusedVariables false

set_option maxRecDepth 100000 in
set_option maxHeartbeats 1600000 in
theorem yearOf_any (day : Int) (w : World) (h0 : -10 ≤ day) (h1 : day ≤ 300000) :
    Calls Tryd.prog 107 #[.int .i64 day] w fun e w' => e = .returned (.int .i64 (yearF day)) ∧ ∃ n, w' = w.drewN n := by
  have HU : Hid (∀ y : Int, 3000 ≤ y → 300000 < yst y) := fun y hy => by
    rcases Int.lt_or_eq_of_le hy with h | h
    · have := yst_lt h; have e : yst 3000 = 365243 := by decide
      omega
    · subst h; decide
  have HD : Hid (∀ y : Int, y ≤ 1999 → yst y < -10) := fun y hy => by
    rcases Int.lt_or_eq_of_le hy with h | h
    · have := yst_lt h; have e : yst 1999 = -365 := by decide
      omega
    · subst h; decide
  have q0 : 0 ≤ day * 400 / 146097 + 1 := by omega
  have q1 : day * 400 / 146097 ≤ 850 := by omega
  generalize hq : day * 400 / 146097 = q at *
  have HQ := Lib.hid hq
  clear hq
  go_enter Tryd.func107, Tryd.ntmps107
  go_wp2_with (go_at_call 106; refine (divide_any _ _ _ (by omega) (by omega) (by omega) (by omega)).mono ?_; rintro e w' ⟨rfl, n', rfl⟩; rw [HQ.out])
  go_loopw [5] (fun y wr => ∃ z : Int, y = .int .i64 z ∧ 1990 ≤ z ∧ z ≤ 3000 ∧ Hid (∃ n, wr = w.drewN n)) (fun y _ => (3000 - intOf y).toNat)
  case atStart => exact ⟨_, rfl, by omega, by omega, _, rfl⟩
  case round =>
    obtain ⟨z, rfl, z0, z1, HN⟩ := hrel
    by_cases hlt : yst (z + 1) ≤ day
    · have hz : z < 2999 := by
        apply Classical.byContradiction
        intro hn
        have := HU.out (z + 1) (by omega)
        omega
      go_wp2_with (go_at_call 108; refine (yearStart_any _ _ (by omega) (by omega)).mono ?_; rintro e w' ⟨rfl, n', rfl⟩)
      go_roundw
      case rel => exact ⟨z + 1, rfl, by omega, by omega, drewN_more HN _⟩
      case measure => simp [intOf]; omega
    · have hlt' : day < yst (z + 1) := by omega
      go_wp2_with (go_at_call 108; refine (yearStart_any _ _ (by omega) (by omega)).mono ?_; rintro e w' ⟨rfl, n', rfl⟩)
      have HN2 := drewN_more HN n'
      clear HN
      go_loopw [5] (fun y wr => ∃ z : Int, y = .int .i64 z ∧ 1990 ≤ z ∧ z ≤ 3000 ∧ day < yst (z + 1) ∧ Hid (∃ n, wr = w.drewN n)) (fun y _ => (intOf y).toNat)
      case atStart => exact ⟨_, rfl, by omega, by omega, hlt', HN2⟩
      case round =>
        clear hlt hlt' HN2
        obtain ⟨z, rfl, z0, z1, hlt, HN⟩ := hrel
        by_cases hgt : day < yst z
        · have hz : 1999 < z := by
            apply Classical.byContradiction
            intro hn
            have := HD.out z (by omega)
            omega
          go_wp2_with (go_at_call 108; refine (yearStart_any _ _ (by omega) (by omega)).mono ?_; rintro e w' ⟨rfl, n', rfl⟩)
          go_roundw
          case rel => exact ⟨z - 1, rfl, by omega, by omega, by rw [show z - 1 + 1 = z by omega]; exact hgt, drewN_more HN _⟩
          case measure => simp [intOf]; omega
        · have HY := Lib.hid (yearF_of (y := z) (day := day) ⟨by omega, hlt⟩)
          have hge : yst z ≤ day := by omega
          go_wp2_with (go_at_call 108; refine (yearStart_any _ _ (by omega) (by omega)).mono ?_; rintro e w' ⟨rfl, n', rfl⟩)
          go_ret
          exact ⟨ret_int HY.out.symm, drewN_more HN _⟩

theorem yst_bd (y : Int) (h0 : 1900 ≤ y) (h1 : y ≤ 4000) : -40000 ≤ yst y ∧ yst y ≤ 740000 := by
  unfold yst; omega
theorem yearF_is2 {day : Int} (h : -365 ≤ day) : IsYear (yearF day) day := by
  by_cases h0 : 0 ≤ day
  · exact yearF_is h0
  · have e1 : yst 1999 = -365 := by decide
    have e2 : yst (1999 + 1) = 0 := by decide
    have : IsYear 1999 day := ⟨by omega, by omega⟩
    rw [yearF_of this]; exact this
theorem yearF_rng {day : Int} (h : -365 ≤ day) (h1 : day ≤ 300000) : 1999 ≤ yearF day ∧ yearF day ≤ 3000 := by
  obtain ⟨a, b⟩ := yearF_is2 h
  constructor
  · apply Classical.byContradiction
    intro hn
    have e : yst 1999 = -365 := by decide
    rcases Int.lt_or_eq_of_le (show yearF day + 1 ≤ 1999 by omega) with f | f
    · have := yst_lt f; omega
    · rw [f] at b; omega
  · apply Classical.byContradiction
    intro hn
    have e : yst 3000 = 365243 := by decide
    have := yst_lt (show 3000 < yearF day by omega)
    omega

set_option maxRecDepth 100000 in
set_option maxHeartbeats 1600000 in
theorem civil_any (t : Int) (w : World) (hv : LenV w) (h0 : -1000 ≤ t) (h1 : t ≤ 268440000) :
    Calls Tryd.prog 101 #[.int .i64 t] w fun e w' => (∃ y m d : Int, e = .returned (.agg #[.int .i64 y, .int .i64 m, .int .i64 d, .int .i64 (wdF (t / 1440)), .int .i64 (t % 1440)])) ∧ Below w.heap.size w w' := by
  have hd0 : -1 ≤ t / 1440 := by omega
  have hd1 : t / 1440 ≤ 190000 := by omega
  have hy := yearF_rng (day := t / 1440) (by omega) (by omega)
  obtain ⟨ha, hb⟩ := yearF_is2 (day := t / 1440) (by omega)
  rw [yst_succ] at hb
  have hyb := yst_bd _ (show 1900 ≤ yearF (t / 1440) by omega) (by omega)
  generalize hY : yearF (t / 1440) = y at *
  have HY := Lib.hid hY
  clear hY
  have HC := Lib.hid (fun (m : Int) h1 h2 => And.intro (cum_succ (y := y) (m := m) h1 h2) (dimF_rng y m))
  have hlp := lp_01 y
  have HC12 := Lib.hid (cum_13 y)
  go_enter Tryd.func101, Tryd.ntmps101
  go_wp2_with (first | (go_at_call 106; refine (divide_any _ _ _ (by omega) (by omega) (by omega) (by omega)).mono ?_; rintro e w' ⟨rfl, n', rfl⟩) | (go_at_call 107; refine (yearOf_any _ _ (by omega) (by omega)).mono ?_; rintro e w' ⟨rfl, n1, rfl⟩; rw [HY.out]) | (go_at_call 108; refine (yearStart_any _ _ (by omega) (by omega)).mono ?_; rintro e w' ⟨rfl, n2, rfl⟩))
  go_loop [6, 7] (fun r k => ∃ m : Int, 1 ≤ m ∧ m ≤ 12 ∧ k = .int .i64 m ∧ 0 ≤ t / 1440 - yst y - cum y m ∧ r = .int .i64 (t / 1440 - yst y - cum y m)) (fun _ k => (12 - intOf k).toNat)
  case atStart => exact ⟨1, by omega, by omega, rfl, by rw [cum_one]; omega, by rw [cum_one, Int.sub_zero]⟩
  case round =>
    obtain ⟨m, hm1, hm2, rfl, hr, rfl⟩ := hrel
    obtain ⟨hcs, hdm, hdm2⟩ := HC.out m hm1 hm2
    have hcr := cum_rng y m
    by_cases hc : dimF y m ≤ t / 1440 - yst y - cum y m
    · have hm : m < 12 := by
        rcases Int.lt_or_eq_of_le hm2 with e | e
        · exact e
        · subst e; have := HC12.out; rw [show (12 : Int) + 1 = 13 by rfl] at hcs; omega
      go_wp2_with (go_at_call 109; refine (monthDays_any _ _ _ (by repeat (first | exact hv | refine LenV.alloc ?_ _ | refine LenV.drewN ?_ _)) (by omega) (by omega) (by omega) (by omega)).mono ?_; rintro e w' ⟨rfl, rfl⟩)
      go_round
      case rel => exact ⟨m + 1, by omega, by omega, rfl, by rw [hcs]; omega, by rw [hcs]; go_num⟩
      case measure => simp [intOf]; omega
    · have hc' : t / 1440 - yst y - cum y m < dimF y m := by omega
      go_wp2_with (first | (go_at_call 109; refine (monthDays_any _ _ _ (by repeat (first | exact hv | refine LenV.alloc ?_ _ | refine LenV.drewN ?_ _)) (by omega) (by omega) (by omega) (by omega)).mono ?_; rintro e w' ⟨rfl, rfl⟩) | (go_at_call 110; refine (weekday_any _ _ (by omega) (by omega)).mono ?_; rintro e w' ⟨rfl, n3, rfl⟩))
      refine bodyPost_ret (v := .agg #[.int .i64 y, .int .i64 m, .int .i64 (t / 1440 - yst y - cum y m + 1), .int .i64 (wdF (t / 1440)), .int .i64 (t % 1440)]) (by simp [results, Tryd.results101, go_sem]) rfl ⟨⟨y, m, _, rfl⟩, ?_⟩
      repeat (first | exact Below.refl _ _ | refine below_set ?_ (by simp) _ | refine below_alloc ?_ _ | refine below_drewN ?_ _)

end Go.Proofs.YtlpjniejbblcnaaDoor
