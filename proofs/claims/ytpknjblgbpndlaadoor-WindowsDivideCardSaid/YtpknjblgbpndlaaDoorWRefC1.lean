/-
  Walks: dates of the reference's calendar.
-/
import Derived.Test.YtpknjblgbpndlaaDoorWWin2
namespace Go.Proofs.YtpknjblgbpndlaaDoor
open Go.RowKit Go.Lib
set_option linter.unusedVariables false

set_option maxHeartbeats 400000 in
theorem refLeap_any (y : Int) (w : World) (h0 : 0 ≤ y) (h1 : y ≤ 10000) :
    Calls Tryd.prog 99 #[.int .i64 y] w fun e w' => e = .returned (.bool (leapB y)) ∧ w = w' := by
  go_enter Tryd.func99, Tryd.ntmps99
  go_wp2
  all_goals go_ret
  all_goals exact ⟨ret_bool (by unfold leapB; simp [*]), rfl⟩

set_option maxHeartbeats 400000 in
theorem refFirst_any (y : Int) (w : World) (h0 : 1999 ≤ y) (h1 : y ≤ 10000) :
    Calls Tryd.prog 81 #[.int .i64 y] w fun e w' => e = .returned (.int .i64 (yst y)) ∧ w = w' := by
  by_cases h : y < 2000
  · obtain rfl : y = 1999 := by omega
    go_enter Tryd.func81, Tryd.ntmps81
    go_wp2
    go_ret
    exact ⟨ret_int (by decide), rfl⟩
  · go_enter Tryd.func81, Tryd.ntmps81
    go_wp2
    go_ret
    exact ⟨ret_int (by unfold yst; omega), rfl⟩

set_option maxHeartbeats 400000 in
theorem refLength_any (y m : Int) (w : World) (h0 : 0 ≤ y) (h1 : y ≤ 10000) (h2 : 1 ≤ m) (h3 : m ≤ 12) :
    Calls Tryd.prog 82 #[.int .i64 y, .int .i64 m] w fun e w' => e = .returned (.int .i64 (dimF y m)) ∧ w = w' := by
  rcases month_cases h2 h3 with rfl | rfl | rfl | rfl | rfl | rfl | rfl | rfl | rfl | rfl | rfl | rfl
  case inr.inl =>
    cases e2 : leapB y
    all_goals
      go_enter Tryd.func82, Tryd.ntmps82
      go_wp2_with (go_at_call 99; refine (refLeap_any _ _ (by omega) (by omega)).mono ?_; rintro e w' ⟨rfl, rfl⟩; rw [e2])
      go_ret
      exact ⟨ret_int (by unfold dimF lp; simp [e2]), rfl⟩
  all_goals
    go_enter Tryd.func82, Tryd.ntmps82
    go_wp2
    go_ret
    exact ⟨ret_int (by unfold dimF; simp), rfl⟩

set_option maxRecDepth 100000 in
set_option maxHeartbeats 800000 in
theorem refOn_any (d wd : Int) (w : World) (h0 : 0 ≤ d) (h1 : d ≤ 127) (h2 : 1 ≤ wd) (h3 : wd ≤ 7) :
    Calls Tryd.prog 70 #[.int .i64 d, .int .i64 wd] w fun e w' => e = .returned (.bool (onB d wd)) ∧ w = w' := by
  by_cases hd : d = 0
  · subst hd
    go_enter Tryd.func70, Tryd.ntmps70
    go_wp2
    go_ret
    exact ⟨rfl, rfl⟩
  · have hd1 : (d == 0) = false := by simpa using hd
    have HO : Hid (onB d wd = (d == 0 || d / 2 ^ (wd - 1).toNat % 2 == 1)) := rfl
    clear hd
    have hw : wd = 1 ∨ wd = 2 ∨ wd = 3 ∨ wd = 4 ∨ wd = 5 ∨ wd = 6 ∨ wd = 7 := by omega
    clear h2 h3
    rcases hw with rfl | rfl | rfl | rfl | rfl | rfl | rfl
    all_goals
      go_enter Tryd.func70, Tryd.ntmps70
      go_wp2
      go_ret
      exact ⟨ret_bool (by rw [HO.out, hd1, bits_and1 _ (by omega) (by omega)]; first | rfl | simp), rfl⟩

theorem yst_366 (n : Int) (h : 0 ≤ n) : yst (2000 + n) ≤ 366 * n := by unfold yst; omega

/-- what the reference's date is -/
def RefDate (t : Int) (e : Ending) : Prop := ∃ y m d : Int, IsDate y m d (t / 1440) ∧ e = .returned (.agg #[.int .i64 y, .int .i64 m, .int .i64 d, .int .i64 (wdF (t / 1440)), .int .i64 (t % 1440)])

set_option maxRecDepth 100000 in
set_option maxHeartbeats 3200000 in
theorem refCivil_any (t : Int) (w : World) (h0 : -1000 ≤ t) (h1 : t ≤ 268440000) :
    Calls Tryd.prog 68 #[.int .i64 t] w fun e w' => RefDate t e ∧ Below w.heap.size w w' := by
  have HU : Hid (∀ y : Int, 3000 ≤ y → 300000 < yst y) := fun y hy => by
    rcases Int.lt_or_eq_of_le hy with h | h
    · have := yst_lt h; have e : yst 3000 = 365243 := by decide
      omega
    · subst h; decide
  have hcase : (0 ≤ t) ∨ (t < 0 ∧ Hid (t.tdiv 1440 = 0) ∧ Hid (t.tmod 1440 = t)) := by
    by_cases h : 0 ≤ t
    · exact .inl h
    · obtain ⟨s, rfl⟩ : ∃ s, t = -s := ⟨-t, by omega⟩
      have e1 : (-s).tdiv 1440 = 0 := by rw [Int.neg_tdiv, Int.tdiv_eq_ediv_of_nonneg (by omega)]; omega
      have e2 := Int.tmod_add_mul_tdiv (-s) 1440
      rw [e1] at e2
      exact .inr ⟨by omega, e1, by unfold Hid; omega⟩
  have HFIN : Hid (∀ y m d : Int, IsDate y m d (t / 1440) → RefDate t (.returned (.agg #[.int .i64 y, .int .i64 m, .int .i64 d, .int .i64 (wdF (t / 1440)), .int .i64 (t % 1440)]))) := fun y m d h => ⟨y, m, d, h, rfl⟩
  rcases hcase with hpos | ⟨hneg, HE1, HE2⟩
  · have hd0 : 0 ≤ t / 1440 := by omega
    have hd1 : t / 1440 ≤ 190000 := by omega
    have HW : Hid (((t / 1440 + 5) % 7 + 7) % 7 + 1 = wdF (t / 1440)) := by unfold Hid wdF; omega
    have hy0 := yst_366 (t / 1440 / 366) (by omega)
    have hstart : yst (2000 + t / 1440 / 366) ≤ t / 1440 := by omega
    have hq0 : 0 ≤ t / 1440 / 366 := by omega
    have hq1 : t / 1440 / 366 ≤ 600 := by omega
    clear hy0
    go_enter Tryd.func68, Tryd.ntmps68
    go_wp2
    go_loop [5] (fun y => ∃ z : Int, y = .int .i64 z ∧ 1999 ≤ z ∧ z ≤ 3000 ∧ yst z ≤ t / 1440) (fun y => (3000 - intOf y).toNat)
    case atStart => exact ⟨_, rfl, by omega, by omega, hstart⟩
    case round =>
      obtain ⟨y, rfl, z0, z1, hle⟩ := hrel
      clear hstart
      by_cases hlt : yst (y + 1) ≤ t / 1440
      · have hz : y < 2999 := by
          apply Classical.byContradiction
          intro hn
          have := HU.out (y + 1) (by omega)
          omega
        go_wp2_with (go_at_call 81; refine (refFirst_any _ _ (by omega) (by omega)).mono ?_; rintro e w' ⟨rfl, rfl⟩)
        go_round
        case rel => exact ⟨y + 1, rfl, by omega, by omega, hlt⟩
        case measure => simp [intOf]; omega
      · have hlt' : t / 1440 < yst (y + 1) := by omega
        have HYR : Hid (IsYear y (t / 1440)) := ⟨hle, hlt'⟩
        have hyb := yst_bd y (by omega) (by omega)
        have hys := yst_succ y
        have HC := Lib.hid (fun (m : Int) h1 h2 => And.intro (cum_succ (y := y) (m := m) h1 h2) (dimF_rng y m))
        have hlp := lp_01 y
        have HC12 := Lib.hid (cum_13 y)
        have hrl : t / 1440 < yst y + 365 + lp y := by omega
        clear hlt hys hlt'
        have hlt : ¬ yst (y + 1) ≤ t / 1440 := by have := HYR.out.2; omega
        go_wp2_with (go_at_call 81; refine (refFirst_any _ _ (by omega) (by omega)).mono ?_; rintro e w' ⟨rfl, rfl⟩)
        go_loop [6, 7] (fun r k => ∃ m : Int, 1 ≤ m ∧ m ≤ 12 ∧ k = .int .i64 m ∧ 0 ≤ t / 1440 - yst y - cum y m ∧ r = .int .i64 (t / 1440 - yst y - cum y m)) (fun _ k => (12 - intOf k).toNat)
        case atStart => exact ⟨1, by omega, by omega, rfl, by rw [cum_one]; omega, by rw [cum_one, Int.sub_zero]⟩
        case round =>
          obtain ⟨m, hm1, hm2, rfl, hr, rfl⟩ := hrel
          obtain ⟨hcs, hdm, hdm2⟩ := HC.out m hm1 hm2
          have hcr := cum_rng y m
          by_cases hc : dimF y m ≤ t / 1440 - yst y - cum y m
          · have hm : m < 12 := by
              rcases Int.lt_or_eq_of_le hm2 with e | e
              · exact e
              · subst e; have := HC12.out; rw [show (12 : Int) + 1 = 13 by rfl] at hcs; omega
            go_wp2_with (go_at_call 82; refine (refLength_any _ _ _ (by omega) (by omega) (by omega) (by omega)).mono ?_; rintro e w' ⟨rfl, rfl⟩)
            go_round
            case rel => exact ⟨m + 1, by omega, by omega, rfl, by rw [hcs]; omega, by rw [hcs]; go_num⟩
            case measure => simp [intOf]; omega
          · have hc' : t / 1440 - yst y - cum y m < dimF y m := by omega
            have HIS : Hid (IsDate y m (t / 1440 - yst y - cum y m + 1) (t / 1440)) := ⟨HYR.out, hm1, hm2, by omega, by omega, by omega⟩
            go_wp2_with (go_at_call 82; refine (refLength_any _ _ _ (by omega) (by omega) (by omega) (by omega)).mono ?_; rintro e w' ⟨rfl, rfl⟩)
            exact bodyPost_ret (v := .agg #[.int .i64 y, .int .i64 m, .int .i64 (t / 1440 - yst y - cum y m + 1), .int .i64 (((t / 1440 + 5) % 7 + 7) % 7 + 1), .int .i64 (t % 1440)]) (by simp [results, Tryd.results68, go_sem]) rfl ⟨by rw [HW.out]; exact HFIN.out _ _ _ HIS.out, by repeat (first | exact Below.refl _ _ | refine below_set ?_ (by simp) _ | refine below_alloc ?_ _)⟩
  · have hD : t / 1440 = -1 := by omega
    have hM : t % 1440 = t + 1440 := by omega
    rw [hD, hM] at HFIN
    have y9 : yst 1999 = -365 := by decide
    have y20 : yst 2000 = 0 := by decide
    have HC := Lib.hid (fun (m : Int) h1 h2 => And.intro (cum_succ (y := 1999) (m := m) h1 h2) (dimF_rng 1999 m))
    have HC12 : Hid (cum 1999 13 = 365) := by unfold Hid; decide
    have HYR : Hid (IsYear 1999 (-1)) := ⟨by rw [y9]; omega, by rw [show (1999 : Int) + 1 = 2000 by rfl, y20]; omega⟩
    have HW : Hid (wdF (-1) = 5) := by unfold Hid; decide
    rw [HW.out] at HFIN
    have e1 := HE1.out
    have e2 := HE2.out
    clear hD hM
    have HY9 := Lib.hid y9
    go_enter Tryd.func68, Tryd.ntmps68
    go_wp2
    go_loop [5] (fun y => y = .int .i64 1999) (fun y => 0)
    case atStart => exact rfl
    case round =>
      obtain rfl := hrel
      go_wp2_with (go_at_call 81; refine (refFirst_any _ _ (by omega) (by omega)).mono ?_; rintro e w' ⟨rfl, rfl⟩)
      go_loop [6, 7] (fun r k => ∃ m : Int, 1 ≤ m ∧ m ≤ 12 ∧ k = .int .i64 m ∧ 0 ≤ 364 - cum 1999 m ∧ r = .int .i64 (364 - cum 1999 m)) (fun _ k => (12 - intOf k).toNat)
      case atStart => exact ⟨1, by omega, by omega, rfl, by rw [cum_one]; omega, by rw [cum_one]; rfl⟩
      case round =>
        obtain ⟨m, hm1, hm2, rfl, hr, rfl⟩ := hrel
        obtain ⟨hcs, hdm, hdm2⟩ := HC.out m hm1 hm2
        have hcr := cum_rng 1999 m
        by_cases hc : dimF 1999 m ≤ 364 - cum 1999 m
        · have hm : m < 12 := by
            rcases Int.lt_or_eq_of_le hm2 with e | e
            · exact e
            · subst e; have := HC12.out; rw [show (12 : Int) + 1 = 13 by rfl] at hcs; omega
          go_wp2_with (go_at_call 82; refine (refLength_any _ _ _ (by omega) (by omega) (by omega) (by omega)).mono ?_; rintro e w' ⟨rfl, rfl⟩)
          go_round
          case rel => exact ⟨m + 1, by omega, by omega, rfl, by rw [hcs]; omega, by rw [hcs]; go_num⟩
          case measure => simp [intOf]; omega
        · have hc' : 364 - cum 1999 m < dimF 1999 m := by omega
          have HIS : Hid (IsDate 1999 m (364 - cum 1999 m + 1) (-1)) := ⟨HYR.out, hm1, hm2, by omega, by omega, by rw [HY9.out]; omega⟩
          go_wp2_with (go_at_call 82; refine (refLength_any _ _ _ (by omega) (by omega) (by omega) (by omega)).mono ?_; rintro e w' ⟨rfl, rfl⟩)
          exact bodyPost_ret (v := .agg #[.int .i64 1999, .int .i64 m, .int .i64 (364 - cum 1999 m + 1), .int .i64 5, .int .i64 (t + 1440)]) (by simp [results, Tryd.results68, go_sem]) rfl ⟨HFIN.out _ _ _ HIS.out, by repeat (first | exact Below.refl _ _ | refine below_set ?_ (by simp) _ | refine below_alloc ?_ _)⟩

end Go.Proofs.YtpknjblgbpndlaaDoor
