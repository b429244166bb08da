/-
  Walks: dates of the reference's calendar.
  Walks: summer time and local dates of the reference.
  Walks: the reference's windows: Valid, Day, Holds.
  Walks: the reference's windows: candidates.
  Walks: the reference's next change of a window.
-/
import Derived.Test.YtmappmeojmdekaaGreatDoorM6
import Derived.Test.YtmappmeojmdekaaGreatDoorM7
import Derived.Test.YtmappmeojmdekaaGreatDoorM1
import Derived.Test.YtmappmeojmdekaaGreatDoorM4
import Derived.Test.YtmappmeojmdekaaGreatDoorM3
import Derived.Deep.DeepCutAuto
import Derived.Outline

namespace Go.Proofs.YtmappmeojmdekaaGreatDoor
open Go.RowKit Go.Lib
set_option linter.unusedVariables false

set_option maxHeartbeats 400000 in
theorem refLeap_any (y : Int) (w : World) (h0 : 0 ≤ y) (h1 : y ≤ 10000) :
    Calls Tryz.prog 150 #[.int .i64 y] w fun e w' => e = .returned (.bool (leapB y)) ∧ w = w' := by
  go_enter Tryz.func150, Tryz.ntmps150
  go_wp2
  all_goals go_ret
  all_goals exact ⟨ret_bool (by unfold leapB; simp [*]), rfl⟩

set_option maxHeartbeats 400000 in
theorem refFirst_any (y : Int) (w : World) (h0 : 1999 ≤ y) (h1 : y ≤ 10000) :
    Calls Tryz.prog 130 #[.int .i64 y] w fun e w' => e = .returned (.int .i64 (yst y)) ∧ w = w' := by
  by_cases h : y < 2000
  · obtain rfl : y = 1999 := by omega
    go_enter Tryz.func130, Tryz.ntmps130
    go_wp2
    go_ret
    exact ⟨ret_int (by decide), rfl⟩
  · go_enter Tryz.func130, Tryz.ntmps130
    go_wp2
    go_ret
    exact ⟨ret_int (by unfold yst; omega), rfl⟩

set_option maxHeartbeats 400000 in
theorem refLength_any (y m : Int) (w : World) (h0 : 0 ≤ y) (h1 : y ≤ 10000) (h2 : 1 ≤ m) (h3 : m ≤ 12) :
    Calls Tryz.prog 131 #[.int .i64 y, .int .i64 m] w fun e w' => e = .returned (.int .i64 (dimF y m)) ∧ w = w' := by
  rcases month_cases h2 h3 with rfl | rfl | rfl | rfl | rfl | rfl | rfl | rfl | rfl | rfl | rfl | rfl
  case inr.inl =>
    cases e2 : leapB y
    all_goals
      go_enter Tryz.func131, Tryz.ntmps131
      go_wp2_with (go_at_call 150; refine (refLeap_any _ _ (by omega) (by omega)).mono ?_; rintro e w' ⟨rfl, rfl⟩; rw [e2])
      go_ret
      exact ⟨ret_int (by unfold dimF lp; simp [e2]), rfl⟩
  all_goals
    go_enter Tryz.func131, Tryz.ntmps131
    go_wp2
    go_ret
    exact ⟨ret_int (by unfold dimF; simp), rfl⟩

set_option maxRecDepth 100000 in
set_option maxHeartbeats 800000 in
theorem refOn_any (d wd : Int) (w : World) (h0 : 0 ≤ d) (h1 : d ≤ 127) (h2 : 1 ≤ wd) (h3 : wd ≤ 7) :
    Calls Tryz.prog 108 #[.int .i64 d, .int .i64 wd] w fun e w' => e = .returned (.bool (onB d wd)) ∧ w = w' := by
  by_cases hd : d = 0
  · subst hd
    go_enter Tryz.func108, Tryz.ntmps108
    go_wp2
    go_ret
    exact ⟨rfl, rfl⟩
  · have hd1 : (d == 0) = false := by simpa using hd
    have HO : Hid (onB d wd = (d == 0 || d / 2 ^ (wd - 1).toNat % 2 == 1)) := rfl
    clear hd
    have hw : wd = 1 ∨ wd = 2 ∨ wd = 3 ∨ wd = 4 ∨ wd = 5 ∨ wd = 6 ∨ wd = 7 := by omega
    clear h2 h3
    rcases hw with rfl | rfl | rfl | rfl | rfl | rfl | rfl
    all_goals
      go_enter Tryz.func108, Tryz.ntmps108
      go_wp2
      go_ret
      exact ⟨ret_bool (by rw [HO.out, hd1, bits_and1 _ (by omega) (by omega)]; first | rfl | simp), rfl⟩

theorem yst_366 (n : Int) (h : 0 ≤ n) : yst (2000 + n) ≤ 366 * n := by unfold yst; omega

/-- what the reference's date is -/
def RefDate (t : Int) (e : Ending) : Prop := ∃ y m d : Int, IsDate y m d (t / 1440) ∧ e = .returned (.agg #[.int .i64 y, .int .i64 m, .int .i64 d, .int .i64 (wdF (t / 1440)), .int .i64 (t % 1440)])

set_option maxRecDepth 100000 in
set_option maxHeartbeats 3200000 in
theorem refCivil_any (t : Int) (w : World) (h0 : -1000 ≤ t) (h1 : t ≤ 268440000) :
    Calls Tryz.prog 106 #[.int .i64 t] w fun e w' => RefDate t e ∧ Below w.heap.size w w' := by
  have HU : Hid (∀ y : Int, 3000 ≤ y → 300000 < yst y) := fun y hy => by
    rcases Int.lt_or_eq_of_le hy with h | h
    · have := yst_lt h; have e : yst 3000 = 365243 := by decide
      omega
    · subst h; decide
  have hcase : (0 ≤ t) ∨ (t < 0 ∧ Hid (t.tdiv 1440 = 0) ∧ Hid (t.tmod 1440 = t)) := by
    by_cases h : 0 ≤ t
    · exact .inl h
    · obtain ⟨s, rfl⟩ : ∃ s, t = -s := ⟨-t, by omega⟩
      have e1 : (-s).tdiv 1440 = 0 := by rw [Int.neg_tdiv, Int.tdiv_eq_ediv_of_nonneg (by omega)]; omega
      have e2 := Int.tmod_add_mul_tdiv (-s) 1440
      rw [e1] at e2
      exact .inr ⟨by omega, e1, by unfold Hid; omega⟩
  have HFIN : Hid (∀ y m d : Int, IsDate y m d (t / 1440) → RefDate t (.returned (.agg #[.int .i64 y, .int .i64 m, .int .i64 d, .int .i64 (wdF (t / 1440)), .int .i64 (t % 1440)]))) := fun y m d h => ⟨y, m, d, h, rfl⟩
  rcases hcase with hpos | ⟨hneg, HE1, HE2⟩
  · have hd0 : 0 ≤ t / 1440 := by omega
    have hd1 : t / 1440 ≤ 190000 := by omega
    have HW : Hid (((t / 1440 + 5) % 7 + 7) % 7 + 1 = wdF (t / 1440)) := by unfold Hid wdF; omega
    have hy0 := yst_366 (t / 1440 / 366) (by omega)
    have hstart : yst (2000 + t / 1440 / 366) ≤ t / 1440 := by omega
    have hq0 : 0 ≤ t / 1440 / 366 := by omega
    have hq1 : t / 1440 / 366 ≤ 600 := by omega
    clear hy0
    go_enter Tryz.func106, Tryz.ntmps106
    go_wp2
    go_loop [5] (fun y => ∃ z : Int, y = .int .i64 z ∧ 1999 ≤ z ∧ z ≤ 3000 ∧ yst z ≤ t / 1440) (fun y => (3000 - intOf y).toNat)
    case atStart => exact ⟨_, rfl, by omega, by omega, hstart⟩
    case round =>
      obtain ⟨y, rfl, z0, z1, hle⟩ := hrel
      clear hstart
      by_cases hlt : yst (y + 1) ≤ t / 1440
      · have hz : y < 2999 := by
          apply Classical.byContradiction
          intro hn
          have := HU.out (y + 1) (by omega)
          omega
        go_wp2_with (go_at_call 130; refine (refFirst_any _ _ (by omega) (by omega)).mono ?_; rintro e w' ⟨rfl, rfl⟩)
        go_round
        case rel => exact ⟨y + 1, rfl, by omega, by omega, hlt⟩
        case measure => simp [intOf]; omega
      · have hlt' : t / 1440 < yst (y + 1) := by omega
        have HYR : Hid (IsYear y (t / 1440)) := ⟨hle, hlt'⟩
        have hyb := yst_bd y (by omega) (by omega)
        have hys := yst_succ y
        have HC := Lib.hid (fun (m : Int) h1 h2 => And.intro (cum_succ (y := y) (m := m) h1 h2) (dimF_rng y m))
        have hlp := lp_01 y
        have HC12 := Lib.hid (cum_13 y)
        have hrl : t / 1440 < yst y + 365 + lp y := by omega
        clear hlt hys hlt'
        have hlt : ¬ yst (y + 1) ≤ t / 1440 := by have := HYR.out.2; omega
        go_wp2_with (go_at_call 130; refine (refFirst_any _ _ (by omega) (by omega)).mono ?_; rintro e w' ⟨rfl, rfl⟩)
        go_loop [6, 7] (fun r k => ∃ m : Int, 1 ≤ m ∧ m ≤ 12 ∧ k = .int .i64 m ∧ 0 ≤ t / 1440 - yst y - cum y m ∧ r = .int .i64 (t / 1440 - yst y - cum y m)) (fun _ k => (12 - intOf k).toNat)
        case atStart => exact ⟨1, by omega, by omega, rfl, by rw [cum_one]; omega, by rw [cum_one, Int.sub_zero]⟩
        case round =>
          obtain ⟨m, hm1, hm2, rfl, hr, rfl⟩ := hrel
          obtain ⟨hcs, hdm, hdm2⟩ := HC.out m hm1 hm2
          have hcr := cum_rng y m
          by_cases hc : dimF y m ≤ t / 1440 - yst y - cum y m
          · have hm : m < 12 := by
              rcases Int.lt_or_eq_of_le hm2 with e | e
              · exact e
              · subst e; have := HC12.out; rw [show (12 : Int) + 1 = 13 by rfl] at hcs; omega
            go_wp2_with (go_at_call 131; refine (refLength_any _ _ _ (by omega) (by omega) (by omega) (by omega)).mono ?_; rintro e w' ⟨rfl, rfl⟩)
            go_round
            case rel => exact ⟨m + 1, by omega, by omega, rfl, by rw [hcs]; omega, by rw [hcs]; go_num⟩
            case measure => simp [intOf]; omega
          · have hc' : t / 1440 - yst y - cum y m < dimF y m := by omega
            have HIS : Hid (IsDate y m (t / 1440 - yst y - cum y m + 1) (t / 1440)) := ⟨HYR.out, hm1, hm2, by omega, by omega, by omega⟩
            go_wp2_with (go_at_call 131; refine (refLength_any _ _ _ (by omega) (by omega) (by omega) (by omega)).mono ?_; rintro e w' ⟨rfl, rfl⟩)
            exact bodyPost_ret (v := .agg #[.int .i64 y, .int .i64 m, .int .i64 (t / 1440 - yst y - cum y m + 1), .int .i64 (((t / 1440 + 5) % 7 + 7) % 7 + 1), .int .i64 (t % 1440)]) (by simp [results, Tryz.results106, go_sem]) rfl ⟨by rw [HW.out]; exact HFIN.out _ _ _ HIS.out, by repeat (first | exact Below.refl _ _ | refine below_set ?_ (by simp) _ | refine below_alloc ?_ _)⟩
  · have hD : t / 1440 = -1 := by omega
    have hM : t % 1440 = t + 1440 := by omega
    rw [hD, hM] at HFIN
    have y9 : yst 1999 = -365 := by decide
    have y20 : yst 2000 = 0 := by decide
    have HC := Lib.hid (fun (m : Int) h1 h2 => And.intro (cum_succ (y := 1999) (m := m) h1 h2) (dimF_rng 1999 m))
    have HC12 : Hid (cum 1999 13 = 365) := by unfold Hid; decide
    have HYR : Hid (IsYear 1999 (-1)) := ⟨by rw [y9]; omega, by rw [show (1999 : Int) + 1 = 2000 by rfl, y20]; omega⟩
    have HW : Hid (wdF (-1) = 5) := by unfold Hid; decide
    rw [HW.out] at HFIN
    have e1 := HE1.out
    have e2 := HE2.out
    clear hD hM
    have HY9 := Lib.hid y9
    go_enter Tryz.func106, Tryz.ntmps106
    go_wp2
    go_loop [5] (fun y => y = .int .i64 1999) (fun y => 0)
    case atStart => exact rfl
    case round =>
      obtain rfl := hrel
      go_wp2_with (go_at_call 130; refine (refFirst_any _ _ (by omega) (by omega)).mono ?_; rintro e w' ⟨rfl, rfl⟩)
      go_loop [6, 7] (fun r k => ∃ m : Int, 1 ≤ m ∧ m ≤ 12 ∧ k = .int .i64 m ∧ 0 ≤ 364 - cum 1999 m ∧ r = .int .i64 (364 - cum 1999 m)) (fun _ k => (12 - intOf k).toNat)
      case atStart => exact ⟨1, by omega, by omega, rfl, by rw [cum_one]; omega, by rw [cum_one]; rfl⟩
      case round =>
        obtain ⟨m, hm1, hm2, rfl, hr, rfl⟩ := hrel
        obtain ⟨hcs, hdm, hdm2⟩ := HC.out m hm1 hm2
        have hcr := cum_rng 1999 m
        by_cases hc : dimF 1999 m ≤ 364 - cum 1999 m
        · have hm : m < 12 := by
            rcases Int.lt_or_eq_of_le hm2 with e | e
            · exact e
            · subst e; have := HC12.out; rw [show (12 : Int) + 1 = 13 by rfl] at hcs; omega
          go_wp2_with (go_at_call 131; refine (refLength_any _ _ _ (by omega) (by omega) (by omega) (by omega)).mono ?_; rintro e w' ⟨rfl, rfl⟩)
          go_round
          case rel => exact ⟨m + 1, by omega, by omega, rfl, by rw [hcs]; omega, by rw [hcs]; go_num⟩
          case measure => simp [intOf]; omega
        · have hc' : 364 - cum 1999 m < dimF 1999 m := by omega
          have HIS : Hid (IsDate 1999 m (364 - cum 1999 m + 1) (-1)) := ⟨HYR.out, hm1, hm2, by omega, by omega, by rw [HY9.out]; omega⟩
          go_wp2_with (go_at_call 131; refine (refLength_any _ _ _ (by omega) (by omega) (by omega) (by omega)).mono ?_; rintro e w' ⟨rfl, rfl⟩)
          exact bodyPost_ret (v := .agg #[.int .i64 1999, .int .i64 m, .int .i64 (364 - cum 1999 m + 1), .int .i64 5, .int .i64 (t + 1440)]) (by simp [results, Tryz.results106, go_sem]) rfl ⟨HFIN.out _ _ _ HIS.out, by repeat (first | exact Below.refl _ _ | refine below_set ?_ (by simp) _ | refine below_alloc ?_ _)⟩

end Go.Proofs.YtmappmeojmdekaaGreatDoor

namespace Go.Proofs.YtmappmeojmdekaaGreatDoor
open Go.RowKit Go.Lib
set_option linter.unusedVariables false

set_option maxHeartbeats 400000 in
theorem refRight_any (t : Int) (w : World) :
    Calls Tryz.prog 22 #[.int .i64 t] w fun e w' => e = .returned (.bool (timeB t)) ∧ w = w' := by
  go_enter Tryz.func22, Tryz.ntmps22
  go_wp2
  all_goals go_ret
  all_goals exact ⟨ret_bool (by rw [Bool.eq_iff_iff, timeB_iff]; simp; omega), rfl⟩

set_option maxRecDepth 100000 in
set_option maxHeartbeats 400000 in
theorem refZone_any (z : ZoneR) (w : World) :
    Calls Tryz.prog 31 #[.agg #[.int .i64 z.off, .bool z.sum]] w fun e w' => e = .returned (.bool (zoneB z)) ∧ Below w.heap.size w w' := by
  go_enter Tryz.func31, Tryz.ntmps31
  go_wp2
  all_goals go_ret
  all_goals exact ⟨ret_bool (by rw [Bool.eq_iff_iff, zoneB_iff]; simp; omega), below_alloc (Below.refl _ _) _⟩

theorem sunR_step {d w s : Int} (h : s + 7 * ((31 - s) / 7) = sunR d w) : s + 7 + 7 * ((31 - (s + 7)) / 7) = sunR d w := by omega

set_option maxRecDepth 100000 in
set_option maxHeartbeats 1600000 in
theorem refAfter_any (y m d wd mi M : Int) (w : World) (h0 : 1 ≤ d) (h1 : d ≤ 31) (h2 : 1 ≤ wd) (h3 : wd ≤ 7) :
    Calls Tryz.prog 151 #[.agg #[.int .i64 y, .int .i64 m, .int .i64 d, .int .i64 wd, .int .i64 mi], .int .i64 M] w fun e w' => e = .returned (.bool (afterB m d wd mi M)) ∧ Below w.heap.size w w' := by
  by_cases hm : m = M
  · subst hm
    have HA : Hid (afterB m d wd mi m = (decide (sunR d wd < d) || (d == sunR d wd && decide (60 ≤ mi)))) := by unfold Hid afterB; rw [if_pos rfl]
    have HS : Hid (d - wd % 7 + 7 * ((31 - (d - wd % 7)) / 7) = sunR d wd) := rfl
    have e0 : (m != m) = false := by simp
    go_enter Tryz.func151, Tryz.ntmps151
    go_wp2
    go_loop [5] (fun r => ∃ s : Int, r = .int .i64 s ∧ -10 ≤ s ∧ s ≤ 31 ∧ Hid (s + 7 * ((31 - s) / 7) = sunR d wd)) (fun r => (31 - intOf r).toNat)
    case atStart => exact ⟨_, rfl, by omega, by omega, HS⟩
    case round =>
      obtain ⟨s, rfl, s0, s1, HR⟩ := hrel
      by_cases hc : s + 7 ≤ 31
      · have HN := Lib.hid (sunR_step HR.out)
        go_wp2
        go_round
        case rel => exact ⟨_, rfl, by omega, by omega, HN⟩
        case measure => simp [intOf]; omega
      · have hs : sunR d wd = s := by have := HR.out; omega
        rw [hs] at HA
        clear hs HS HR
        rcases Int.lt_trichotomy s d with c | c | c
        · go_wp2
          all_goals go_ret
          all_goals exact ⟨ret_bool (by rw [HA.out, Bool.eq_iff_iff]; simp; omega), below_alloc (Below.refl _ _) _⟩
        · subst c
          have c3 : ¬ s < s := by omega
          go_wp2
          all_goals go_ret
          all_goals exact ⟨ret_bool (by rw [HA.out, Bool.eq_iff_iff]; simp), below_alloc (Below.refl _ _) _⟩
        · have c2 : (d == s) = false := by simp; omega
          have c3 : ¬ s < d := by omega
          go_wp2
          all_goals go_ret
          all_goals exact ⟨ret_bool (by rw [HA.out, Bool.eq_iff_iff]; simp; omega), below_alloc (Below.refl _ _) _⟩
  · have HA : Hid (afterB m d wd mi M = decide (M < m)) := by unfold Hid afterB; rw [if_neg hm]
    have e0 : (m != M) = true := by simpa using hm
    go_enter Tryz.func151, Tryz.ntmps151
    go_wp2
    go_ret
    exact ⟨ret_bool HA.out.symm, below_alloc (Below.refl _ _) _⟩

set_option maxRecDepth 100000 in
set_option maxHeartbeats 1600000 in
theorem refSummer_any (t : Int) (w : World) (h0 : 0 ≤ t) (h1 : t ≤ 268435456) :
    Calls Tryz.prog 132 #[.int .i64 t] w fun e w' => e = .returned (.bool (sumB t)) ∧ Below w.heap.size w w' := by
  have HT := Lib.hid (timeB_iff.2 ⟨h0, h1⟩)
  have hbw := Below.refl w.heap.size w
  go_enter Tryz.func132, Tryz.ntmps132
  go_wp2_with fail
  refine (refRight_any _ _).mono ?_
  rintro e w' ⟨rfl, rfl⟩
  rw [HT.out]
  go_wp2_with fail
  refine (refCivil_any _ _ (by omega) (by omega)).mono ?_
  rintro e w1 ⟨⟨y, m, d, hd, rfl⟩, hb1⟩
  have HS := Lib.hid (sum_ref hd)
  obtain ⟨_, hm1, hm2, hd1, hd2, _⟩ := hd
  have hdm := dimF_rng y m
  have hwd := wdF_rng (t / 1440)
  generalize wdF (t / 1440) = wd at *
  generalize t % 1440 = mi at *
  generalize ha3 : afterB m d wd mi 3 = a3 at *
  generalize ha10 : afterB m d wd mi 10 = a10 at *
  have H3 := Lib.hid ha3
  have H10 := Lib.hid ha10
  clear ha3 ha10
  cases a3
  all_goals cases a10
  all_goals
    go_wp2_with fail
    refine (refAfter_any _ _ _ _ _ _ _ (by omega) (by omega) (by omega) (by omega)).mono ?_
    rintro e w' ⟨rfl, hb⟩
    rw [H3.out]
    obtain ⟨hc, hf⟩ := bcell hb
    have hz := hb.size
    (try simp only [World.size_alloc, Nat.add_one_le_iff] at hz)
    have hz9 : w1.heap.size < w'.heap.size := by omega
    replace hb1 := below_step (w := w) (by repeat (first | exact hb1 | refine below_alloc ?_ _)) hb
    clear hb
    go_wp2_with fail
    first
      | (go_ret
         exact ⟨ret_bool HS.out, hb1⟩)
      | (refine (refAfter_any _ _ _ _ _ _ _ (by omega) (by omega) (by omega) (by omega)).mono ?_
         rintro e w'' ⟨rfl, hb⟩
         rw [H10.out]
         replace hb1 := below_step (w := w) hb1 hb
         clear hb
         go_wp2_with fail
         go_ret
         exact ⟨ret_bool HS.out, hb1⟩)

set_option maxRecDepth 100000 in
set_option maxHeartbeats 800000 in
theorem refOffset_any (z : ZoneR) (t : Int) (w : World) (hz : zoneB z = true) (h0 : 0 ≤ t) (h1 : t ≤ 268435456) :
    Calls Tryz.prog 107 #[.agg #[.int .i64 z.off, .bool z.sum], .int .i64 t] w fun e w' => e = .returned (.int .i64 (offF z t)) ∧ Below w.heap.size w w' := by
  have HZ := Lib.hid hz
  obtain ⟨z1, z2⟩ := zoneB_iff.1 hz
  clear hz
  obtain ⟨zo, zs⟩ := z
  have HO : Hid (offF ⟨zo, zs⟩ t = if (zs && sumB t) = true then zo + 60 else zo) := rfl
  simp only at z1 z2
  generalize hs : sumB t = s at *
  have HS := Lib.hid hs
  clear hs
  have hbw := Below.refl w.heap.size w
  cases zs
  all_goals cases s
  all_goals
    go_enter Tryz.func107, Tryz.ntmps107
    go_wp2_with (first | (go_at_call 31; refine (refZone_any ⟨zo, _⟩ _).mono ?_; rintro e w' ⟨rfl, hb⟩; obtain ⟨hc, hf⟩ := bcell hb; have hz := hb.size; (try simp only [World.size_alloc, Nat.add_one_le_iff] at hz); (try (have hz0 : w.heap.size < w'.heap.size := by omega)); (try (have hz1 : w.heap.size + 1 < w'.heap.size := by omega)); (try (have hz2 : w.heap.size < w'.heap.size := by omega)); replace hbw := below_step (w := w) (by repeat (first | exact hbw | refine below_alloc ?_ _ | refine below_drew ?_ | refine below_drewN ?_ _ | (refine below_set ?_ ?_ _; rotate_left; (first | exact Nat.le_refl _ | (simp only [World.size_alloc]; omega) | omega)))) hb; clear hb; rw [HZ.out]) | (go_at_call 132; refine (refSummer_any _ _ (by omega) (by omega)).mono ?_; rintro e w' ⟨rfl, hb⟩; obtain ⟨hc, hf⟩ := bcell hb; have hz := hb.size; (try simp only [World.size_alloc, Nat.add_one_le_iff] at hz); (try (have hz0 : w.heap.size < w'.heap.size := by omega)); (try (have hz1 : w.heap.size + 1 < w'.heap.size := by omega)); (try (have hz2 : w.heap.size < w'.heap.size := by omega)); replace hbw := below_step (w := w) (by repeat (first | exact hbw | refine below_alloc ?_ _ | refine below_drew ?_ | refine below_drewN ?_ _ | (refine below_set ?_ ?_ _; rotate_left; (first | exact Nat.le_refl _ | (simp only [World.size_alloc]; omega) | omega)))) hb; clear hb; rw [HS.out]))
    go_ret
    exact ⟨ret_int (by rw [HO.out]; simp), hbw⟩

set_option maxRecDepth 100000 in
set_option maxHeartbeats 1600000 in
theorem refLocal_any (z : ZoneR) (t : Int) (w : World) (hz : zoneB z = true) (h0 : 0 ≤ t) (h1 : t ≤ 268435456) :
    Calls Tryz.prog 89 #[.agg #[.int .i64 z.off, .bool z.sum], .int .i64 t] w
      fun e w' => (∃ y m d : Int, e = .returned (.tuple #[.agg #[.int .i64 y, .int .i64 m, .int .i64 d, .int .i64 (wdF ((t + offF z t) / 1440)), .int .i64 ((t + offF z t) % 1440)], .int .i64 0])) ∧ Below w.heap.size w w' := by
  have HZ := Lib.hid hz
  have HT := Lib.hid (timeB_iff.2 ⟨h0, h1⟩)
  obtain ⟨z1, z2⟩ := zoneB_iff.1 hz
  have hob : -840 ≤ offF z t ∧ offF z t ≤ 900 := by unfold offF; split <;> omega
  clear hz
  generalize hO : offF z t = o at *
  have HO := Lib.hid hO
  clear hO
  have hbw := Below.refl w.heap.size w
  go_enter Tryz.func89, Tryz.ntmps89
  go_wp2_with (first | (go_at_call 31; refine (refZone_any z _).mono ?_; rintro e w' ⟨rfl, hb⟩; obtain ⟨hc, hf⟩ := bcell hb; have hz := hb.size; (try simp only [World.size_alloc, Nat.add_one_le_iff] at hz); (try (have hz0 : w.heap.size < w'.heap.size := by omega)); (try (have hz1 : w.heap.size + 1 < w'.heap.size := by omega)); (try (have hz2 : w.heap.size < w'.heap.size := by omega)); replace hbw := below_step (w := w) (by repeat (first | exact hbw | refine below_alloc ?_ _ | refine below_drew ?_ | refine below_drewN ?_ _ | (refine below_set ?_ ?_ _; rotate_left; (first | exact Nat.le_refl _ | (simp only [World.size_alloc]; omega) | omega)))) hb; clear hb; rw [HZ.out]) | (go_at_call 22; refine (refRight_any _ _).mono ?_; rintro e w' ⟨rfl, rfl⟩; rw [HT.out]) | (go_at_call 107; refine (refOffset_any z t _ HZ.out h0 h1).mono ?_; rintro e w' ⟨rfl, hb⟩; obtain ⟨hc, hf⟩ := bcell hb; have hz := hb.size; (try simp only [World.size_alloc, Nat.add_one_le_iff] at hz); (try (have hz0 : w.heap.size < w'.heap.size := by omega)); (try (have hz1 : w.heap.size + 1 < w'.heap.size := by omega)); (try (have hz2 : w.heap.size < w'.heap.size := by omega)); replace hbw := below_step (w := w) (by repeat (first | exact hbw | refine below_alloc ?_ _ | refine below_drew ?_ | refine below_drewN ?_ _ | (refine below_set ?_ ?_ _; rotate_left; (first | exact Nat.le_refl _ | (simp only [World.size_alloc]; omega) | omega)))) hb; clear hb; rw [HO.out]) | (go_at_call 106; refine (refCivil_any _ _ (by omega) (by omega)).mono ?_; rintro e w' ⟨⟨y, m, d, _, rfl⟩, hb⟩; obtain ⟨hc, hf⟩ := bcell hb; have hz := hb.size; (try simp only [World.size_alloc, Nat.add_one_le_iff] at hz); (try (have hz0 : w.heap.size < w'.heap.size := by omega)); (try (have hz1 : w.heap.size + 1 < w'.heap.size := by omega)); (try (have hz2 : w.heap.size < w'.heap.size := by omega)); replace hbw := below_step (w := w) (by repeat (first | exact hbw | refine below_alloc ?_ _ | refine below_drew ?_ | refine below_drewN ?_ _ | (refine below_set ?_ ?_ _; rotate_left; (first | exact Nat.le_refl _ | (simp only [World.size_alloc]; omega) | omega)))) hb; clear hb))
  exact bodyPost_ret (v := .tuple #[.agg #[.int .i64 y, .int .i64 m, .int .i64 d, .int .i64 (wdF ((t + o) / 1440)), .int .i64 ((t + o) % 1440)], .int .i64 0]) (by simp [results, Tryz.results89, go_sem, *]) rfl ⟨⟨y, m, d, rfl⟩, by repeat (first | exact hbw | refine below_set ?_ (by simp) _ | refine below_alloc ?_ _ | refine below_drewN ?_ _)⟩

end Go.Proofs.YtmappmeojmdekaaGreatDoor

namespace Go.Proofs.YtmappmeojmdekaaGreatDoor
open Go.RowKit Go.Lib
set_option linter.unusedVariables false

set_option maxRecDepth 100000 in
set_option maxHeartbeats 1600000 in
theorem refValid_any (W : WinR) (w : World) :
    Calls Tryz.prog 52 #[.agg #[.int .i64 W.dy, .int .i64 W.st, .int .i64 W.en, .int .i64 W.fr, .int .i64 W.to]] w fun e w' => e = .returned (.int .i64 (winE W)) ∧ Below w.heap.size w w' := by
  cases htf : timeB W.fr with
  | false =>
    have HT := Lib.hid htf
    have hn : W.fr < 0 ∨ 268435456 < W.fr := by
      apply Classical.byContradiction
      intro hc
      rw [timeB_iff.2 (by omega)] at htf
      cases htf
    have HN := Lib.hid (winE_no (W := W) (by rintro ⟨_, _, _, _, _, _, _, _, _⟩; omega))
    clear htf hn
    go_enter Tryz.func52, Tryz.ntmps52
    go_wp2_with (go_at_call 22; refine (refRight_any _ _).mono ?_; rintro e w' ⟨rfl, rfl⟩; rw [HT.out])
    all_goals go_ret
    all_goals exact ⟨ret_int HN.out.symm, below_alloc (Below.refl _ _) _⟩
  | true =>
    have HT := Lib.hid htf
    obtain ⟨f0, f1⟩ := timeB_iff.1 htf
    clear htf
    go_enter Tryz.func52, Tryz.ntmps52
    go_wp2_with (go_at_call 22; refine (refRight_any _ _).mono ?_; rintro e w' ⟨rfl, rfl⟩; rw [HT.out])
    all_goals go_ret
    all_goals first
      | exact ⟨ret_int (winE_no (by rintro ⟨_, _, _, _, _, _, _, _, _⟩; (try simp at *); omega)).symm, below_alloc (Below.refl _ _) _⟩
      | exact ⟨ret_int (winE_ok (by constructor <;> ((try simp at *); omega))).symm, below_alloc (Below.refl _ _) _⟩

set_option maxRecDepth 100000 in
set_option maxHeartbeats 1600000 in
theorem refDay_any (dy s e y mo d wd m : Int) (w : World) (d0 : 0 ≤ dy) (d1 : dy ≤ 127) (hwd1 : 1 ≤ wd) (hwd2 : wd ≤ 7) :
    Calls Tryz.prog 90 #[.int .i64 dy, .int .i64 s, .int .i64 e, .agg #[.int .i64 y, .int .i64 mo, .int .i64 d, .int .i64 wd, .int .i64 m]] w
      fun e' w' => e' = .returned (.bool (dayB dy s e wd m)) ∧ Below w.heap.size w w' := by
  generalize hb1 : onB dy wd = b1 at *
  generalize hb2 : onB dy ((wd + 5) % 7 + 1) = b2 at *
  have HB1 := Lib.hid hb1
  have HB2 := Lib.hid hb2
  have HD : Hid (dayB dy s e wd m = if s = e then b1 else if s < e then b1 && (decide (s ≤ m) && decide (m < e)) else (b1 && decide (s ≤ m)) || (b2 && decide (m < e))) := by
    unfold Hid dayB; rw [hb1, hb2]
  clear hb1 hb2
  rcases Int.lt_trichotomy s e with c | c | c
  · have c2 : (s == e) = false := by simp; omega
    cases b1
    all_goals
      go_enter Tryz.func90, Tryz.ntmps90
      go_wp2_with (go_at_call 108; refine (refOn_any _ _ _ d0 d1 (by omega) (by omega)).mono ?_; rintro e' w' ⟨rfl, rfl⟩; rw [HB1.out])
      all_goals go_ret
      all_goals exact ⟨ret_bool (by rw [HD.out, if_neg (by omega), if_pos c]; simp; try omega), below_alloc (Below.refl _ _) _⟩
  · subst c
    go_enter Tryz.func90, Tryz.ntmps90
    go_wp2_with (go_at_call 108; refine (refOn_any _ _ _ d0 d1 (by omega) (by omega)).mono ?_; rintro e' w' ⟨rfl, rfl⟩; rw [HB1.out])
    all_goals go_ret
    all_goals exact ⟨ret_bool (by rw [HD.out]; simp), below_alloc (Below.refl _ _) _⟩
  · have c2 : (s == e) = false := by simp; omega
    have c3 : ¬ s < e := by omega
    have c4 : ¬ s = e := by omega
    have HD2 : Hid (dayB dy s e wd m = ((b1 && decide (s ≤ m)) || (b2 && decide (m < e)))) := by unfold Hid; rw [HD.out, if_neg c4, if_neg c3]
    clear c c4 HD
    cases b1
    all_goals cases b2
    all_goals
      go_enter Tryz.func90, Tryz.ntmps90
      go_wp2_with (go_at_call 108; refine (refOn_any _ _ _ d0 d1 (by omega) (by omega)).mono ?_; rintro e' w' ⟨rfl, rfl⟩; first | rw [HB1.out] | rw [HB2.out])
      all_goals go_ret
      all_goals exact ⟨ret_bool (by rw [HD2.out]; simp; try omega), below_alloc (Below.refl _ _) _⟩

set_option maxRecDepth 100000 in
set_option maxHeartbeats 3200000 in
theorem refHolds_any (W : WinR) (z : ZoneR) (t : Int) (w : World) :
    Calls Tryz.prog 74 #[.agg #[.int .i64 W.dy, .int .i64 W.st, .int .i64 W.en, .int .i64 W.fr, .int .i64 W.to], .agg #[.int .i64 z.off, .bool z.sum], .int .i64 t] w
      fun e w' => e = .returned (.bool (holdsB W z t)) ∧ Below w.heap.size w w' := by
  have HE : Hid (holdsB W z t = (winB W && zoneB z && timeB t && inB W t && patB W z t)) := rfl
  have hbw := Below.refl w.heap.size w
  cases hW : winB W with
  | false =>
    have H1 := Lib.hid (winE_false hW)
    rw [hW] at HE
    clear hW
    go_enter Tryz.func74, Tryz.ntmps74
    go_wp2_with (go_at_call 52; refine (refValid_any W _).mono ?_; rintro e w' ⟨rfl, hb⟩; obtain ⟨hc, hf⟩ := bcell hb; have hz := hb.size; (try simp only [World.size_alloc, Nat.add_one_le_iff] at hz); (try (have hz0 : w.heap.size < w'.heap.size := by omega)); (try (have hz1 : w.heap.size + 1 < w'.heap.size := by omega)); (try (have hz2 : w.heap.size < w'.heap.size := by omega)); replace hbw := below_step (w := w) (by repeat (first | exact hbw | refine below_alloc ?_ _ | refine below_drew ?_ | refine below_drewN ?_ _ | (refine below_set ?_ ?_ _; rotate_left; (first | exact Nat.le_refl _ | (simp only [World.size_alloc]; omega) | omega)))) hb; clear hb; rw [H1.out])
    go_ret
    exact ⟨ret_bool (by rw [HE.out]; simp), by repeat (first | exact hbw | refine below_alloc ?_ _)⟩
  | true =>
    have H1 := Lib.hid (winE_true hW)
    have HW := Lib.hid hW
    rw [hW] at HE
    clear hW
    cases hz : zoneB z with
    | false =>
      have H2 := Lib.hid hz
      rw [hz] at HE
      clear hz
      go_enter Tryz.func74, Tryz.ntmps74
      go_wp2_with (first | (go_at_call 52; refine (refValid_any W _).mono ?_; rintro e w' ⟨rfl, hb⟩; obtain ⟨hc, hf⟩ := bcell hb; have hz := hb.size; (try simp only [World.size_alloc, Nat.add_one_le_iff] at hz); (try (have hz0 : w.heap.size < w'.heap.size := by omega)); (try (have hz1 : w.heap.size + 1 < w'.heap.size := by omega)); (try (have hz2 : w.heap.size < w'.heap.size := by omega)); replace hbw := below_step (w := w) (by repeat (first | exact hbw | refine below_alloc ?_ _ | refine below_drew ?_ | refine below_drewN ?_ _ | (refine below_set ?_ ?_ _; rotate_left; (first | exact Nat.le_refl _ | (simp only [World.size_alloc]; omega) | omega)))) hb; clear hb; rw [H1.out]) | (go_at_call 31; refine (refZone_any z _).mono ?_; rintro e w' ⟨rfl, hb⟩; obtain ⟨hc, hf⟩ := bcell hb; have hz := hb.size; (try simp only [World.size_alloc, Nat.add_one_le_iff] at hz); (try (have hz0 : w.heap.size < w'.heap.size := by omega)); (try (have hz1 : w.heap.size + 1 < w'.heap.size := by omega)); (try (have hz2 : w.heap.size < w'.heap.size := by omega)); replace hbw := below_step (w := w) (by repeat (first | exact hbw | refine below_alloc ?_ _ | refine below_drew ?_ | refine below_drewN ?_ _ | (refine below_set ?_ ?_ _; rotate_left; (first | exact Nat.le_refl _ | (simp only [World.size_alloc]; omega) | omega)))) hb; clear hb; rw [H2.out]))
      go_ret
      exact ⟨ret_bool (by rw [HE.out]; simp), by repeat (first | exact hbw | refine below_alloc ?_ _)⟩
    | true =>
      have H2 := Lib.hid hz
      rw [hz] at HE
      clear hz
      cases ht : timeB t with
      | false =>
        have H3 := Lib.hid ht
        rw [ht] at HE
        clear ht
        go_enter Tryz.func74, Tryz.ntmps74
        go_wp2_with (first | (go_at_call 52; refine (refValid_any W _).mono ?_; rintro e w' ⟨rfl, hb⟩; obtain ⟨hc, hf⟩ := bcell hb; have hz := hb.size; (try simp only [World.size_alloc, Nat.add_one_le_iff] at hz); (try (have hz0 : w.heap.size < w'.heap.size := by omega)); (try (have hz1 : w.heap.size + 1 < w'.heap.size := by omega)); (try (have hz2 : w.heap.size < w'.heap.size := by omega)); replace hbw := below_step (w := w) (by repeat (first | exact hbw | refine below_alloc ?_ _ | refine below_drew ?_ | refine below_drewN ?_ _ | (refine below_set ?_ ?_ _; rotate_left; (first | exact Nat.le_refl _ | (simp only [World.size_alloc]; omega) | omega)))) hb; clear hb; rw [H1.out]) | (go_at_call 31; refine (refZone_any z _).mono ?_; rintro e w' ⟨rfl, hb⟩; obtain ⟨hc, hf⟩ := bcell hb; have hz := hb.size; (try simp only [World.size_alloc, Nat.add_one_le_iff] at hz); (try (have hz0 : w.heap.size < w'.heap.size := by omega)); (try (have hz1 : w.heap.size + 1 < w'.heap.size := by omega)); (try (have hz2 : w.heap.size < w'.heap.size := by omega)); replace hbw := below_step (w := w) (by repeat (first | exact hbw | refine below_alloc ?_ _ | refine below_drew ?_ | refine below_drewN ?_ _ | (refine below_set ?_ ?_ _; rotate_left; (first | exact Nat.le_refl _ | (simp only [World.size_alloc]; omega) | omega)))) hb; clear hb; rw [H2.out]) | (go_at_call 22; refine (refRight_any _ _).mono ?_; rintro e w' ⟨rfl, rfl⟩; rw [H3.out]))
        go_ret
        exact ⟨ret_bool (by rw [HE.out]; simp), by repeat (first | exact hbw | refine below_alloc ?_ _)⟩
      | true =>
        have H3 := Lib.hid ht
        obtain ⟨t0, t1⟩ := timeB_iff.1 ht
        rw [ht] at HE
        clear ht
        have ok := winB_iff.1 HW.out
        obtain ⟨d0, d1, s0, s1, e0, e1, f0, f1, ht2⟩ := ok
        cases hi : inB W t with
        | false =>
          have hn := inB_no hi (by omega)
          rw [hi] at HE
          clear hi
          rcases hn with h | ⟨h1, h2, h3⟩
          · go_enter Tryz.func74, Tryz.ntmps74
            go_wp2_with (first | (go_at_call 52; refine (refValid_any W _).mono ?_; rintro e w' ⟨rfl, hb⟩; obtain ⟨hc, hf⟩ := bcell hb; have hz := hb.size; (try simp only [World.size_alloc, Nat.add_one_le_iff] at hz); (try (have hz0 : w.heap.size < w'.heap.size := by omega)); (try (have hz1 : w.heap.size + 1 < w'.heap.size := by omega)); (try (have hz2 : w.heap.size < w'.heap.size := by omega)); replace hbw := below_step (w := w) (by repeat (first | exact hbw | refine below_alloc ?_ _ | refine below_drew ?_ | refine below_drewN ?_ _ | (refine below_set ?_ ?_ _; rotate_left; (first | exact Nat.le_refl _ | (simp only [World.size_alloc]; omega) | omega)))) hb; clear hb; rw [H1.out]) | (go_at_call 31; refine (refZone_any z _).mono ?_; rintro e w' ⟨rfl, hb⟩; obtain ⟨hc, hf⟩ := bcell hb; have hz := hb.size; (try simp only [World.size_alloc, Nat.add_one_le_iff] at hz); (try (have hz0 : w.heap.size < w'.heap.size := by omega)); (try (have hz1 : w.heap.size + 1 < w'.heap.size := by omega)); (try (have hz2 : w.heap.size < w'.heap.size := by omega)); replace hbw := below_step (w := w) (by repeat (first | exact hbw | refine below_alloc ?_ _ | refine below_drew ?_ | refine below_drewN ?_ _ | (refine below_set ?_ ?_ _; rotate_left; (first | exact Nat.le_refl _ | (simp only [World.size_alloc]; omega) | omega)))) hb; clear hb; rw [H2.out]) | (go_at_call 22; refine (refRight_any _ _).mono ?_; rintro e w' ⟨rfl, rfl⟩; rw [H3.out]))
            go_ret
            exact ⟨ret_bool (by rw [HE.out]; simp), by repeat (first | exact hbw | refine below_alloc ?_ _)⟩
          · have e9 : (W.to != -1) = true := by simp; omega
            go_enter Tryz.func74, Tryz.ntmps74
            go_wp2_with (first | (go_at_call 52; refine (refValid_any W _).mono ?_; rintro e w' ⟨rfl, hb⟩; obtain ⟨hc, hf⟩ := bcell hb; have hz := hb.size; (try simp only [World.size_alloc, Nat.add_one_le_iff] at hz); (try (have hz0 : w.heap.size < w'.heap.size := by omega)); (try (have hz1 : w.heap.size + 1 < w'.heap.size := by omega)); (try (have hz2 : w.heap.size < w'.heap.size := by omega)); replace hbw := below_step (w := w) (by repeat (first | exact hbw | refine below_alloc ?_ _ | refine below_drew ?_ | refine below_drewN ?_ _ | (refine below_set ?_ ?_ _; rotate_left; (first | exact Nat.le_refl _ | (simp only [World.size_alloc]; omega) | omega)))) hb; clear hb; rw [H1.out]) | (go_at_call 31; refine (refZone_any z _).mono ?_; rintro e w' ⟨rfl, hb⟩; obtain ⟨hc, hf⟩ := bcell hb; have hz := hb.size; (try simp only [World.size_alloc, Nat.add_one_le_iff] at hz); (try (have hz0 : w.heap.size < w'.heap.size := by omega)); (try (have hz1 : w.heap.size + 1 < w'.heap.size := by omega)); (try (have hz2 : w.heap.size < w'.heap.size := by omega)); replace hbw := below_step (w := w) (by repeat (first | exact hbw | refine below_alloc ?_ _ | refine below_drew ?_ | refine below_drewN ?_ _ | (refine below_set ?_ ?_ _; rotate_left; (first | exact Nat.le_refl _ | (simp only [World.size_alloc]; omega) | omega)))) hb; clear hb; rw [H2.out]) | (go_at_call 22; refine (refRight_any _ _).mono ?_; rintro e w' ⟨rfl, rfl⟩; rw [H3.out]))
            go_ret
            exact ⟨ret_bool (by rw [HE.out]; simp), by repeat (first | exact hbw | refine below_alloc ?_ _)⟩
        | true =>
          obtain ⟨h1, h2⟩ := inB_iff.1 hi
          rw [hi] at HE
          have HP : Hid (patB W z t = dayB W.dy W.st W.en (wdF ((t + offF z t) / 1440)) ((t + offF z t) % 1440)) := rfl
          have HL := Lib.hid (fun (w : World) => refLocal_any z t w H2.out t0 t1)
          have hwd := wdF_rng ((t + offF z t) / 1440)
          generalize wdF ((t + offF z t) / 1440) = wd at *
          generalize (t + offF z t) % 1440 = m at *
          have hto : ((W.to != -1) = false) ∨ ((W.to != -1) = true ∧ t < W.to) := by
            by_cases h : W.to = -1
            · exact .inl (by simp [h])
            · exact .inr ⟨by simpa using h, by omega⟩
          clear hi h2 ht2
          rcases hto with g | ⟨g, g2⟩
          all_goals
            go_enter Tryz.func74, Tryz.ntmps74
            go_wp2_with (first | (go_at_call 52; refine (refValid_any W _).mono ?_; rintro e w' ⟨rfl, hb⟩; obtain ⟨hc, hf⟩ := bcell hb; have hz := hb.size; (try simp only [World.size_alloc, Nat.add_one_le_iff] at hz); (try (have hz0 : w.heap.size < w'.heap.size := by omega)); (try (have hz1 : w.heap.size + 1 < w'.heap.size := by omega)); (try (have hz2 : w.heap.size < w'.heap.size := by omega)); replace hbw := below_step (w := w) (by repeat (first | exact hbw | refine below_alloc ?_ _ | refine below_drew ?_ | refine below_drewN ?_ _ | (refine below_set ?_ ?_ _; rotate_left; (first | exact Nat.le_refl _ | (simp only [World.size_alloc]; omega) | omega)))) hb; clear hb; rw [H1.out]) | (go_at_call 31; refine (refZone_any z _).mono ?_; rintro e w' ⟨rfl, hb⟩; obtain ⟨hc, hf⟩ := bcell hb; have hz := hb.size; (try simp only [World.size_alloc, Nat.add_one_le_iff] at hz); (try (have hz0 : w.heap.size < w'.heap.size := by omega)); (try (have hz1 : w.heap.size + 1 < w'.heap.size := by omega)); (try (have hz2 : w.heap.size < w'.heap.size := by omega)); replace hbw := below_step (w := w) (by repeat (first | exact hbw | refine below_alloc ?_ _ | refine below_drew ?_ | refine below_drewN ?_ _ | (refine below_set ?_ ?_ _; rotate_left; (first | exact Nat.le_refl _ | (simp only [World.size_alloc]; omega) | omega)))) hb; clear hb; rw [H2.out]) | (go_at_call 22; refine (refRight_any _ _).mono ?_; rintro e w' ⟨rfl, rfl⟩; rw [H3.out]) | (go_at_call 89; refine (HL.out _).mono ?_; rintro e w' ⟨⟨y, mo, d, rfl⟩, hb⟩; obtain ⟨hc, hf⟩ := bcell hb; have hz := hb.size; (try simp only [World.size_alloc, Nat.add_one_le_iff] at hz); (try (have hz0 : w.heap.size < w'.heap.size := by omega)); (try (have hz1 : w.heap.size + 1 < w'.heap.size := by omega)); (try (have hz2 : w.heap.size < w'.heap.size := by omega)); replace hbw := below_step (w := w) (by repeat (first | exact hbw | refine below_alloc ?_ _ | refine below_drew ?_ | refine below_drewN ?_ _ | (refine below_set ?_ ?_ _; rotate_left; (first | exact Nat.le_refl _ | (simp only [World.size_alloc]; omega) | omega)))) hb; clear hb) | (go_at_call 90; refine (refDay_any _ _ _ _ _ _ _ _ _ d0 d1 (by omega) (by omega)).mono ?_; rintro e w' ⟨rfl, hb⟩; obtain ⟨hc, hf⟩ := bcell hb; have hz := hb.size; (try simp only [World.size_alloc, Nat.add_one_le_iff] at hz); (try (have hz0 : w.heap.size < w'.heap.size := by omega)); (try (have hz1 : w.heap.size + 1 < w'.heap.size := by omega)); (try (have hz2 : w.heap.size < w'.heap.size := by omega)); replace hbw := below_step (w := w) (by repeat (first | exact hbw | refine below_alloc ?_ _ | refine below_drew ?_ | refine below_drewN ?_ _ | (refine below_set ?_ ?_ _; rotate_left; (first | exact Nat.le_refl _ | (simp only [World.size_alloc]; omega) | omega)))) hb; clear hb))
            go_ret
            exact ⟨ret_bool (by rw [HE.out, HP.out]; simp), by repeat (first | exact hbw | refine below_set ?_ (by simp; omega) _ | refine below_alloc ?_ _)⟩

end Go.Proofs.YtmappmeojmdekaaGreatDoor

namespace Go.Proofs.YtmappmeojmdekaaGreatDoor
open Go.RowKit Go.Lib
attribute [local go_sem] after_cell
set_option linter.unusedVariables false

set_option maxHeartbeats 400000 in
theorem wait_any (a m : Int) (w : World) (h0 : 0 ≤ a) (h1 : a < 1440) (h2 : 0 ≤ m) (h3 : m < 1440) :
    Calls Tryz.prog 96 #[.int .i64 a, .int .i64 m] w fun e w' => e = .returned (.int .i64 (waitF a m)) ∧ w = w' := by
  have HW : Hid (waitF a m = if a < m then m - a else m - a + 1440) := rfl
  go_enter Tryz.func96, Tryz.ntmps96
  go_wp2
  all_goals go_ret
  all_goals exact ⟨ret_int (by rw [HW.out]; omega), rfl⟩

@[local go_sem] theorem run_min_int4 {P : Program} {w : World} (ts : Array TypeId) (t : TypeId) (x y z u : Int) : (Builtin.min_ ts t #[.int .i64 x, .int .i64 y, .int .i64 z, .int .i64 u]).run P w = .ok (.int .i64 (min (min (min x y) z) u)) w := by
  simp [Builtin.min_, Builtin.min2]
  omega

set_option maxRecDepth 100000 in
set_option maxHeartbeats 3200000 in
theorem candidate_any (W : WinR) (z : ZoneR) (t : Int) (w : World) (hW : winB W = true) (hz : zoneB z = true) (h0 : 0 ≤ t) (h1 : t ≤ 268435456) :
    Calls Tryz.prog 81 #[.agg #[.int .i64 W.dy, .int .i64 W.st, .int .i64 W.en, .int .i64 W.fr, .int .i64 W.to], .agg #[.int .i64 z.off, .bool z.sum], .int .i64 t] w
      fun e w' => e = .returned (.int .i64 (candF W z t)) ∧ Below w.heap.size w w' := by
  obtain ⟨d0, d1, s0, s1, e0, e1, f0, f1, ht2⟩ := winB_iff.1 hW
  have HC : Hid (candF W z t = (if t < W.to then min (if t < W.fr then min (t + min (min (min (waitF ((t + offF z t) % 1440) W.st) (waitF ((t + offF z t) % 1440) W.en)) (waitF ((t + offF z t) % 1440) 0)) (waitF (t % 1440) 60)) W.fr else t + min (min (min (waitF ((t + offF z t) % 1440) W.st) (waitF ((t + offF z t) % 1440) W.en)) (waitF ((t + offF z t) % 1440) 0)) (waitF (t % 1440) 60)) W.to else (if t < W.fr then min (t + min (min (min (waitF ((t + offF z t) % 1440) W.st) (waitF ((t + offF z t) % 1440) W.en)) (waitF ((t + offF z t) % 1440) 0)) (waitF (t % 1440) 60)) W.fr else t + min (min (min (waitF ((t + offF z t) % 1440) W.st) (waitF ((t + offF z t) % 1440) W.en)) (waitF ((t + offF z t) % 1440) 0)) (waitF (t % 1440) 60)))) := rfl
  have HL := Lib.hid (fun (w : World) => refLocal_any z t w hz h0 h1)
  have hm0 : 0 ≤ (t + offF z t) % 1440 := by omega
  have hm1 : (t + offF z t) % 1440 < 1440 := by omega
  have hk0 : 0 ≤ t % 1440 := by omega
  have hk1 : t % 1440 < 1440 := by omega
  generalize wdF ((t + offF z t) / 1440) = wd at *
  generalize (t + offF z t) % 1440 = m at *
  have hwb := waitF_le (t % 1440) 60 hk0 hk1 (by omega)
  have hwp := waitF_pos (t % 1440) 60 hk1 (by omega)
  have hwp1 := waitF_pos m W.st hm1 s0
  have hwp2 := waitF_pos m W.en hm1 e0
  have hwp3 := waitF_pos m 0 hm1 (by omega)
  obtain ⟨W0, hW0, hb0, hg0, hg1, hx0, hy0⟩ := box2 w #[.int .i64 W.dy, .int .i64 W.st, .int .i64 W.en, .int .i64 W.fr, .int .i64 W.to] 66 #[.int .i64 z.off, .bool z.sum] 27
  go_enter Tryz.func81, Tryz.ntmps81
  go_wp2_with fail
  rw [← hW0]
  clear hW0
  refine (HL.out _).mono ?_
  rintro e w1 ⟨⟨y, mo, d, rfl⟩, hb1⟩
  obtain ⟨W2, hW2, hb2, hg2, hx2⟩ := box1 w1 #[.int .i64 y, .int .i64 mo, .int .i64 d, .int .i64 wd, .int .i64 m] 120
  go_wp2_with fail
  rw [← hW2]
  have hb02 := below_step hb1 hb2
  have hxw : ∀ j, W2.cell? ⟨w.heap.size, j, none⟩ = (#[.int .i64 W.dy, .int .i64 W.st, .int .i64 W.en, .int .i64 W.fr, .int .i64 W.to] : Array Value)[j]? := fun j => ((bcell hb02).1 _ _ hg1).trans (hx0 j)
  have hs2 : w.heap.size < W2.heap.size := Nat.lt_of_lt_of_le hg1 hb02.size
  have hbr := Below.refl W2.heap.size W2
  clear hW2 hx0 hy0 hb1 hb2 hg0 hg1
  (refine wp_region_kept W2 (by kernel_rfl) (by kernel_rfl) (by assumption) ?_; (repeat (go_big_quiet_step ((first | (go_at_call 96; exact kept_same (wait_any _ _ _ (by omega) (by omega) (by omega) (by omega))))))); refine wpQuiet_nil ?_; intro _ hw'; obtain ⟨x9, hw''⟩ := hw'; subst hw''; have hk9 := after_kept x9; generalize after x9 = w9 at *)
  obtain ⟨hc9, hf9⟩ := bcell hk9.2
  have hNN : (min (min (min (waitF m W.st) (waitF m W.en)) (waitF m 0)) (waitF (t % 1440) 60)) = (min (waitF m W.st) (min (waitF m W.en) (min (waitF m 0) (waitF (t % 1440) 60)))) := by omega
  rw [hNN] at HC
  clear hNN
  have hn1 : 1 ≤ (min (waitF m W.st) (min (waitF m W.en) (min (waitF m 0) (waitF (t % 1440) 60)))) := by omega
  have hn2 : (min (waitF m W.st) (min (waitF m W.en) (min (waitF m 0) (waitF (t % 1440) 60)))) ≤ 1440 := by omega
  generalize (min (waitF m W.st) (min (waitF m W.en) (min (waitF m 0) (waitF (t % 1440) 60)))) = n at *
  clear hwb hwp hwp1 hwp2 hwp3
  by_cases c1 : t < W.fr
  all_goals by_cases c2 : t < W.to
  all_goals
    (try rw [if_pos c2] at HC)
    (try rw [if_neg c2] at HC)
    (try rw [if_pos c1] at HC)
    (try rw [if_neg c1] at HC)
    go_wp2_with fail
    all_goals go_ret
    all_goals exact ⟨ret_int (by rw [HC.out] <;> omega), below_step hb0 (below_step hb02 hk9.2)⟩

end Go.Proofs.YtmappmeojmdekaaGreatDoor

namespace Go.Proofs.YtmappmeojmdekaaGreatDoor
open Go.RowKit Go.Lib
attribute [local go_sem] after_cell
set_option linter.unusedVariables false

/-- what Next answers -/
noncomputable def nextA (W : WinR) (z : ZoneR) (t : Int) : Int := if (winB W && zoneB z && timeB t) = true then nextF (holdsB W z) t else -1
theorem nextA_bad {W : WinR} {z : ZoneR} {t : Int} (h : (winB W && zoneB z && timeB t) = false) : nextA W z t = -1 := if_neg (by rw [h]; decide)
theorem nextA_ok {W : WinR} {z : ZoneR} {t : Int} (h1 : winB W = true) (h2 : zoneB z = true) (h3 : timeB t = true) : nextA W z t = nextF (holdsB W z) t := if_pos (by rw [h1, h2, h3]; rfl)
/-- the search of the reference: nothing changes ahead of u -/
structure Srch (W : WinR) (z : ZoneR) (t u : Int) : Prop where
  up : t < u
  no : ∀ v, t < v → v < u → v ≤ 268435456 → holdsB W z v = holdsB W z (v - 1)
theorem Srch.start {W : WinR} {z : ZoneR} (hW : winB W = true) {t : Int} (h0 : 0 ≤ t) : Srch W z t (candF W z t) := ⟨(cand_at hW h0).up, (cand_at hW h0).same⟩
theorem Srch.next {W : WinR} {z : ZoneR} (hW : winB W = true) {t u : Int} (h0 : 0 ≤ t) (h : Srch W z t u) (he : holdsB W z u = holdsB W z (u - 1)) : Srch W z t (candF W z u) := by
  have c := cand_at (z := z) hW (show 0 ≤ u by have := h.up; omega)
  refine ⟨by have := h.up; have := c.up; omega, fun v a b d => ?_⟩
  rcases Int.lt_trichotomy v u with e | e | e
  · exact h.no v a e d
  · rw [e]; exact he
  · exact c.same v e b d
theorem Srch.found {W : WinR} {z : ZoneR} {t u : Int} (h : Srch W z t u) (h1 : u ≤ 268435456) (he : holdsB W z u ≠ holdsB W z (u - 1)) : NextSpec (holdsB W z) t u :=
  .inl ⟨h.up, h1, he, fun v a b => h.no v a b (by omega)⟩

set_option maxRecDepth 100000 in
set_option maxHeartbeats 6400000 in
theorem refNext_any (W : WinR) (z : ZoneR) (t : Int) (w : World) :
    Calls Tryz.prog 64 #[.agg #[.int .i64 W.dy, .int .i64 W.st, .int .i64 W.en, .int .i64 W.fr, .int .i64 W.to], .agg #[.int .i64 z.off, .bool z.sum], .int .i64 t] w
      fun e w' => e = .returned (.int .i64 (nextA W z t)) ∧ Below w.heap.size w w' := by
  have hbw := Below.refl w.heap.size w
  cases hW : winB W with
  | false =>
    have H1 := Lib.hid (winE_false hW)
    have HN := Lib.hid (nextA_bad (W := W) (z := z) (t := t) (by rw [hW]; rfl))
    clear hW
    go_enter Tryz.func64, Tryz.ntmps64
    go_wp2_with (go_at_call 52; refine (refValid_any W _).mono ?_; rintro e w' ⟨rfl, hb⟩; obtain ⟨hc, hf⟩ := bcell hb; have hz := hb.size; (try simp only [World.size_alloc, Nat.add_one_le_iff] at hz); (try (have hz0 : w.heap.size < w'.heap.size := by omega)); (try (have hz1 : w.heap.size + 1 < w'.heap.size := by omega)); (try (have hz2 : w.heap.size < w'.heap.size := by omega)); replace hbw := below_step (w := w) (by repeat (first | exact hbw | refine below_alloc ?_ _ | refine below_drew ?_ | refine below_drewN ?_ _ | (refine below_set ?_ ?_ _; rotate_left; (first | exact Nat.le_refl _ | (simp only [World.size_alloc]; omega) | omega)))) hb; clear hb; rw [H1.out])
    go_ret
    exact ⟨ret_int HN.out.symm, by repeat (first | exact hbw | refine below_alloc ?_ _)⟩
  | true =>
    cases hz : zoneB z with
    | false =>
      have H1 := Lib.hid (winE_true hW)
      have H2 := Lib.hid hz
      have HN := Lib.hid (nextA_bad (W := W) (z := z) (t := t) (by rw [hz]; simp))
      clear hW hz
      go_enter Tryz.func64, Tryz.ntmps64
      go_wp2_with (first | (go_at_call 52; refine (refValid_any W _).mono ?_; rintro e w' ⟨rfl, hb⟩; obtain ⟨hc, hf⟩ := bcell hb; have hz := hb.size; (try simp only [World.size_alloc, Nat.add_one_le_iff] at hz); (try (have hz0 : w.heap.size < w'.heap.size := by omega)); (try (have hz1 : w.heap.size + 1 < w'.heap.size := by omega)); (try (have hz2 : w.heap.size < w'.heap.size := by omega)); replace hbw := below_step (w := w) (by repeat (first | exact hbw | refine below_alloc ?_ _ | refine below_drew ?_ | refine below_drewN ?_ _ | (refine below_set ?_ ?_ _; rotate_left; (first | exact Nat.le_refl _ | (simp only [World.size_alloc]; omega) | omega)))) hb; clear hb; rw [H1.out]) | (go_at_call 31; refine (refZone_any z _).mono ?_; rintro e w' ⟨rfl, hb⟩; obtain ⟨hc, hf⟩ := bcell hb; have hz := hb.size; (try simp only [World.size_alloc, Nat.add_one_le_iff] at hz); (try (have hz0 : w.heap.size < w'.heap.size := by omega)); (try (have hz1 : w.heap.size + 1 < w'.heap.size := by omega)); (try (have hz2 : w.heap.size < w'.heap.size := by omega)); replace hbw := below_step (w := w) (by repeat (first | exact hbw | refine below_alloc ?_ _ | refine below_drew ?_ | refine below_drewN ?_ _ | (refine below_set ?_ ?_ _; rotate_left; (first | exact Nat.le_refl _ | (simp only [World.size_alloc]; omega) | omega)))) hb; clear hb; rw [H2.out]))
      go_ret
      exact ⟨ret_int HN.out.symm, by repeat (first | exact hbw | refine below_alloc ?_ _)⟩
    | true =>
      cases ht : timeB t with
      | false =>
        have H1 := Lib.hid (winE_true hW)
        have H2 := Lib.hid hz
        have H3 := Lib.hid ht
        have HN := Lib.hid (nextA_bad (W := W) (z := z) (t := t) (by rw [ht]; simp))
        clear hW hz ht
        go_enter Tryz.func64, Tryz.ntmps64
        go_wp2_with (first | (go_at_call 52; refine (refValid_any W _).mono ?_; rintro e w' ⟨rfl, hb⟩; obtain ⟨hc, hf⟩ := bcell hb; have hz := hb.size; (try simp only [World.size_alloc, Nat.add_one_le_iff] at hz); (try (have hz0 : w.heap.size < w'.heap.size := by omega)); (try (have hz1 : w.heap.size + 1 < w'.heap.size := by omega)); (try (have hz2 : w.heap.size < w'.heap.size := by omega)); replace hbw := below_step (w := w) (by repeat (first | exact hbw | refine below_alloc ?_ _ | refine below_drew ?_ | refine below_drewN ?_ _ | (refine below_set ?_ ?_ _; rotate_left; (first | exact Nat.le_refl _ | (simp only [World.size_alloc]; omega) | omega)))) hb; clear hb; rw [H1.out]) | (go_at_call 31; refine (refZone_any z _).mono ?_; rintro e w' ⟨rfl, hb⟩; obtain ⟨hc, hf⟩ := bcell hb; have hz := hb.size; (try simp only [World.size_alloc, Nat.add_one_le_iff] at hz); (try (have hz0 : w.heap.size < w'.heap.size := by omega)); (try (have hz1 : w.heap.size + 1 < w'.heap.size := by omega)); (try (have hz2 : w.heap.size < w'.heap.size := by omega)); replace hbw := below_step (w := w) (by repeat (first | exact hbw | refine below_alloc ?_ _ | refine below_drew ?_ | refine below_drewN ?_ _ | (refine below_set ?_ ?_ _; rotate_left; (first | exact Nat.le_refl _ | (simp only [World.size_alloc]; omega) | omega)))) hb; clear hb; rw [H2.out]) | (go_at_call 22; refine (refRight_any _ _).mono ?_; rintro e w' ⟨rfl, rfl⟩; rw [H3.out]))
        go_ret
        exact ⟨ret_int HN.out.symm, by repeat (first | exact hbw | refine below_alloc ?_ _)⟩
      | true =>
        obtain ⟨t0, t1⟩ := timeB_iff.1 ht
        have hNA := nextA_ok hW hz ht
        have HN : Hid (∀ r, NextSpec (holdsB W z) (if t < W.fr - 1 then W.fr - 1 else t) r → nextA W z t = r) := fun r h => by
          rw [hNA]
          by_cases c : t < W.fr - 1
          · rw [if_pos c] at h; exact nextF_of (next_lift c h)
          · rw [if_neg c] at h; exact nextF_of h
        obtain ⟨d0, d1, s0, s1, e0, e1, f0, f1, ht2⟩ := winB_iff.1 hW
        have hu0 : 0 ≤ (if t < W.fr - 1 then W.fr - 1 else t) := by split <;> omega
        have hu1 : (if t < W.fr - 1 then W.fr - 1 else t) ≤ 268435456 := by split <;> omega
        have hu2 : W.fr - 1 ≤ (if t < W.fr - 1 then W.fr - 1 else t) := by split <;> omega
        have H1 := Lib.hid (winE_true hW)
        have H2 := Lib.hid hz
        have H3 := Lib.hid ht
        have HW := Lib.hid hW
        clear hNA hW hz ht hbw
        obtain ⟨W0, hW0, hb0, hg0, hg1, hx0, hy0⟩ := box2 w #[.int .i64 W.dy, .int .i64 W.st, .int .i64 W.en, .int .i64 W.fr, .int .i64 W.to] 66 #[.int .i64 z.off, .bool z.sum] 27
        go_enter Tryz.func64, Tryz.ntmps64
        go_wp2_with fail
        rw [← hW0]
        clear hW0
        refine (refValid_any W _).mono ?_
        rintro e w1 ⟨rfl, hb1⟩
        rw [H1.out]
        obtain ⟨hc, hf⟩ := bcell hb1
        go_wp2_with fail
        refine (refZone_any z _).mono ?_
        rintro e w2 ⟨rfl, hb2⟩
        rw [H2.out]
        have hbw := below_step hb1 hb2
        clear hc hf hb1 hb2
        obtain ⟨hc, hf⟩ := bcell hbw
        go_wp2_with fail
        refine (refRight_any _ _).mono ?_
        rintro e w' ⟨rfl, rfl⟩
        rw [H3.out]
        go_upto_if 26 with fail
        go_cut [2] from 27 to 29 (fun s wx => s = .int .i64 (if t < W.fr - 1 then W.fr - 1 else t) ∧ wx = w2)
        case first =>
          by_cases c : t < W.fr - 1
          · have hq : Hid ((if t < W.fr - 1 then W.fr - 1 else t) = W.fr - 1) := if_pos c
            go_wp2_with fail
            go_meet
            exact ⟨by rw [hq.out], rfl⟩
          · have hq : Hid ((if t < W.fr - 1 then W.fr - 1 else t) = t) := if_neg c
            go_wp2_with fail
            go_meet
            exact ⟨by rw [hq.out], rfl⟩
        case rest =>
          obtain ⟨rfl, rfl⟩ := hcut
          generalize (if t < W.fr - 1 then W.fr - 1 else t) = u at *
          have HST := Lib.hid (Srch.start (z := z) HW.out hu0)
          have hcl := (cand_at (z := z) HW.out hu0).le
          go_wp2_with fail
          refine (candidate_any W z _ _ HW.out H2.out hu0 hu1).mono ?_
          rintro e w3 ⟨rfl, hb3⟩
          have hbw3 := below_step hbw hb3
          clear hc hf hb3
          go_wp2_with fail
          go_loopw [8] (fun y wr => ∃ v : Int, y = .int .i64 v ∧ v ≤ 268500000 ∧ Below W0.heap.size W0 wr ∧ Hid (Srch W z u v)) (fun y _ => (268600000 - intOf y).toNat)
          case atStart => exact ⟨_, rfl, by omega, hbw3, HST⟩
          case round =>
            clear HST hcl hbw hbw3
            obtain ⟨v, rfl, hv1, hbw, HS⟩ := hrel
            obtain ⟨hc, hf⟩ := bcell hbw
            have hup := HS.out.up
            by_cases hg : v ≤ u + 21600 ∧ v ≤ 268435456
            · obtain ⟨g1, g2⟩ := hg
              by_cases he : holdsB W z v = holdsB W z (v - 1)
              · have HS2 := Lib.hid (HS.out.next HW.out hu0 he)
                have c := cand_at (z := z) HW.out (show 0 ≤ v by omega)
                have c1 := c.up
                have c2 := c.le
                have HC1 := Lib.hid (fun (w : World) => he ▸ refHolds_any W z v w)
                have HC2 := Lib.hid (fun (w : World) => refHolds_any W z (v - 1) w)
                have HH := Lib.hid he
                clear c he
                generalize holdsB W z (v - 1) = b9 at *
                cases b9
                all_goals
                  go_wp2_with fail
                  (refine wp_region_kept W0 (by kernel_rfl) (by kernel_rfl) (by assumption) ?_; (repeat (go_big_quiet_step ((first | (go_at_call 74; exact kept_call ((by first | with_reducible exact HC1.out _ | with_reducible exact HC2.out _))))))); refine wpQuiet_nil ?_; intro _ hw'; obtain ⟨x9, hw''⟩ := hw'; subst hw''; have hk9 := after_kept x9; generalize after x9 = w9 at *)
                  obtain ⟨hc9, hf9⟩ := bcell hk9.2
                  go_wp2_with fail
                  refine (candidate_any W z _ _ HW.out H2.out (by omega) g2).mono ?_
                  rintro e w4 ⟨rfl, hb4⟩
                  go_wp2_with fail
                  go_roundw
                  case measure => simp [intOf]; omega
                  case rel => exact ⟨_, rfl, by omega, below_step hk9.2 hb4, HS2⟩
              · have HF := Lib.hid (HN.out _ (HS.out.found g2 he))
                have h4 : holdsB W z v = !holdsB W z (v - 1) := by cases h8 : holdsB W z v <;> cases h9 : holdsB W z (v - 1) <;> simp_all
                have HC1 := Lib.hid (fun (w : World) => h4 ▸ refHolds_any W z v w)
                have HC2 := Lib.hid (fun (w : World) => refHolds_any W z (v - 1) w)
                clear he h4
                generalize holdsB W z (v - 1) = b9 at *
                cases b9
                all_goals
                  go_wp2_with fail
                  (refine wp_region_kept W0 (by kernel_rfl) (by kernel_rfl) (by assumption) ?_; (repeat (go_big_quiet_step ((first | (go_at_call 74; exact kept_call ((by first | with_reducible exact HC1.out _ | with_reducible exact HC2.out _))))))); refine wpQuiet_nil ?_; intro _ hw'; obtain ⟨x9, hw''⟩ := hw'; subst hw''; have hk9 := after_kept x9; generalize after x9 = w9 at *)
                  obtain ⟨hc9, hf9⟩ := bcell hk9.2
                  go_wp2_with fail
                  go_ret
                  exact ⟨ret_int HF.out.symm, below_step hb0 hk9.2⟩
            · have HX := Lib.hid (HN.out _ (next_calm HW.out H2.out hu0 hu2 (e := v) (fun x a b d => HS.out.no x a (by omega) d) (by omega)))
              have HCH := Lib.hid (fun (w : World) => refHolds_any W z (W.to - 1) w)
              generalize holdsB W z (W.to - 1) = b9 at *
              have hg2 : u + 21600 < v ∨ (v ≤ u + 21600 ∧ 268435456 < v) := by omega
              clear hg
              have hto : decide (u < W.to) = true ∨ decide (u < W.to) = false := by cases decide (u < W.to) <;> simp
              rcases hg2 with g1 | ⟨g1, g2⟩
              all_goals rcases hto with hto | hto
              all_goals cases b9
              all_goals
                go_wp2_with (go_at_call 74; refine (HCH.out _).mono ?_; rintro e w4 ⟨rfl, hb4⟩; obtain ⟨hc4, hf4⟩ := bcell hb4; have hz4 := hb4.size; have hbw4 := below_step hbw hb4; have hc5 := (bcell hbw4).1)
                go_ret
                exact ⟨ret_int (by rw [HX.out, hto]; rfl), by first | exact below_step hb0 hbw4 | exact below_step hb0 hbw⟩

end Go.Proofs.YtmappmeojmdekaaGreatDoor
