/-
  Plain functions of the calendar: years, months, weekdays, summer time. No program is named here.
-/
namespace Go.Proofs.YtlpjniejbblcnaaDoor
set_option linter.unusedVariables false

/-- the day on which a year begins, counted from 2000-01-01 -/
def yst (y : Int) : Int := 365 * (y - 2000) + (y - 2000 + 3) / 4 - (y - 2000 + 99) / 100 + (y - 2000 + 399) / 400
def leapB (y : Int) : Bool := y % 4 == 0 && (y % 100 != 0 || y % 400 == 0)
def lp (y : Int) : Int := if leapB y then 1 else 0
theorem lp_01 (y : Int) : 0 ≤ lp y ∧ lp y ≤ 1 := by unfold lp; split <;> omega
theorem leapB_iff (y : Int) : leapB y = true ↔ y % 4 = 0 ∧ (y % 100 ≠ 0 ∨ y % 400 = 0) := by unfold leapB; simp
theorem yst_succ (y : Int) : yst (y + 1) = yst y + 365 + lp y := by
  unfold lp
  by_cases h : leapB y = true
  · rw [if_pos h]; rw [leapB_iff] at h; unfold yst; omega
  · rw [if_neg h]; rw [leapB_iff] at h; unfold yst; omega
theorem yst_zero : yst 2000 = 0 := by decide
theorem yst_nat (y : Int) (n : Nat) : yst y + 365 * n ≤ yst (y + n) := by
  induction n with
  | zero => simp
  | succ n ih =>
    have h := yst_succ (y + n)
    have := lp_01 (y + n)
    rw [show y + ((n + 1 : Nat) : Int) = y + n + 1 by omega]
    omega
theorem yst_lt {a b : Int} (h : a < b) : yst a + 365 ≤ yst b := by
  obtain ⟨n, rfl⟩ : ∃ n : Nat, b = a + 1 + n := ⟨(b - a - 1).toNat, by omega⟩
  have h1 := yst_succ a
  have h2 := lp_01 a
  have h3 := yst_nat (a + 1) n
  omega

/-- y is the year of a day -/
def IsYear (y day : Int) : Prop := yst y ≤ day ∧ day < yst (y + 1)
theorem IsYear.unique {y z day : Int} (h : IsYear y day) (g : IsYear z day) : y = z := by
  obtain ⟨a, b⟩ := h
  obtain ⟨c, d⟩ := g
  rcases Int.lt_trichotomy y z with e | e | e
  · rcases Int.lt_or_eq_of_le (show y + 1 ≤ z by omega) with f | f
    · have := yst_lt f; omega
    · subst f; omega
  · exact e
  · rcases Int.lt_or_eq_of_le (show z + 1 ≤ y by omega) with f | f
    · have := yst_lt f; omega
    · subst f; omega
theorem isYear_nat (n : Nat) : ∃ y : Int, 2000 ≤ y ∧ IsYear y n := by
  induction n with
  | zero => exact ⟨2000, by omega, by constructor <;> decide⟩
  | succ n ih =>
    obtain ⟨y, h1, h2, h3⟩ := ih
    by_cases h : ((n : Int) + 1) < yst (y + 1)
    · exact ⟨y, h1, by push_cast; omega, by push_cast; omega⟩
    · have a := yst_succ (y + 1)
      have b := lp_01 (y + 1)
      exact ⟨y + 1, by omega, by push_cast; omega, by push_cast; omega⟩
open Classical in
noncomputable def yearF (day : Int) : Int := if h : ∃ y, IsYear y day then h.choose else 0
theorem yearF_of {y day : Int} (h : IsYear y day) : yearF day = y := by
  have g : ∃ y, IsYear y day := ⟨y, h⟩
  unfold yearF
  rw [dif_pos g]
  exact g.choose_spec.unique h
theorem yearF_is {day : Int} (h : 0 ≤ day) : IsYear (yearF day) day := by
  obtain ⟨y, _, hy⟩ := isYear_nat day.toNat
  rw [Int.toNat_of_nonneg h] at hy
  rw [yearF_of hy]; exact hy
theorem yearF_ge {day : Int} (h : 0 ≤ day) : 2000 ≤ yearF day := by
  obtain ⟨y, h1, hy⟩ := isYear_nat day.toNat
  rw [Int.toNat_of_nonneg h] at hy
  rw [yearF_of hy]; exact h1

/-- the weekday of a day: 1 Monday to 7 Sunday -/
def wdF (day : Int) : Int := (day + 5) % 7 + 1
theorem wdF_rng (day : Int) : 1 ≤ wdF day ∧ wdF day ≤ 7 := by unfold wdF; omega

/-- the days of a year before month m (1 to 13) -/
def cum (y m : Int) : Int :=
  if m ≤ 1 then 0 else if m = 2 then 31 else if m = 3 then 59 + lp y else if m = 4 then 90 + lp y else if m = 5 then 120 + lp y else if m = 6 then 151 + lp y else if m = 7 then 181 + lp y else
  if m = 8 then 212 + lp y else if m = 9 then 243 + lp y else if m = 10 then 273 + lp y else if m = 11 then 304 + lp y else if m = 12 then 334 + lp y else 365 + lp y
/-- the days of a month -/
def dimF (y m : Int) : Int := if m = 2 then 28 + lp y else if m = 4 ∨ m = 6 ∨ m = 9 ∨ m = 11 then 30 else 31
theorem month_cases {m : Int} (h1 : 1 ≤ m) (h2 : m ≤ 12) : m = 1 ∨ m = 2 ∨ m = 3 ∨ m = 4 ∨ m = 5 ∨ m = 6 ∨ m = 7 ∨ m = 8 ∨ m = 9 ∨ m = 10 ∨ m = 11 ∨ m = 12 := by omega
theorem cum_succ {y m : Int} (h1 : 1 ≤ m) (h2 : m ≤ 12) : cum y (m + 1) = cum y m + dimF y m := by
  rcases month_cases h1 h2 with rfl | rfl | rfl | rfl | rfl | rfl | rfl | rfl | rfl | rfl | rfl | rfl <;> simp [cum, dimF] <;> omega
theorem dimF_rng (y m : Int) : 28 ≤ dimF y m ∧ dimF y m ≤ 31 := by
  have := lp_01 y
  unfold dimF; repeat' split
  all_goals omega
theorem cum_one (y : Int) : cum y 1 = 0 := by simp [cum]
theorem cum_13 (y : Int) : cum y 13 = 365 + lp y := by simp [cum]
theorem cum_rng (y m : Int) : 0 ≤ cum y m ∧ cum y m ≤ 366 := by
  have := lp_01 y
  unfold cum; omega
theorem cum_mono {y a b : Int} (h1 : 1 ≤ a) (h : a < b) (h2 : b ≤ 13) : cum y a + 28 ≤ cum y b := by
  obtain ⟨n, rfl⟩ : ∃ n : Nat, b = a + 1 + n := ⟨(b - a - 1).toNat, by omega⟩
  induction n with
  | zero => have := cum_succ (y := y) h1 (by omega); have := dimF_rng y a; simp; omega
  | succ n ih =>
    have := ih (by omega) (by omega)
    have h3 := cum_succ (y := y) (m := a + 1 + n) (by omega) (by omega)
    have := dimF_rng y (a + 1 + n)
    rw [show a + 1 + ((n + 1 : Nat) : Int) = a + 1 + n + 1 by omega]
    omega

/-- the last Sunday of a month -/
def sunF (y m : Int) : Int := yst y + cum y (m + 1) - 1 - wdF (yst y + cum y (m + 1) - 1) % 7
/-- summer time begins and ends -/
def begF (y : Int) : Int := sunF y 3 * 1440 + 60
def endF (y : Int) : Int := sunF y 10 * 1440 + 60
noncomputable def sumB (t : Int) : Bool := decide (begF (yearF (t / 1440)) ≤ t) && decide (t < endF (yearF (t / 1440)))
theorem begF_rng (y : Int) : (yst y + 83) * 1440 + 60 ≤ begF y ∧ begF y ≤ (yst y + 90) * 1440 + 60 := by
  have := lp_01 y
  unfold begF sunF wdF; simp [cum]; omega
theorem endF_rng (y : Int) : (yst y + 297) * 1440 + 60 ≤ endF y ∧ endF y ≤ (yst y + 304) * 1440 + 60 := by
  have := lp_01 y
  unfold endF sunF wdF; simp [cum]; omega
theorem begF_mod (y : Int) : begF y % 1440 = 60 := by unfold begF; omega
theorem endF_mod (y : Int) : endF y % 1440 = 60 := by unfold endF; omega
theorem sumB_iff (t : Int) : sumB t = true ↔ begF (yearF (t / 1440)) ≤ t ∧ t < endF (yearF (t / 1440)) := by unfold sumB; simp

/-- where summer time turns, a year's summer begins or ends -/
theorem sum_turn {t : Int} (h1 : 1 ≤ t) (h : sumB t ≠ sumB (t - 1)) : t = begF (yearF (t / 1440)) ∨ t = endF (yearF (t / 1440)) := by
  have y1 := yearF_is (day := t / 1440) (by omega)
  have y0 := yearF_is (day := (t - 1) / 1440) (by omega)
  have b1 := begF_rng (yearF (t / 1440))
  have e1 := endF_rng (yearF (t / 1440))
  have i1 := sumB_iff t
  have i0 := sumB_iff (t - 1)
  by_cases e : yearF ((t - 1) / 1440) = yearF (t / 1440)
  · rw [e] at i0
    by_cases a : begF (yearF (t / 1440)) ≤ t ∧ t < endF (yearF (t / 1440))
    · by_cases b : begF (yearF (t / 1440)) ≤ t - 1 ∧ t - 1 < endF (yearF (t / 1440))
      · exact absurd ((i1.2 a).trans (i0.2 b).symm) h
      · omega
    · by_cases b : begF (yearF (t / 1440)) ≤ t - 1 ∧ t - 1 < endF (yearF (t / 1440))
      · omega
      · have c1 : sumB t = false := by cases hh : sumB t with | false => rfl | true => exact absurd (i1.1 hh) a
        have c0 : sumB (t - 1) = false := by cases hh : sumB (t - 1) with | false => rfl | true => exact absurd (i0.1 hh) b
        exact absurd (c1.trans c0.symm) h
  · exfalso
    have hd : t / 1440 = (t - 1) / 1440 + 1 := by
      apply Classical.byContradiction
      intro hne
      have : t / 1440 = (t - 1) / 1440 := by omega
      rw [this] at e
      exact e rfl
    have hm : t % 1440 = 0 := by omega
    have hy : yst (yearF (t / 1440)) = t / 1440 := by
      apply Classical.byContradiction
      intro hne
      apply e
      exact y0.unique ⟨by have := y1.1; omega, by have := y1.2; omega⟩
    have b0 := begF_rng (yearF ((t - 1) / 1440))
    have e0 := endF_rng (yearF ((t - 1) / 1440))
    have hs : yst (yearF ((t - 1) / 1440)) + 365 ≤ t / 1440 := by
      have hy2 : yst (yearF ((t - 1) / 1440) + 1) = t / 1440 := by
        have := y0.2
        have h5 : yearF ((t - 1) / 1440) + 1 = yearF (t / 1440) := by
          rcases Int.lt_trichotomy (yearF ((t - 1) / 1440) + 1) (yearF (t / 1440)) with f | f | f
          · have := yst_lt f; omega
          · exact f
          · have g : yearF (t / 1440) ≤ yearF ((t - 1) / 1440) := by omega
            rcases Int.lt_or_eq_of_le g with k | k
            · have := yst_lt k; have := y0.1; omega
            · exact absurd k.symm e
        rw [h5]; exact hy
      have := yst_succ (yearF ((t - 1) / 1440))
      have := lp_01 (yearF ((t - 1) / 1440))
      omega
    have c1 : sumB t = false := by cases hh : sumB t with | false => rfl | true => have := i1.1 hh; omega
    have c0 : sumB (t - 1) = false := by cases hh : sumB (t - 1) with | false => rfl | true => have := i0.1 hh; omega
    exact absurd (c1.trans c0.symm) h
theorem sum_turn_mod {t : Int} (h1 : 1 ≤ t) (h : sumB t ≠ sumB (t - 1)) : t % 1440 = 60 := by
  rcases sum_turn h1 h with e | e
  · rw [e]; exact begF_mod _
  · rw [e]; exact endF_mod _

/-- two turns lie far apart -/
theorem turns_far {u v : Int} (h1 : 1 ≤ u) (hlt : u < v) (hu : sumB u ≠ sumB (u - 1)) (hv : sumB v ≠ sumB (v - 1)) : 100000 < v - u := by
  have a := sum_turn h1 hu
  have b := sum_turn (by omega) hv
  have yu := yearF_is (day := u / 1440) (by omega)
  have yv := yearF_is (day := v / 1440) (by omega)
  have r1 := begF_rng (yearF (u / 1440))
  have r2 := endF_rng (yearF (u / 1440))
  have r3 := begF_rng (yearF (v / 1440))
  have r4 := endF_rng (yearF (v / 1440))
  rcases Int.lt_trichotomy (yearF (u / 1440)) (yearF (v / 1440)) with e | e | e
  · have := yst_lt e; omega
  · rw [e] at a r1 r2; omega
  · have := yst_lt e; obtain ⟨c, d⟩ := yu; obtain ⟨f, g⟩ := yv; omega

end Go.Proofs.YtlpjniejbblcnaaDoor
