/-
  Plain functions of the calendar: the date of a day; the reference's summer time. No program is named here.
-/
import Derived.Test.YtlpjniejbblcnaaDoorPWin
namespace Go.Proofs.YtlpjniejbblcnaaDoor
set_option linter.unusedVariables false

structure IsDate (y m d day : Int) : Prop where
  yr : IsYear y day
  m1 : 1 ≤ m
  m2 : m ≤ 12
  d1 : 1 ≤ d
  d2 : d ≤ dimF y m
  eq : yst y + cum y m + d - 1 = day
/-- the reference's last Sunday of a month with 31 days, by a day of it -/
def sunR (d w : Int) : Int := d - w % 7 + 7 * ((31 - (d - w % 7)) / 7)
def afterB (m d w min M : Int) : Bool := if m = M then decide (sunR d w < d) || (d == sunR d w && decide (60 ≤ min)) else decide (M < m)
theorem cum_4 (y : Int) : cum y 4 = 90 + lp y := by simp [cum]
theorem cum_3 (y : Int) : cum y 3 = 59 + lp y := by simp [cum]
theorem cum_11 (y : Int) : cum y 11 = 304 + lp y := by simp [cum]
theorem cum_10 (y : Int) : cum y 10 = 273 + lp y := by simp [cum]
theorem cum_le {y a b : Int} (h1 : 1 ≤ a) (h : a ≤ b) (h2 : b ≤ 13) : cum y a ≤ cum y b := by
  rcases Int.lt_or_eq_of_le h with e | e
  · have := cum_mono (y := y) h1 e h2; omega
  · rw [e]; omega
theorem after_iff {y m d day min M : Int} (h : IsDate y m d day) (h0 : 0 ≤ min) (h1 : min < 1440) (hM : M = 3 ∨ M = 10) :
    afterB m d (wdF day) min M = true ↔ sunF y M * 1440 + 60 ≤ day * 1440 + min := by
  have c1 : cum y (M + 1) = cum y M + 31 := by
    rcases hM with rfl | rfl
    · rw [show (3 : Int) + 1 = 4 by rfl, cum_4, cum_3]; omega
    · rw [show (10 : Int) + 1 = 11 by rfl, cum_11, cum_10]; omega
  obtain ⟨hy, m1, m2, d1, d2, e⟩ := h
  have hd := dimF_rng y m
  have hs : sunF y M = yst y + cum y M + 30 - wdF (yst y + cum y M + 30) % 7 := by
    unfold sunF; rw [c1, show yst y + (cum y M + 31) - 1 = yst y + cum y M + 30 by omega]
  have hw : 0 ≤ wdF (yst y + cum y M + 30) % 7 ∧ wdF (yst y + cum y M + 30) % 7 ≤ 6 := by omega
  unfold afterB
  rcases Int.lt_trichotomy m M with c | c | c
  · rw [if_neg (by omega)]
    have := cum_le (y := y) (a := m + 1) (b := M) (by omega) (by omega) (by omega)
    have := cum_succ (y := y) m1 m2
    simp only [decide_eq_true_eq]
    omega
  · subst c
    rw [if_pos rfl]
    have hR : sunR d (wdF day) = 31 - wdF (yst y + cum y m + 30) % 7 := by
      unfold sunR wdF
      rw [← e]
      omega
    rw [hR]
    simp only [Bool.or_eq_true, Bool.and_eq_true, decide_eq_true_eq, beq_iff_eq]
    omega
  · rw [if_neg (by omega)]
    have := cum_le (y := y) (a := M + 1) (b := m) (by omega) (by omega) (by omega)
    simp only [decide_eq_true_eq]
    omega
theorem sum_ref {y m d t : Int} (h : IsDate y m d (t / 1440)) : (afterB m d (wdF (t / 1440)) (t % 1440) 3 && !afterB m d (wdF (t / 1440)) (t % 1440) 10) = sumB t := by
  have a := after_iff (M := 3) h (min := t % 1440) (by omega) (by omega) (.inl rfl)
  have b := after_iff (M := 10) h (min := t % 1440) (by omega) (by omega) (.inr rfl)
  have s := sumB_iff t
  rw [yearF_of h.yr] at s
  unfold begF endF at s
  rw [show t / 1440 * 1440 + t % 1440 = t by omega] at a b
  rw [Bool.eq_iff_iff, s, Bool.and_eq_true, a, Bool.not_eq_true', ← Bool.not_eq_true, b]
  omega

end Go.Proofs.YtlpjniejbblcnaaDoor
