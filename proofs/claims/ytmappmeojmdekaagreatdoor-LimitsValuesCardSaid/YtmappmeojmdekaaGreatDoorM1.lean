/-
  Plain functions of the calendar: years, months, weekdays, summer time. No program is named here.
  Plain functions of windows: when a window holds, its next change. No program is named here.
  Plain functions of windows: the reference's candidates; the spans. No program is named here.
  Small words for walks: endings, worlds behind calls. No program is named here.
  Slices whose elements take a fixed number of cells: a slice value that reads as a list of rows. No program is named here.
  A number that a cell of 64 bits may hold. No program is named here.
-/
import Derived.WalkKit
import Derived.WalkSpells
import Derived.WalkLawsBesides
import Derived.Deep.QuietTactic
import Derived.BigQuiet
import Derived.Lib.OthersKept
import Derived.Lib.Hide
import Derived.Lib.Strings
import Derived.Lib.SmallJoins
import Derived.Maps.AppendAt

namespace Go.Proofs.YtmappmeojmdekaaGreatDoor
set_option linter.unusedVariables false

/-- the day on which a year begins, counted from 2000-01-01 -/
def yst (y : Int) : Int := 365 * (y - 2000) + (y - 2000 + 3) / 4 - (y - 2000 + 99) / 100 + (y - 2000 + 399) / 400
def leapB (y : Int) : Bool := y % 4 == 0 && (y % 100 != 0 || y % 400 == 0)
def lp (y : Int) : Int := if leapB y then 1 else 0
theorem lp_01 (y : Int) : 0 ≤ lp y ∧ lp y ≤ 1 := by unfold lp; split <;> omega
theorem leapB_iff (y : Int) : leapB y = true ↔ y % 4 = 0 ∧ (y % 100 ≠ 0 ∨ y % 400 = 0) := by unfold leapB; simp
theorem yst_succ (y : Int) : yst (y + 1) = yst y + 365 + lp y := by
  unfold lp
  by_cases h : leapB y = true
  · rw [if_pos h]; rw [leapB_iff] at h; unfold yst; omega
  · rw [if_neg h]; rw [leapB_iff] at h; unfold yst; omega
theorem yst_zero : yst 2000 = 0 := by decide
theorem yst_nat (y : Int) (n : Nat) : yst y + 365 * n ≤ yst (y + n) := by
  induction n with
  | zero => simp
  | succ n ih =>
    have h := yst_succ (y + n)
    have := lp_01 (y + n)
    rw [show y + ((n + 1 : Nat) : Int) = y + n + 1 by omega]
    omega
theorem yst_lt {a b : Int} (h : a < b) : yst a + 365 ≤ yst b := by
  obtain ⟨n, rfl⟩ : ∃ n : Nat, b = a + 1 + n := ⟨(b - a - 1).toNat, by omega⟩
  have h1 := yst_succ a
  have h2 := lp_01 a
  have h3 := yst_nat (a + 1) n
  omega

/-- y is the year of a day -/
def IsYear (y day : Int) : Prop := yst y ≤ day ∧ day < yst (y + 1)
theorem IsYear.unique {y z day : Int} (h : IsYear y day) (g : IsYear z day) : y = z := by
  obtain ⟨a, b⟩ := h
  obtain ⟨c, d⟩ := g
  rcases Int.lt_trichotomy y z with e | e | e
  · rcases Int.lt_or_eq_of_le (show y + 1 ≤ z by omega) with f | f
    · have := yst_lt f; omega
    · subst f; omega
  · exact e
  · rcases Int.lt_or_eq_of_le (show z + 1 ≤ y by omega) with f | f
    · have := yst_lt f; omega
    · subst f; omega
theorem isYear_nat (n : Nat) : ∃ y : Int, 2000 ≤ y ∧ IsYear y n := by
  induction n with
  | zero => exact ⟨2000, by omega, by constructor <;> decide⟩
  | succ n ih =>
    obtain ⟨y, h1, h2, h3⟩ := ih
    by_cases h : ((n : Int) + 1) < yst (y + 1)
    · exact ⟨y, h1, by push_cast; omega, by push_cast; omega⟩
    · have a := yst_succ (y + 1)
      have b := lp_01 (y + 1)
      exact ⟨y + 1, by omega, by push_cast; omega, by push_cast; omega⟩
open Classical in
noncomputable def yearF (day : Int) : Int := if h : ∃ y, IsYear y day then h.choose else 0
theorem yearF_of {y day : Int} (h : IsYear y day) : yearF day = y := by
  have g : ∃ y, IsYear y day := ⟨y, h⟩
  unfold yearF
  rw [dif_pos g]
  exact g.choose_spec.unique h
theorem yearF_is {day : Int} (h : 0 ≤ day) : IsYear (yearF day) day := by
  obtain ⟨y, _, hy⟩ := isYear_nat day.toNat
  rw [Int.toNat_of_nonneg h] at hy
  rw [yearF_of hy]; exact hy
theorem yearF_ge {day : Int} (h : 0 ≤ day) : 2000 ≤ yearF day := by
  obtain ⟨y, h1, hy⟩ := isYear_nat day.toNat
  rw [Int.toNat_of_nonneg h] at hy
  rw [yearF_of hy]; exact h1

/-- the weekday of a day: 1 Monday to 7 Sunday -/
def wdF (day : Int) : Int := (day + 5) % 7 + 1
theorem wdF_rng (day : Int) : 1 ≤ wdF day ∧ wdF day ≤ 7 := by unfold wdF; omega

/-- the days of a year before month m (1 to 13) -/
def cum (y m : Int) : Int :=
  if m ≤ 1 then 0 else if m = 2 then 31 else if m = 3 then 59 + lp y else if m = 4 then 90 + lp y else if m = 5 then 120 + lp y else if m = 6 then 151 + lp y else if m = 7 then 181 + lp y else
  if m = 8 then 212 + lp y else if m = 9 then 243 + lp y else if m = 10 then 273 + lp y else if m = 11 then 304 + lp y else if m = 12 then 334 + lp y else 365 + lp y
/-- the days of a month -/
def dimF (y m : Int) : Int := if m = 2 then 28 + lp y else if m = 4 ∨ m = 6 ∨ m = 9 ∨ m = 11 then 30 else 31
theorem month_cases {m : Int} (h1 : 1 ≤ m) (h2 : m ≤ 12) : m = 1 ∨ m = 2 ∨ m = 3 ∨ m = 4 ∨ m = 5 ∨ m = 6 ∨ m = 7 ∨ m = 8 ∨ m = 9 ∨ m = 10 ∨ m = 11 ∨ m = 12 := by omega
theorem cum_succ {y m : Int} (h1 : 1 ≤ m) (h2 : m ≤ 12) : cum y (m + 1) = cum y m + dimF y m := by
  rcases month_cases h1 h2 with rfl | rfl | rfl | rfl | rfl | rfl | rfl | rfl | rfl | rfl | rfl | rfl <;> simp [cum, dimF] <;> omega
theorem dimF_rng (y m : Int) : 28 ≤ dimF y m ∧ dimF y m ≤ 31 := by
  have := lp_01 y
  unfold dimF; repeat' split
  all_goals omega
theorem cum_one (y : Int) : cum y 1 = 0 := by simp [cum]
theorem cum_13 (y : Int) : cum y 13 = 365 + lp y := by simp [cum]
theorem cum_rng (y m : Int) : 0 ≤ cum y m ∧ cum y m ≤ 366 := by
  have := lp_01 y
  unfold cum; omega
theorem cum_mono {y a b : Int} (h1 : 1 ≤ a) (h : a < b) (h2 : b ≤ 13) : cum y a + 28 ≤ cum y b := by
  obtain ⟨n, rfl⟩ : ∃ n : Nat, b = a + 1 + n := ⟨(b - a - 1).toNat, by omega⟩
  induction n with
  | zero => have := cum_succ (y := y) h1 (by omega); have := dimF_rng y a; simp; omega
  | succ n ih =>
    have := ih (by omega) (by omega)
    have h3 := cum_succ (y := y) (m := a + 1 + n) (by omega) (by omega)
    have := dimF_rng y (a + 1 + n)
    rw [show a + 1 + ((n + 1 : Nat) : Int) = a + 1 + n + 1 by omega]
    omega

/-- the last Sunday of a month -/
def sunF (y m : Int) : Int := yst y + cum y (m + 1) - 1 - wdF (yst y + cum y (m + 1) - 1) % 7
/-- summer time begins and ends -/
def begF (y : Int) : Int := sunF y 3 * 1440 + 60
def endF (y : Int) : Int := sunF y 10 * 1440 + 60
noncomputable def sumB (t : Int) : Bool := decide (begF (yearF (t / 1440)) ≤ t) && decide (t < endF (yearF (t / 1440)))
theorem begF_rng (y : Int) : (yst y + 83) * 1440 + 60 ≤ begF y ∧ begF y ≤ (yst y + 90) * 1440 + 60 := by
  have := lp_01 y
  unfold begF sunF wdF; simp [cum]; omega
theorem endF_rng (y : Int) : (yst y + 297) * 1440 + 60 ≤ endF y ∧ endF y ≤ (yst y + 304) * 1440 + 60 := by
  have := lp_01 y
  unfold endF sunF wdF; simp [cum]; omega
theorem begF_mod (y : Int) : begF y % 1440 = 60 := by unfold begF; omega
theorem endF_mod (y : Int) : endF y % 1440 = 60 := by unfold endF; omega
theorem sumB_iff (t : Int) : sumB t = true ↔ begF (yearF (t / 1440)) ≤ t ∧ t < endF (yearF (t / 1440)) := by unfold sumB; simp

/-- where summer time turns, a year's summer begins or ends -/
theorem sum_turn {t : Int} (h1 : 1 ≤ t) (h : sumB t ≠ sumB (t - 1)) : t = begF (yearF (t / 1440)) ∨ t = endF (yearF (t / 1440)) := by
  have y1 := yearF_is (day := t / 1440) (by omega)
  have y0 := yearF_is (day := (t - 1) / 1440) (by omega)
  have b1 := begF_rng (yearF (t / 1440))
  have e1 := endF_rng (yearF (t / 1440))
  have i1 := sumB_iff t
  have i0 := sumB_iff (t - 1)
  by_cases e : yearF ((t - 1) / 1440) = yearF (t / 1440)
  · rw [e] at i0
    by_cases a : begF (yearF (t / 1440)) ≤ t ∧ t < endF (yearF (t / 1440))
    · by_cases b : begF (yearF (t / 1440)) ≤ t - 1 ∧ t - 1 < endF (yearF (t / 1440))
      · exact absurd ((i1.2 a).trans (i0.2 b).symm) h
      · omega
    · by_cases b : begF (yearF (t / 1440)) ≤ t - 1 ∧ t - 1 < endF (yearF (t / 1440))
      · omega
      · have c1 : sumB t = false := by cases hh : sumB t with | false => rfl | true => exact absurd (i1.1 hh) a
        have c0 : sumB (t - 1) = false := by cases hh : sumB (t - 1) with | false => rfl | true => exact absurd (i0.1 hh) b
        exact absurd (c1.trans c0.symm) h
  · exfalso
    have hd : t / 1440 = (t - 1) / 1440 + 1 := by
      apply Classical.byContradiction
      intro hne
      have : t / 1440 = (t - 1) / 1440 := by omega
      rw [this] at e
      exact e rfl
    have hm : t % 1440 = 0 := by omega
    have hy : yst (yearF (t / 1440)) = t / 1440 := by
      apply Classical.byContradiction
      intro hne
      apply e
      exact y0.unique ⟨by have := y1.1; omega, by have := y1.2; omega⟩
    have b0 := begF_rng (yearF ((t - 1) / 1440))
    have e0 := endF_rng (yearF ((t - 1) / 1440))
    have hs : yst (yearF ((t - 1) / 1440)) + 365 ≤ t / 1440 := by
      have hy2 : yst (yearF ((t - 1) / 1440) + 1) = t / 1440 := by
        have := y0.2
        have h5 : yearF ((t - 1) / 1440) + 1 = yearF (t / 1440) := by
          rcases Int.lt_trichotomy (yearF ((t - 1) / 1440) + 1) (yearF (t / 1440)) with f | f | f
          · have := yst_lt f; omega
          · exact f
          · have g : yearF (t / 1440) ≤ yearF ((t - 1) / 1440) := by omega
            rcases Int.lt_or_eq_of_le g with k | k
            · have := yst_lt k; have := y0.1; omega
            · exact absurd k.symm e
        rw [h5]; exact hy
      have := yst_succ (yearF ((t - 1) / 1440))
      have := lp_01 (yearF ((t - 1) / 1440))
      omega
    have c1 : sumB t = false := by cases hh : sumB t with | false => rfl | true => have := i1.1 hh; omega
    have c0 : sumB (t - 1) = false := by cases hh : sumB (t - 1) with | false => rfl | true => have := i0.1 hh; omega
    exact absurd (c1.trans c0.symm) h
theorem sum_turn_mod {t : Int} (h1 : 1 ≤ t) (h : sumB t ≠ sumB (t - 1)) : t % 1440 = 60 := by
  rcases sum_turn h1 h with e | e
  · rw [e]; exact begF_mod _
  · rw [e]; exact endF_mod _

/-- two turns lie far apart -/
theorem turns_far {u v : Int} (h1 : 1 ≤ u) (hlt : u < v) (hu : sumB u ≠ sumB (u - 1)) (hv : sumB v ≠ sumB (v - 1)) : 100000 < v - u := by
  have a := sum_turn h1 hu
  have b := sum_turn (by omega) hv
  have yu := yearF_is (day := u / 1440) (by omega)
  have yv := yearF_is (day := v / 1440) (by omega)
  have r1 := begF_rng (yearF (u / 1440))
  have r2 := endF_rng (yearF (u / 1440))
  have r3 := begF_rng (yearF (v / 1440))
  have r4 := endF_rng (yearF (v / 1440))
  rcases Int.lt_trichotomy (yearF (u / 1440)) (yearF (v / 1440)) with e | e | e
  · have := yst_lt e; omega
  · rw [e] at a r1 r2; omega
  · have := yst_lt e; obtain ⟨c, d⟩ := yu; obtain ⟨f, g⟩ := yv; omega

end Go.Proofs.YtmappmeojmdekaaGreatDoor

namespace Go.Proofs.YtmappmeojmdekaaGreatDoor
set_option linter.unusedVariables false

structure WinR where
  dy : Int
  st : Int
  en : Int
  fr : Int
  to : Int
structure ZoneR where
  off : Int
  sum : Bool
def maxT : Int := 268435456
def onB (days w : Int) : Bool := days == 0 || days / 2 ^ (w - 1).toNat % 2 == 1
def dayB (days st en w m : Int) : Bool :=
  if st = en then onB days w
  else if st < en then onB days w && (decide (st ≤ m) && decide (m < en))
  else (onB days w && decide (st ≤ m)) || (onB days ((w + 5) % 7 + 1) && decide (m < en))
def zoneB (z : ZoneR) : Bool := decide (-840 ≤ z.off) && decide (z.off ≤ 840)
def timeB (t : Int) : Bool := decide (0 ≤ t) && decide (t ≤ maxT)
def winB (W : WinR) : Bool :=
  decide (0 ≤ W.dy) && decide (W.dy ≤ 127) && (decide (0 ≤ W.st) && decide (W.st < 1440)) && (decide (0 ≤ W.en) && decide (W.en < 1440)) && (decide (0 ≤ W.fr) && decide (W.fr ≤ maxT)) && (W.to == -1 || (decide (W.fr ≤ W.to) && decide (W.to ≤ maxT)))
structure WinOk (W : WinR) : Prop where
  d0 : 0 ≤ W.dy
  d1 : W.dy ≤ 127
  s0 : 0 ≤ W.st
  s1 : W.st < 1440
  e0 : 0 ≤ W.en
  e1 : W.en < 1440
  f0 : 0 ≤ W.fr
  f1 : W.fr ≤ 268435456
  t : W.to = -1 ∨ (W.fr ≤ W.to ∧ W.to ≤ 268435456)
theorem winB_iff {W : WinR} : winB W = true ↔ WinOk W := by
  unfold winB maxT
  simp only [Bool.and_eq_true, Bool.or_eq_true, decide_eq_true_eq, beq_iff_eq]
  constructor
  · rintro ⟨⟨⟨⟨⟨a, b⟩, c, d⟩, e, f⟩, g, h⟩, i⟩
    exact ⟨a, b, c, d, e, f, g, h, i⟩
  · rintro ⟨a, b, c, d, e, f, g, h, i⟩
    exact ⟨⟨⟨⟨⟨a, b⟩, c, d⟩, e, f⟩, g, h⟩, i⟩
def winE (W : WinR) : Int := if winB W = true then 0 else 1
theorem winE_ok {W : WinR} (h : WinOk W) : winE W = 0 := if_pos (winB_iff.2 h)
theorem winE_no {W : WinR} (h : ¬ WinOk W) : winE W = 1 := if_neg (fun g => h (winB_iff.1 g))
theorem winE_true {W : WinR} (h : winB W = true) : winE W = 0 := if_pos h
theorem winE_false {W : WinR} (h : winB W = false) : winE W = 1 := if_neg (by rw [h]; decide)
theorem zoneB_iff {z : ZoneR} : zoneB z = true ↔ -840 ≤ z.off ∧ z.off ≤ 840 := by unfold zoneB; simp
theorem timeB_iff {t : Int} : timeB t = true ↔ 0 ≤ t ∧ t ≤ 268435456 := by unfold timeB maxT; simp
noncomputable def offF (z : ZoneR) (t : Int) : Int := if z.sum && sumB t then z.off + 60 else z.off
noncomputable def patB (W : WinR) (z : ZoneR) (t : Int) : Bool := dayB W.dy W.st W.en (wdF ((t + offF z t) / 1440)) ((t + offF z t) % 1440)
noncomputable def inB (W : WinR) (t : Int) : Bool := decide (W.fr ≤ t) && (W.to == -1 || decide (t < W.to))
noncomputable def holdsB (W : WinR) (z : ZoneR) (t : Int) : Bool := winB W && zoneB z && timeB t && inB W t && patB W z t
theorem inB_iff {W : WinR} {t : Int} : inB W t = true ↔ W.fr ≤ t ∧ (W.to = -1 ∨ t < W.to) := by unfold inB; simp

/-- r is the least time after t at which H differs from what it was a minute before; -1: there is none -/
def NextSpec (H : Int → Bool) (t r : Int) : Prop :=
  (t < r ∧ r ≤ maxT ∧ H r ≠ H (r - 1) ∧ ∀ u, t < u → u < r → H u = H (u - 1)) ∨ (r = -1 ∧ ∀ u, t < u → u ≤ maxT → H u = H (u - 1))
theorem NextSpec.unique {H : Int → Bool} {t r s : Int} (h : NextSpec H t r) (g : NextSpec H t s) : r = s := by
  rcases h with ⟨a, b, c, d⟩ | ⟨rfl, d⟩ <;> rcases g with ⟨a', b', c', d'⟩ | ⟨rfl, d'⟩
  · rcases Int.lt_trichotomy r s with e | e | e
    · exact absurd (d' r a e) c
    · exact e
    · exact absurd (d s a' e) c'
  · exact absurd (d' r a b) c
  · exact absurd (d s a' b') c'
  · rfl
open Classical in
noncomputable def nextF (H : Int → Bool) (t : Int) : Int := if h : ∃ r, NextSpec H t r then h.choose else 0
theorem nextF_of {H : Int → Bool} {t r : Int} (h : NextSpec H t r) : nextF H t = r := by
  have g : ∃ r, NextSpec H t r := ⟨r, h⟩
  unfold nextF
  rw [dif_pos g]
  exact g.choose_spec.unique h
/-- the least of some natural numbers that have a property, or none has it -/
theorem least_or (P : Nat → Prop) (n : Nat) : (∃ k, k < n ∧ P k ∧ ∀ j, j < k → ¬ P j) ∨ ∀ k, k < n → ¬ P k := by
  induction n with
  | zero => exact .inr fun k h => absurd h (Nat.not_lt_zero k)
  | succ n ih =>
    rcases ih with ⟨k, h1, h2, h3⟩ | h
    · exact .inl ⟨k, by omega, h2, h3⟩
    · by_cases hn : P n
      · exact .inl ⟨n, by omega, hn, h⟩
      · refine .inr fun k hk => ?_
        rcases Nat.lt_or_eq_of_le (Nat.le_of_lt_succ hk) with e | e
        · exact h k e
        · subst e; exact hn
theorem next_exists (H : Int → Bool) (t : Int) (h0 : -1 ≤ t) : ∃ r, NextSpec H t r := by
  rcases least_or (fun k => H (t + 1 + k) ≠ H (t + k)) (maxT - t).toNat with ⟨k, h1, h2, h3⟩ | h
  · have hm : (k : Int) < maxT - t := by omega
    refine ⟨t + 1 + k, .inl ⟨by omega, by omega, by rw [show t + 1 + (k : Int) - 1 = t + k by omega]; exact h2, fun u a b => ?_⟩⟩
    have := h3 (u - t - 1).toNat (by omega)
    rw [show t + 1 + ((u - t - 1).toNat : Int) = u by omega, show t + ((u - t - 1).toNat : Int) = u - 1 by omega] at this
    exact Classical.not_not.1 this
  · refine ⟨-1, .inr ⟨rfl, fun u a b => ?_⟩⟩
    have := h (u - t - 1).toNat (by omega)
    rw [show t + 1 + ((u - t - 1).toNat : Int) = u by omega, show t + ((u - t - 1).toNat : Int) = u - 1 by omega] at this
    exact Classical.not_not.1 this
theorem nextF_spec (H : Int → Bool) {t : Int} (h0 : -1 ≤ t) : NextSpec H t (nextF H t) := by
  obtain ⟨r, h⟩ := next_exists H t h0
  rw [nextF_of h]; exact h
theorem nextF_rng (H : Int → Bool) {t : Int} (h0 : -1 ≤ t) : nextF H t = -1 ∨ (t < nextF H t ∧ nextF H t ≤ 268435456) := by
  rcases nextF_spec H h0 with ⟨a, b, _⟩ | ⟨a, _⟩
  · exact .inr ⟨a, b⟩
  · exact .inl a
/-- H is constant from t until before the next change -/
theorem const_of {H : Int → Bool} {t r : Int} (h : ∀ u, t < u → u < r → H u = H (u - 1)) : ∀ u, t ≤ u → u < r → H u = H t := by
  intro u hu hr
  obtain ⟨n, rfl⟩ : ∃ n : Nat, u = t + n := ⟨(u - t).toNat, by omega⟩
  clear hu
  induction n with
  | zero => simp
  | succ n ih =>
    rw [h _ (by omega) hr, show t + ((n + 1 : Nat) : Int) - 1 = t + n by omega]
    exact ih (by omega)

/-- what is asked of a window and a zone throughout -/
theorem dayB_step {d s e w m : Int} (h : dayB d s e w m ≠ dayB d s e w (m - 1)) : m = s ∨ m = e := by
  apply Classical.byContradiction
  intro hn
  apply h
  have a : decide (s ≤ m) = decide (s ≤ m - 1) := by simp; omega
  have b : decide (m < e) = decide (m - 1 < e) := by simp; omega
  unfold dayB
  rw [a, b]
theorem off_turn {z : ZoneR} {t : Int} (h1 : 1 ≤ t) (h : offF z t ≠ offF z (t - 1)) : z.sum = true ∧ sumB t ≠ sumB (t - 1) := by
  unfold offF at h
  cases hz : z.sum with
  | false => simp [hz] at h
  | true =>
    refine ⟨rfl, fun e => h ?_⟩
    rw [e]
/-- the minutes of the day, in UTC, at which a window may begin or end -/
def edgeP (W : WinR) (z : ZoneR) (x : Int) : Prop :=
  (x = (0 - z.off) % 1440 ∨ x = (W.st - z.off) % 1440 ∨ x = (W.en - z.off) % 1440) ∨
  z.sum = true ∧ (x = 60 ∨ x = (0 - z.off - 60) % 1440 ∨ x = (W.st - z.off - 60) % 1440 ∨ x = (W.en - z.off - 60) % 1440)
/-- the local minutes at which a window may begin or end -/
theorem pat_local {W : WinR} {z : ZoneR} {t : Int} (ho : offF z t = offF z (t - 1)) (h : patB W z t ≠ patB W z (t - 1)) :
    (t + offF z t) % 1440 = 0 ∨ (t + offF z t) % 1440 = W.st ∨ (t + offF z t) % 1440 = W.en := by
  apply Classical.byContradiction
  intro hn
  apply h
  unfold patB
  rw [← ho]
  have hm : (t - 1 + offF z t) % 1440 = (t + offF z t) % 1440 - 1 := by omega
  have hd : (t - 1 + offF z t) / 1440 = (t + offF z t) / 1440 := by omega
  rw [hm, hd]
  apply Classical.byContradiction
  intro hc
  have := dayB_step hc
  omega
theorem pat_edge {W : WinR} {z : ZoneR} (hW : WinOk W) {t : Int} (h1 : 1 ≤ t) (h : patB W z t ≠ patB W z (t - 1)) : edgeP W z (t % 1440) := by
  by_cases ho : offF z t = offF z (t - 1)
  · have hl := pat_local ho h
    obtain ⟨_, _, s0, s1, e0, e1, _, _, _⟩ := hW
    unfold offF at hl
    unfold edgeP
    by_cases hz : (z.sum && sumB t) = true
    · rw [if_pos hz] at hl
      rw [Bool.and_eq_true] at hz
      exact .inr ⟨hz.1, by omega⟩
    · rw [if_neg hz] at hl
      exact .inl (by omega)
  · obtain ⟨a, b⟩ := off_turn h1 ho
    exact .inr ⟨a, .inl (sum_turn_mod h1 b)⟩

theorem holdsB_in {W : WinR} {z : ZoneR} (hW : winB W = true) (hz : zoneB z = true) {t : Int} (h0 : 0 ≤ t) (h1 : t ≤ 268435456) (h2 : W.fr ≤ t) (h3 : W.to = -1 ∨ t < W.to) : holdsB W z t = patB W z t := by
  unfold holdsB
  rw [hW, hz, timeB_iff.2 ⟨h0, h1⟩, inB_iff.2 ⟨h2, h3⟩]; rfl
theorem holdsB_out {W : WinR} {z : ZoneR} {t : Int} (h : inB W t = false) : holdsB W z t = false := by
  unfold holdsB; rw [h]; simp
theorem holdsB_before {W : WinR} {z : ZoneR} {t : Int} (h : t < W.fr) : holdsB W z t = false := by
  refine holdsB_out ?_
  cases hh : inB W t with
  | false => rfl
  | true => have := inB_iff.1 hh; omega
theorem holdsB_after {W : WinR} {z : ZoneR} {t : Int} (h0 : W.to ≠ -1) (h : W.to ≤ t) : holdsB W z t = false := by
  refine holdsB_out ?_
  cases hh : inB W t with
  | false => rfl
  | true => have := inB_iff.1 hh; omega

/-- the end of a window -/
def endT (W : WinR) : Int := if 0 ≤ W.to then W.to else 268435457
/-- between its edges a window does not change -/
theorem holds_const {W : WinR} {z : ZoneR} (hW : winB W = true) (hz : zoneB z = true) {t r : Int} (h0 : W.fr ≤ t) (hr : r ≤ endT W)
    (h : ∀ u, t < u → u < r → edgeP W z (u % 1440) → holdsB W z u = holdsB W z t) : ∀ u, t ≤ u → u < r → holdsB W z u = holdsB W z t := by
  have ok := winB_iff.1 hW
  intro u hu hr'
  obtain ⟨n, rfl⟩ : ∃ n : Nat, u = t + n := ⟨(u - t).toNat, by omega⟩
  clear hu
  induction n with
  | zero => simp
  | succ n ih =>
    have i := ih (by omega)
    have f0 := ok.f0
    have ht := ok.t
    have e1 : holdsB W z (t + ((n + 1 : Nat) : Int)) = patB W z (t + ((n + 1 : Nat) : Int)) := by
      unfold endT at hr
      refine holdsB_in hW hz (by omega) ?_ (by omega) ?_ <;> split at hr <;> omega
    have e2 : holdsB W z (t + (n : Int)) = patB W z (t + (n : Int)) := by
      unfold endT at hr
      refine holdsB_in hW hz (by omega) ?_ (by omega) ?_ <;> split at hr <;> omega
    by_cases hp : patB W z (t + ((n + 1 : Nat) : Int)) = patB W z (t + ((n + 1 : Nat) : Int) - 1)
    · rw [e1, hp, show t + ((n + 1 : Nat) : Int) - 1 = t + n by omega, ← e2]; exact i
    · exact h _ (by omega) hr' (pat_edge ok (by omega) hp)
theorem step_of {H : Int → Bool} {t r : Int} (h : ∀ u, t ≤ u → u < r → H u = H t) : ∀ u, t < u → u < r → H u = H (u - 1) := fun u a b => by
  rw [h u (by omega) b, h (u - 1) (by omega) (by omega)]
/-- the first edge after t at which the window differs -/
theorem next_found {W : WinR} {z : ZoneR} (hW : winB W = true) (hz : zoneB z = true) {t r : Int} (h0 : W.fr ≤ t) (h1 : t < r) (hr : r < endT W) (hd : holdsB W z r ≠ holdsB W z t)
    (h : ∀ u, t < u → u < r → edgeP W z (u % 1440) → holdsB W z u = holdsB W z t) : NextSpec (holdsB W z) t r := by
  have hc := holds_const hW hz h0 (Int.le_of_lt hr) h
  have ok := winB_iff.1 hW
  refine .inl ⟨h1, ?_, ?_, step_of hc⟩
  · have := ok.t; unfold endT at hr; unfold maxT; split at hr <;> omega
  · rw [hc (r - 1) (by omega) (by omega)]; exact hd
/-- no edge before the window's end at which it differs -/
theorem next_none {W : WinR} {z : ZoneR} (hW : winB W = true) (hz : zoneB z = true) {t : Int} (h0 : W.fr ≤ t) (h1 : t < endT W)
    (h : ∀ u, t < u → u < endT W → edgeP W z (u % 1440) → holdsB W z u = holdsB W z t) :
    NextSpec (holdsB W z) t (if holdsB W z t && decide (0 ≤ W.to) then W.to else -1) := by
  have hc := holds_const hW hz h0 (Int.le_refl _) h
  have ok := winB_iff.1 hW
  have hs := step_of hc
  have f0 := ok.f0
  have ht := ok.t
  unfold endT at hc hs h1
  by_cases h2 : 0 ≤ W.to
  · rw [if_pos h2] at hc hs h1
    have he : holdsB W z W.to = false := holdsB_after (by omega) (by omega)
    cases hh : holdsB W z t with
    | true =>
      rw [if_pos (by simpa using h2)]
      refine .inl ⟨h1, by unfold maxT; omega, ?_, hs⟩
      rw [he, hc (W.to - 1) (by omega) (by omega), hh]; decide
    | false =>
      rw [if_neg (by simp)]
      refine .inr ⟨rfl, fun u a b => ?_⟩
      rcases Int.lt_trichotomy u W.to with c | c | c
      · exact hs u a c
      · rw [c, he, hc (W.to - 1) (by omega) (by omega), hh]
      · rw [holdsB_after (by omega) (by omega), holdsB_after (by omega) (by omega)]
  · rw [if_neg h2] at hc hs h1
    rw [if_neg (by simp; omega)]
    exact .inr ⟨rfl, fun u a b => hs u a (by unfold maxT at b; omega)⟩
theorem next_late {W : WinR} {z : ZoneR} (hW : winB W = true) {t : Int} (h : endT W ≤ t) (h2 : t ≤ 268435456) : NextSpec (holdsB W z) t (-1) := by
  have ok := winB_iff.1 hW
  have ht := ok.t
  have f0 := ok.f0
  unfold endT at h
  refine .inr ⟨rfl, fun u a b => ?_⟩
  split at h
  · rw [holdsB_after (by omega) (by omega), holdsB_after (by omega) (by omega)]
  · omega
/-- before its beginning a window does not hold -/
theorem next_early {W : WinR} {z : ZoneR} (hW : winB W = true) {t : Int} (h : t < W.fr) (hh : holdsB W z W.fr = true) : NextSpec (holdsB W z) t W.fr := by
  have ok := winB_iff.1 hW
  refine .inl ⟨h, ok.f1, ?_, fun u a b => ?_⟩
  · rw [hh, holdsB_before (by omega)]; decide
  · rw [holdsB_before (by omega), holdsB_before (by omega)]
theorem next_from {W : WinR} {z : ZoneR} {t r : Int} (h : t < W.fr) (hh : holdsB W z W.fr = false) (hn : NextSpec (holdsB W z) W.fr r) : NextSpec (holdsB W z) t r := by
  have hb : ∀ u, t < u → u ≤ W.fr → holdsB W z u = holdsB W z (u - 1) := fun u a b => by
    rcases Int.lt_or_eq_of_le b with c | c
    · rw [holdsB_before (by omega), holdsB_before (by omega)]
    · rw [c, hh, holdsB_before (by omega)]
  rcases hn with ⟨a, b, c, d⟩ | ⟨e, d⟩
  · refine .inl ⟨by omega, b, c, fun u x y => ?_⟩
    by_cases g : u ≤ W.fr
    · exact hb u x g
    · exact d u (by omega) y
  · refine .inr ⟨e, fun u x y => ?_⟩
    by_cases g : u ≤ W.fr
    · exact hb u x g
    · exact d u (by omega) y
/-- a window on all days without a beginning and an end of the day always holds -/
theorem pat_all {W : WinR} (hW : winB W = true) (z : ZoneR) (he : W.st = W.en) (hd : W.dy = 0 ∨ W.dy = 127) (t : Int) : patB W z t = true := by
  unfold patB dayB
  rw [if_pos he]
  have h := wdF_rng ((t + offF z t) / 1440)
  generalize wdF ((t + offF z t) / 1440) = w at *
  unfold onB
  rcases hd with e | e
  · rw [e]; rfl
  · rw [e]
    have : w = 1 ∨ w = 2 ∨ w = 3 ∨ w = 4 ∨ w = 5 ∨ w = 6 ∨ w = 7 := by omega
    rcases this with rfl | rfl | rfl | rfl | rfl | rfl | rfl <;> decide

/-- in a week of one offset each weekday has each of its minutes -/
theorem pat_week {W : WinR} {z : ZoneR} {a : Int} {c : Bool} (ho : ∀ u, a ≤ u → u < a + 10080 → offF z u = offF z a) (hp : ∀ u, a ≤ u → u < a + 10080 → patB W z u = c) (t : Int) : patB W z t = c := by
  have key : ∀ L : Int, dayB W.dy W.st W.en (wdF (L / 1440)) (L % 1440) = c := fun L => by
    have hu := hp (a + (L - offF z a - a) % 10080) (by omega) (by omega)
    have hv := ho (a + (L - offF z a - a) % 10080) (by omega) (by omega)
    unfold patB at hu
    rw [hv] at hu
    have e1 : (a + (L - offF z a - a) % 10080 + offF z a) % 1440 = L % 1440 := by omega
    have e2 : wdF ((a + (L - offF z a - a) % 10080 + offF z a) / 1440) = wdF (L / 1440) := by
      unfold wdF
      omega
    rw [e1, e2] at hu
    exact hu
  unfold patB
  exact key _
/-- two weeks without a change: the pattern never changes -/
theorem pat_calm {W : WinR} {z : ZoneR} {a : Int} {c : Bool} (h0 : 0 ≤ a) (hp : ∀ u, a ≤ u → u < a + 20160 → patB W z u = c) (t : Int) : patB W z t = c := by
  by_cases h : ∃ u, a < u ∧ u < a + 10080 ∧ offF z u ≠ offF z (u - 1)
  · obtain ⟨u, h1, h2, h3⟩ := h
    obtain ⟨hs, hu⟩ := off_turn (by omega) h3
    refine pat_week (a := a + 10080) (c := c) (fun v h4 h5 => ?_) (fun v h4 h5 => hp v (by omega) (by omega)) t
    obtain ⟨n, rfl⟩ : ∃ n : Nat, v = a + 10080 + n := ⟨(v - (a + 10080)).toNat, by omega⟩
    clear h4
    induction n with
    | zero => simp
    | succ n ih =>
      rw [← ih (by omega)]
      apply Classical.byContradiction
      intro hne
      have hq : offF z (a + 10080 + ((n + 1 : Nat) : Int)) ≠ offF z (a + 10080 + ((n + 1 : Nat) : Int) - 1) := by
        rw [show a + 10080 + ((n + 1 : Nat) : Int) - 1 = a + 10080 + n by omega]; exact hne
      have := turns_far (by omega) (show u < a + 10080 + ((n + 1 : Nat) : Int) by omega) hu (off_turn (by omega) hq).2
      omega
  · refine pat_week (a := a) (c := c) (fun v h4 h5 => ?_) (fun v h4 h5 => hp v (by omega) (by omega)) t
    obtain ⟨n, rfl⟩ : ∃ n : Nat, v = a + n := ⟨(v - a).toNat, by omega⟩
    clear h4
    induction n with
    | zero => simp
    | succ n ih =>
      rw [← ih (by omega)]
      apply Classical.byContradiction
      intro hne
      refine h ⟨a + ((n + 1 : Nat) : Int), by omega, by omega, ?_⟩
      rw [show a + ((n + 1 : Nat) : Int) - 1 = a + n by omega]; exact hne

end Go.Proofs.YtmappmeojmdekaaGreatDoor

namespace Go.Proofs.YtmappmeojmdekaaGreatDoor
set_option linter.unusedVariables false

def waitF (minute m : Int) : Int := if minute < m then m - minute else m - minute + 1440
noncomputable def candF (W : WinR) (z : ZoneR) (t : Int) : Int :=
  let n := min (min (min (waitF ((t + offF z t) % 1440) W.st) (waitF ((t + offF z t) % 1440) W.en)) (waitF ((t + offF z t) % 1440) 0)) (waitF (t % 1440) 60)
  let u := if t < W.fr then min (t + n) W.fr else t + n
  if t < W.to then min u W.to else u
theorem waitF_pos (a b : Int) (h : a < 1440) (h2 : 0 ≤ b) : 1 ≤ waitF a b := by unfold waitF; split <;> omega
theorem waitF_miss {a b k : Int} (h0 : 0 ≤ a) (h1 : a < 1440) (h2 : 0 ≤ b) (h3 : b < 1440) (hk : 0 < k) (hk2 : k < waitF a b) : (a + k) % 1440 ≠ b := by
  unfold waitF at hk2
  split at hk2 <;> omega
theorem waitF_le (a b : Int) (h : 0 ≤ a) (h1 : a < 1440) (h2 : b < 1440) : waitF a b ≤ 1440 := by unfold waitF; split <;> omega
structure CandAt (W : WinR) (z : ZoneR) (t u : Int) : Prop where
  up : t < u
  le : u ≤ t + 1440
  same : ∀ v, t < v → v < u → v ≤ 268435456 → holdsB W z v = holdsB W z (v - 1)
theorem cand_at {W : WinR} {z : ZoneR} (hW : winB W = true) {t : Int} (h0 : 0 ≤ t) : CandAt W z t (candF W z t) := by
  have ok := winB_iff.1 hW
  obtain ⟨_, _, s0, s1, e0, e1, f0, f1, ht⟩ := ok
  have p1 := waitF_pos ((t + offF z t) % 1440) W.st (by omega) s0
  have p2 := waitF_pos ((t + offF z t) % 1440) W.en (by omega) e0
  have p3 := waitF_pos ((t + offF z t) % 1440) 0 (by omega) (by omega)
  have p4 := waitF_pos (t % 1440) 60 (by omega) (by omega)
  have q3 := waitF_le ((t + offF z t) % 1440) 0 (by omega) (by omega) (by omega)
  have m1 := fun k h1 h2 => waitF_miss (k := k) (a := (t + offF z t) % 1440) (by omega) (by omega) s0 s1 h1 h2
  have m2 := fun k h1 h2 => waitF_miss (k := k) (a := (t + offF z t) % 1440) (by omega) (by omega) e0 e1 h1 h2
  have m3 := fun k h1 h2 => waitF_miss (k := k) (a := (t + offF z t) % 1440) (b := 0) (by omega) (by omega) (by omega) (by omega) h1 h2
  have m4 := fun k h1 h2 => waitF_miss (k := k) (a := t % 1440) (b := 60) (by omega) (by omega) (by omega) (by omega) h1 h2
  have hb : t < candF W z t ∧ candF W z t ≤ t + waitF ((t + offF z t) % 1440) W.st ∧ candF W z t ≤ t + waitF ((t + offF z t) % 1440) W.en ∧ candF W z t ≤ t + waitF ((t + offF z t) % 1440) 0 ∧
      candF W z t ≤ t + waitF (t % 1440) 60 ∧ (t < W.fr → candF W z t ≤ W.fr) ∧ (t < W.to → candF W z t ≤ W.to) := by
    unfold candF
    generalize waitF ((t + offF z t) % 1440) W.st = a1 at *
    generalize waitF ((t + offF z t) % 1440) W.en = a2 at *
    generalize waitF ((t + offF z t) % 1440) 0 = a3 at *
    generalize waitF (t % 1440) 60 = a4 at *
    clear m1 m2 m3 m4
    dsimp only
    refine ⟨?_, ?_, ?_, ?_, ?_, fun h => ?_, fun h => ?_⟩ <;> omega
  obtain ⟨b0, b1, b2, b3, b4, b5, b6⟩ := hb
  have hoff : ∀ n : Nat, t + n < candF W z t → offF z (t + n) = offF z t := fun n hn => by
    induction n with
    | zero => simp
    | succ n ih =>
      rw [← ih (by omega)]
      apply Classical.byContradiction
      intro hne
      have ht2 := (off_turn (z := z) (t := t + ((n + 1 : Nat) : Int)) (by omega) (by rw [show t + ((n + 1 : Nat) : Int) - 1 = t + n by omega]; exact hne)).2
      have := sum_turn_mod (by omega) ht2
      have := m4 ((n + 1 : Nat) : Int) (by omega) (by omega)
      omega
  refine ⟨b0, by omega, fun v h1 h2 hm => ?_⟩
  obtain ⟨n, rfl⟩ : ∃ n : Nat, v = t + (n + 1 : Nat) := ⟨(v - t - 1).toNat, by omega⟩
  have o1 := hoff (n + 1) h2
  have o2 := hoff n (by omega)
  have e1 : t + ((n + 1 : Nat) : Int) - 1 = t + n := by omega
  have hi : inB W (t + ((n + 1 : Nat) : Int)) = inB W (t + n) := by
    unfold inB
    have x1 : decide (W.fr ≤ t + ((n + 1 : Nat) : Int)) = decide (W.fr ≤ t + n) := by simp only [decide_eq_decide]; omega
    have x2 : (W.to == -1 || decide (t + ((n + 1 : Nat) : Int) < W.to)) = (W.to == -1 || decide (t + (n : Int) < W.to)) := by
      rcases ht with e | e
      · rw [e]; rfl
      · have : decide (t + ((n + 1 : Nat) : Int) < W.to) = decide (t + (n : Int) < W.to) := by simp only [decide_eq_decide]; omega
        rw [this]
    rw [x1, x2]
  have hp : patB W z (t + ((n + 1 : Nat) : Int)) = patB W z (t + n) := by
    apply Classical.byContradiction
    intro hne
    have := pat_local (W := W) (z := z) (t := t + ((n + 1 : Nat) : Int)) (by rw [e1, o1, o2]) (by rw [e1]; exact hne)
    rw [o1] at this
    have a1 := m1 ((n + 1 : Nat) : Int) (by omega) (by omega)
    have a2 := m2 ((n + 1 : Nat) : Int) (by omega) (by omega)
    have a3 := m3 ((n + 1 : Nat) : Int) (by omega) (by omega)
    omega
  rw [e1]
  unfold holdsB
  rw [hi, hp, timeB_iff.2 ⟨by omega, hm⟩, timeB_iff.2 ⟨by omega, by omega⟩]

/-- no change up to a time -/
def NoChg (H : Int → Bool) (t u : Int) : Prop := ∀ v, t < v → v ≤ u → v ≤ 268435456 → H v = H (v - 1)
theorem NoChg.refl (H : Int → Bool) (t : Int) : NoChg H t t := fun v a b _ => by omega
theorem NoChg.step {W : WinR} {z : ZoneR} {t u : Int} (h : NoChg (holdsB W z) t u) (hc : CandAt W z u (candF W z u)) (he : candF W z u ≤ 268435456 → holdsB W z (candF W z u) = holdsB W z (candF W z u - 1)) : NoChg (holdsB W z) t (candF W z u) := fun v a b c => by
  rcases Int.lt_trichotomy u v with d | d | d
  · rcases Int.lt_or_eq_of_le b with e | e
    · exact hc.same v d e c
    · rw [e] at c ⊢; exact he c
  · exact h v a (by omega) c
  · exact h v a (by omega) c
theorem NoChg.found {W : WinR} {z : ZoneR} {t u : Int} (h : NoChg (holdsB W z) t u) (ht : t ≤ u) (hc : CandAt W z u (candF W z u)) (hm : candF W z u ≤ 268435456) (he : holdsB W z (candF W z u) ≠ holdsB W z (candF W z u - 1)) : NextSpec (holdsB W z) t (candF W z u) := by
  refine .inl ⟨by have := hc.up; omega, hm, he, fun v a b => ?_⟩
  by_cases d : v ≤ u
  · exact h v a d (by omega)
  · exact hc.same v (by omega) b (by omega)
/-- the reference starts at the window's beginning -/
theorem next_lift {W : WinR} {z : ZoneR} {t r : Int} (ht : t < W.fr - 1) (hn : NextSpec (holdsB W z) (W.fr - 1) r) : NextSpec (holdsB W z) t r := by
  have hb : ∀ u, t < u → u ≤ W.fr - 1 → holdsB W z u = holdsB W z (u - 1) := fun u a b => by
    rw [holdsB_before (by omega), holdsB_before (by omega)]
  rcases hn with ⟨a, b, c, d⟩ | ⟨e, d⟩
  · refine .inl ⟨by omega, b, c, fun u x y => ?_⟩
    by_cases g : u ≤ W.fr - 1
    · exact hb u x g
    · exact d u (by omega) y
  · refine .inr ⟨e, fun u x y => ?_⟩
    by_cases g : u ≤ W.fr - 1
    · exact hb u x g
    · exact d u (by omega) y
/-- fifteen days without a change -/
theorem next_calm {W : WinR} {z : ZoneR} (hW : winB W = true) (hz : zoneB z = true) {t e : Int} (h0 : 0 ≤ t) (hf : W.fr - 1 ≤ t) (h : NoChg (holdsB W z) t (e - 1)) (he : t + 21600 < e ∨ 268435456 < e) :
    NextSpec (holdsB W z) t (if decide (t < W.to) && holdsB W z (W.to - 1) then W.to else -1) := by
  have ok := winB_iff.1 hW
  have ht := ok.t
  have f0 := ok.f0
  by_cases hto : W.to ≠ -1 ∧ W.to ≤ t
  · rw [if_neg (by simp; omega)]
    refine .inr ⟨rfl, fun u a b => ?_⟩
    rw [holdsB_after hto.1 (by omega), holdsB_after hto.1 (by omega)]
  by_cases hte : W.to ≠ -1 ∧ W.to ≤ e - 1
  · have h1 := h W.to (by omega) hte.2 (by omega)
    rw [holdsB_after hte.1 (Int.le_refl _)] at h1
    rw [← h1, Bool.and_false, if_neg (by decide)]
    refine .inr ⟨rfl, fun u a b => ?_⟩
    by_cases g : u ≤ e - 1
    · exact h u a g b
    · rw [holdsB_after hte.1 (by omega), holdsB_after hte.1 (by omega)]
  by_cases hm : 268435456 < e
  · have hto1 : W.to = -1 := by omega
    rw [if_neg (by rw [hto1]; simp; omega)]
    exact .inr ⟨rfl, fun u a b => h u a (by unfold maxT at b; omega) b⟩
  have he' : t + 21600 < e := by omega
  have hc := const_of (H := holdsB W z) (t := t + 1) (r := e) (fun u a b => h u (by omega) (by omega) (by omega))
  have hp : ∀ u, t + 1 ≤ u → u < t + 1 + 20160 → patB W z u = holdsB W z (t + 1) := fun u a b => by
    rw [← hc u a (by omega)]
    exact (holdsB_in hW hz (by omega) (by omega) (by omega) (by omega)).symm
  have hall := pat_calm (by omega) hp
  have hin : ∀ u, t + 1 ≤ u → u ≤ 268435456 → (W.to = -1 ∨ u < W.to) → holdsB W z u = holdsB W z (t + 1) := fun u a b c => by
    rw [holdsB_in hW hz (by omega) b (by omega) c]; exact hall u
  have h1 := h (t + 1) (by omega) (by omega) (by omega)
  rw [show t + 1 - 1 = t by omega] at h1
  by_cases hto1 : W.to = -1
  · rw [if_neg (by rw [hto1]; simp; omega)]
    refine .inr ⟨rfl, fun u a b => ?_⟩
    unfold maxT at b
    by_cases g : u = t + 1
    · rw [g, h1, show t + 1 - 1 = t by omega]
    · rw [hin u (by omega) b (.inl hto1), hin (u - 1) (by omega) (by omega) (.inl hto1)]
  · have hl := hin (W.to - 1) (by omega) (by omega) (.inr (by omega))
    have hte0 := holdsB_after (z := z) hto1 (Int.le_refl W.to)
    have hs : ∀ u, t < u → u < W.to → holdsB W z u = holdsB W z (u - 1) := fun u a b => by
      by_cases g : u = t + 1
      · rw [g, h1, show t + 1 - 1 = t by omega]
      · rw [hin u (by omega) (by omega) (.inr b), hin (u - 1) (by omega) (by omega) (.inr (by omega))]
    rw [hl]
    cases hh : holdsB W z (t + 1) with
    | true =>
      rw [if_pos (by simp; omega)]
      refine .inl ⟨by omega, by unfold maxT; omega, ?_, hs⟩
      rw [hte0, hl, hh]; decide
    | false =>
      rw [if_neg (by simp)]
      refine .inr ⟨rfl, fun u a b => ?_⟩
      rcases Int.lt_trichotomy u W.to with c | c | c
      · exact hs u a c
      · rw [c, hte0, hl, hh]
      · rw [holdsB_after hto1 (by omega), holdsB_after hto1 (by omega)]

/-- the spans of a window from t on, up to b: what both programs collect; none: more than 512 -/
noncomputable def toF (H : Int → Bool) (b t : Int) : Int := if nextF H t < 0 ∨ b < nextF H t then b else nextF H t
theorem toF_rng {H : Int → Bool} {b t : Int} (h0 : -1 ≤ t) (h : t < b) : t < toF H b t ∧ toF H b t ≤ b := by
  have := nextF_rng H h0
  unfold toF; split <;> omega
noncomputable def goS (H : Int → Bool) (b : Int) : Nat → Int → List (Int × Int) → Option (List (Int × Int))
  | 0, _, l => some l
  | n + 1, t, l => if t < b then (if H t then (if l.length = 512 then none else goS H b n (toF H b t) (l ++ [(t, toF H b t)])) else goS H b n (toF H b t) l) else some l
theorem goS_more {H : Int → Bool} {b : Int} : ∀ (n m : Nat) (t : Int) (l : List (Int × Int)), -1 ≤ t → b - t ≤ n → n ≤ m → goS H b m t l = goS H b n t l := by
  intro n
  induction n with
  | zero =>
    intro m t l h0 h1 h2
    cases m with
    | zero => rfl
    | succ m => exact if_neg (by omega)
  | succ n ih =>
    intro m t l h0 h1 h2
    obtain ⟨m, rfl⟩ : ∃ k, m = k + 1 := ⟨m - 1, by omega⟩
    rw [goS, goS]
    by_cases ht : t < b
    · have hr := toF_rng (H := H) h0 ht
      rw [if_pos ht, if_pos ht, ih m _ _ (by omega) (by omega) (by omega), ih m _ _ (by omega) (by omega) (by omega)]
    · rw [if_neg ht, if_neg ht]
/-- what is still to come -/
noncomputable def restS (H : Int → Bool) (b t : Int) (l : List (Int × Int)) : Option (List (Int × Int)) := goS H b (b - t).toNat t l
theorem restS_end {H : Int → Bool} {b t : Int} {l : List (Int × Int)} (h : b ≤ t) : restS H b t l = some l := by
  unfold restS
  rw [show (b - t).toNat = 0 by omega]; rfl
theorem restS_step {H : Int → Bool} {b t : Int} {l : List (Int × Int)} (h0 : -1 ≤ t) (h : t < b) :
    restS H b t l = if H t then (if l.length = 512 then none else restS H b (toF H b t) (l ++ [(t, toF H b t)])) else restS H b (toF H b t) l := by
  have hr := toF_rng (H := H) h0 h
  unfold restS
  obtain ⟨n, hn⟩ : ∃ n, (b - t).toNat = n + 1 := ⟨(b - t).toNat - 1, by omega⟩
  rw [hn, goS, if_pos h, goS_more (b - toF H b t).toNat n _ _ (by omega) (by omega) (by omega), goS_more (b - toF H b t).toNat n _ _ (by omega) (by omega) (by omega)]
/-- behind a step the window has turned -/
theorem toF_turn {H : Int → Bool} {b t : Int} (h0 : -1 ≤ t) (hb : toF H b t < b) : H (toF H b t) = !H t := by
  have hs := nextF_spec H h0
  unfold toF at *
  split at hb
  · omega
  · rename_i hn
    rw [if_neg hn]
    rcases hs with ⟨a, c, d, e⟩ | ⟨a, _⟩
    · have := const_of e (nextF H t - 1) (by omega) (by omega)
      rw [this] at d
      cases h1 : H (nextF H t) <;> cases h2 : H t <;> simp_all
    · omega

end Go.Proofs.YtmappmeojmdekaaGreatDoor

namespace Go.Proofs.YtmappmeojmdekaaGreatDoor
open Go.RowKit

theorem ret_int {k : IntKind} {a b : Int} (h : a = b) : Ending.returned (.int k a) = .returned (.int k b) := by rw [h]
theorem ret_bool {a b : Bool} (h : a = b) : Ending.returned (.bool a) = .returned (.bool b) := by rw [h]
theorem ret_str {a b : ByteArray} (h : a = b) : Ending.returned (.string a) = .returned (.string b) := by rw [h]

theorem ret_int2 {k k' : IntKind} {a b c d : Int} (h : a = b) (h' : c = d) : Ending.returned (.tuple #[.int k a, .int k' c]) = .returned (.tuple #[.int k b, .int k' d]) := by rw [h, h']
theorem ret_strint {k : IntKind} {a b : ByteArray} {c d : Int} (h : a = b) (h' : c = d) : Ending.returned (.tuple #[.string a, .int k c]) = .returned (.tuple #[.string b, .int k d]) := by rw [h, h']

theorem below_drewN {B : Nat} {a w : World} (h : Below B a w) (n : Nat) : Below B a (w.drewN n) := h.trans ⟨rfl, rfl, rfl, Nat.le_refl _, fun _ _ => rfl⟩

theorem iterPos_of {w : World} {k : Nat} {s : ByteArray} {p : Nat} (h : w.heap[k]? = some (.stringIter s p)) : w.iterPos k = p := by simp [World.iterPos, h]

/-- the world behind a call that only made memory: all old cells and marks read as before -/
theorem bcell {W w1 : World} (hb : Below W.heap.size W w1) : (∀ b o, b < W.heap.size → w1.cell? ⟨b, o, none⟩ = W.cell? ⟨b, o, none⟩) ∧ (∀ b o, b < W.heap.size → w1.frozen? ⟨b, o, none⟩ = W.frozen? ⟨b, o, none⟩) :=
  ⟨fun b o h => hb.cell (p := ⟨b, o, none⟩) h, fun b o h => hb.frozen (p := ⟨b, o, none⟩) h⟩

theorem blk_alloc {w : World} {k : Nat} {x : Obj} (h : w.heap[k]? = some x) (o : Obj) : (w.alloc o).heap[k]? = some x := by
  have hk : k < w.heap.size := (Array.getElem?_eq_some_iff.1 h).1
  rw [Below.heap_alloc _ _ _ hk]; exact h
theorem blk_below {B : Nat} {w w' : World} {k : Nat} {x : Obj} (h : w.heap[k]? = some x) (hb : Below B w w') (hk : k < B) : w'.heap[k]? = some x := (hb.block k hk).trans h
theorem blk_lt {w : World} {k : Nat} {x : Obj} (h : w.heap[k]? = some x) : k < w.heap.size := (Array.getElem?_eq_some_iff.1 h).1

theorem quiet_left {P : Program} {f : FuncId} {args : Array Value} {w : World} {n : Nat} {v : Value}
    (h : Calls P f args (w.drewN n) fun e w' => e = .returned v ∧ w.drewN n = w') : Calls P f args (w.drewN n) fun e w' => e = .returned v ∧ ∃ m, w' = w.drewN m :=
  h.mono fun _ _ ⟨he, hm⟩ => ⟨he, n, hm.symm⟩
theorem quiet_add_left {P : Program} {f : FuncId} {args : Array Value} {w : World} {a n : Nat} {v : Value}
    (h : Calls P f args (w.drewN (a + n)) fun e w' => e = .returned v ∧ w.drewN (a + n) = w') :
    Calls P f args (w.drewN (a + n)) fun e w'' => e = .returned v ∧ ∃ m, w'' = w.drewN (a + m) :=
  h.mono fun _ _ ⟨he, hm⟩ => ⟨he, n, hm.symm⟩

theorem drewN_more {w wr : World} (h : Hid (∃ n, wr = w.drewN n)) (m : Nat) : ∃ n, wr.drewN m = w.drewN n := by
  obtain ⟨n, rfl⟩ := h.out
  exact ⟨n + m, by rw [World.drewN_drewN]⟩

theorem below_step {w W0 w' : World} (h0 : Below w.heap.size w W0) (hb : Below W0.heap.size W0 w') : Below w.heap.size w w' := h0.trans (hb.mono h0.size)
theorem below_alloc {w W : World} (h : Below w.heap.size w W) (o : Obj) : Below w.heap.size w (W.alloc o) := h.alloc h.size o
theorem below_drew {w W : World} (h : Below w.heap.size w W) : Below w.heap.size w W.drew := h.drew
theorem below_set {w W : World} (h : Below w.heap.size w W) {p : Addr} (hp : w.heap.size ≤ p.block) (u : Value) : Below w.heap.size w (W.setCell p u) := h.setCell hp u
theorem below_iter {w W : World} (h : Below w.heap.size w W) (s : ByteArray) (p : Nat) : Below w.heap.size w (W.iter s p) := h.alloc h.size _

/-- A new row of n cells, the call's own: cell j holds f j, none is frozen. -/
def Row (w : World) (g n : Nat) (f : Nat → Value) : Prop := g < w.heap.size ∧ ∀ j, j < n → w.cell? ⟨g, j, none⟩ = some (f j) ∧ w.frozen? ⟨g, j, none⟩ = false

theorem Row.cell {w : World} {g n : Nat} {f : Nat → Value} (h : Row w g n f) {j : Nat} (hj : j < n) : w.cell? ⟨g, j, none⟩ = some (f j) := (h.2 j hj).1
theorem Row.frozen {w : World} {g n : Nat} {f : Nat → Value} (h : Row w g n f) {j : Nat} (hj : j < n) : w.frozen? ⟨g, j, none⟩ = false := (h.2 j hj).2
theorem Row.below {w w' : World} {g n B : Nat} {f : Nat → Value} (h : Row w g n f) (hb : Below B w w') (hg : g < B) : Row w' g n f :=
  ⟨Nat.lt_of_lt_of_le h.1 hb.size, fun j hj => ⟨(hb.cell (p := ⟨g, j, none⟩) hg).trans (h.cell hj), (hb.frozen (p := ⟨g, j, none⟩) hg).trans (h.frozen hj)⟩⟩
theorem Row.grown {w w' : World} {g n : Nat} {f : Nat → Value} (h : Row w g n f) (hb : Below w.heap.size w w') : Row w' g n f := h.below hb h.1
theorem Row.alloc {w : World} {g n : Nat} {f : Nat → Value} (h : Row w g n f) (o : Obj) : Row (w.alloc o) g n f := h.grown ((Below.refl _ _).alloc (Nat.le_refl _) o)
theorem Row.drew {w : World} {g n : Nat} {f : Nat → Value} (h : Row w g n f) : Row w.drew g n f := h
theorem Row.drewN {w : World} {g n : Nat} {f : Nat → Value} (h : Row w g n f) (k : Nat) : Row (w.drewN k) g n f := h
theorem Row.congr {w : World} {g n : Nat} {f f' : Nat → Value} (h : Row w g n f) (he : ∀ j, j < n → f j = f' j) : Row w g n f' :=
  ⟨h.1, fun j hj => ⟨by rw [← he j hj]; exact h.cell hj, h.frozen hj⟩⟩
theorem Row.set {w : World} {g n : Nat} {f : Nat → Value} (h : Row w g n f) (k : Nat) (u : Value) :
    Row (w.setCell ⟨g, k, none⟩ u) g n (fun j => if j = k then u else f j) := by
  refine ⟨by simpa [World.setCell] using h.1, fun j hj => ⟨?_, by rw [World.frozen?_setCell]; exact h.frozen hj⟩⟩
  by_cases e : j = k
  · subst e
    rw [World.cell?_setCell_same _ _ _ (h.cell hj)]
    simp
  · rw [World.cell?_setCell_other w ⟨g, k, none⟩ ⟨g, j, none⟩ u (by intro x; injection x; omega)]
    simp only [e, if_false]
    exact h.cell hj
theorem Row.other {w : World} {g n : Nat} {f : Nat → Value} (h : Row w g n f) {p : Addr} (hp : p.block ≠ g) (u : Value) : Row (w.setCell p u) g n f := by
  have hb := Below.heap_setCell w p u g (Ne.symm hp)
  exact ⟨by simpa [World.setCell] using h.1, fun j hj => ⟨(World.cell?_of_block (a := ⟨g, j, none⟩) hb).trans (h.cell hj), (World.frozen?_of_block (a := ⟨g, j, none⟩) hb).trans (h.frozen hj)⟩⟩

/-- What '[]byte(s)' lays, said of a world by its row alone. -/
theorem bytes_row (w : World) (e : TypeId) (s : ByteArray) (c : Nat) :
    Row ((w.drew).alloc (.cells (bytesRow s c) e ((bytesRow s c).size, (bytesRow s c).size + 1))) w.heap.size s.size (fun j => .int .u8 ((s.data.toList.getD j 0).toNat : Int)) := by
  refine ⟨by simp, fun j hj => ⟨?_, ?_⟩⟩
  · have hj' : j < s.data.size := hj
    have h1 := World.cell?_alloc_mark w.drew (bytesRow s c) e ((bytesRow s c).size, (bytesRow s c).size + 1) j
    have h2 : w.drew.heap.size = w.heap.size := rfl
    rw [h2] at h1
    rw [h1, bytesRow_at s c j hj']
    simp [List.getD_eq_getElem?_getD, Array.getElem?_eq_getElem hj']
  · have h1 := World.frozen?_alloc_mark w.drew (bytesRow s c) e (bytesRow s c).size ((bytesRow s c).size + 1) j
    have h2 : w.drew.heap.size = w.heap.size := rfl
    rw [h2] at h1
    rw [h1]
    have : s.size ≤ (bytesRow s c).size := by simp [bytesRow]
    simp; omega

/-- '[]byte(s)': its row, the world behind it a letter. -/
theorem bytes_conv {P : Program} (w : World) (src dst e : TypeId) (s : ByteArray) (hs : P.underlying src = some .string) (hd : P.underlying dst = some (.slice e)) (he : P.underlying e = some (.int .u8)) :
    ∃ (c : Nat) (w1 : World), (convert src dst (.string s)).run P w = .ok (.slice (some ⟨w.heap.size, 0, none⟩) s.size c) w1 ∧ Below w.heap.size w w1 ∧ w1.heap.size = w.heap.size + 1 ∧
      Row w1 w.heap.size s.size (fun j => .int .u8 ((s.data.toList.getD j 0).toNat : Int)) :=
  ⟨_, _, run_bytes_of_string w src dst e s hs hd he, ((Below.refl _ _).drew).alloc (Nat.le_refl _) _, by simp, bytes_row w e s _⟩

/-- 'string(b)' of a row of bytes. -/
theorem bytes_back {P : Program} (w : World) (src dst e : TypeId) (g n c : Nat) (l : List UInt8) (hs : P.underlying src = some (.slice e)) (he : P.underlying e = some (.int .u8)) (hd : P.underlying dst = some .string)
    (hl : l.length = n) (f : Nat → Value) (hr : Row w g n f) (hf : ∀ j, j < n → f j = .int .u8 ((l.getD j 0).toNat : Int)) :
    (convert src dst (.slice (some ⟨g, 0, none⟩) n c)).run P w = .ok (.string ⟨l.toArray⟩) w := by
  subst hl
  refine run_convert_bytes_back w src dst e ⟨g, 0, none⟩ c l hs he hd (fun j hj => ?_)
  have h := hr.cell hj
  rw [hf j hj] at h
  have ha : (⟨g, 0, none⟩ : Addr).add j = ⟨g, j, none⟩ := by simp [Addr.add]; omega
  rw [ha, h]
  simp [List.getD_eq_getElem?_getD, List.getElem?_eq_getElem hj]

/-- 'string([]byte{x})' -/
theorem one_byte {P : Program} (src dst e : TypeId) (hs : P.underlying src = some (.slice e)) (he : P.underlying e = some (.int .u8)) (hd : P.underlying dst = some .string)
    (x : Int) (h0 : 0 ≤ x) (h1 : x ≤ 255) (w : World) :
    (convert src dst (.slice (some ⟨w.heap.size, 0, none⟩) 1 1)).run P (w.alloc (.cells #[.int .u8 x] e)) = .ok (.string ⟨#[UInt8.ofNat x.toNat]⟩) (w.alloc (.cells #[.int .u8 x] e)) := by
  have hr : Row (w.alloc (.cells #[.int .u8 x] e)) w.heap.size 1 (fun _ => .int .u8 x) := by
    refine ⟨by simp, fun j hj => ?_⟩
    obtain rfl : j = 0 := by omega
    exact ⟨World.cell?_alloc_mark w #[.int .u8 x] e (0, 0) 0, by rw [World.frozen?_alloc_mark w #[.int .u8 x] e 0 0 0]; rfl⟩
  refine bytes_back (P := P) _ src dst e w.heap.size 1 1 [UInt8.ofNat x.toNat] hs he hd rfl _ hr (fun j hj => ?_)
  obtain rfl : j = 0 := by omega
  simp
  omega

end Go.Proofs.YtmappmeojmdekaaGreatDoor

namespace Go.Proofs.YtmappmeojmdekaaGreatDoor
open Go.RowKit

/-- The address A reads as these rows of 'size' cells each: nothing is asked where there is no row. -/
def SlAt (w : World) (size : Nat) (A : Option Addr) (rows : List (List Value)) : Prop :=
  ∀ k row, rows[k]? = some row → ∃ b off, A = some ⟨b, off, none⟩ ∧ b < w.heap.size ∧ ∀ j u, row[j]? = some u → w.cell? ⟨b, off + k * size + j, none⟩ = some u

/-- The value v is a slice that reads as these rows. -/
def IsSl (w : World) (size : Nat) (v : Value) (rows : List (List Value)) : Prop :=
  ∃ (A : Option Addr) (c : Nat), v = .slice A rows.length c ∧ rows.length ≤ c ∧ c ≤ maxLen ∧ SlAt w size A rows

section
variable {w w' : World} {size : Nat} {A : Option Addr} {rows : List (List Value)} {v : Value}

theorem SlAt.nil (w : World) (size : Nat) (A : Option Addr) : SlAt w size A [] := fun k row h => by simp at h
theorem SlAt.below (h : SlAt w size A rows) (hb : Below w.heap.size w w') : SlAt w' size A rows := fun k row hk => by
  obtain ⟨b, off, e, hlt, hc⟩ := h k row hk
  exact ⟨b, off, e, Nat.lt_of_lt_of_le hlt hb.size, fun j u hu => (hb.cell (p := ⟨b, off + k * size + j, none⟩) hlt).trans (hc j u hu)⟩
theorem IsSl.nil (w : World) (size : Nat) : IsSl w size (.slice none 0 0) [] := ⟨none, 0, rfl, Nat.le_refl _, by unfold maxLen; omega, SlAt.nil _ _ _⟩
theorem IsSl.below (h : IsSl w size v rows) (hb : Below w.heap.size w w') : IsSl w' size v rows := by
  obtain ⟨A, c, e, h1, h2, h3⟩ := h
  exact ⟨A, c, e, h1, h2, h3.below hb⟩
theorem IsSl.mk (h : SlAt w size A rows) {n c : Nat} (hn : rows.length = n) (hc : n ≤ c) (hm : c ≤ maxLen) : IsSl w size (.slice A n c) rows := by
  subst hn
  exact ⟨A, c, rfl, hc, hm, h⟩

/-- a row of the call's own reads as its rows -/
theorem SlAt.of_own {base : Nat} {e : TypeId} {n c : Nat} {xs : List Value} (h : w.ownsRow base e size (.slice A n c) n xs) (hr : ∀ k row, rows[k]? = some row → ∀ j u, row[j]? = some u → xs[k * size + j]? = some u)
    (hlen : rows.length = n) : SlAt w size A rows := fun k row hk => by
  have hk' : k < n := by rw [← hlen]; exact (List.getElem?_eq_some_iff.1 hk).1
  rcases h.2 with ⟨hv, hx⟩ | ⟨g, cap, cur, hv, hg, hh, _, _, hsz, htake⟩
  · injection hv with _ hn
    omega
  · injection hv with hA _ _
    refine ⟨g, 0, hA, ?_, fun j u hu => ?_⟩
    · exact (Array.getElem?_eq_some_iff.1 hh).1
    · have hx := h.cells (g := g) (by rw [hA]; rfl) (k * size + j) u (hr k row hk j u hu)
      have ea : ((⟨g, 0, none⟩ : Addr).add (k * size + j)) = ⟨g, 0 + k * size + j, none⟩ := by
        unfold Addr.add
        split
        · first | (simp; done) | (simp; omega)
        · simp
      rw [ea] at hx
      exact hx
end

/-- rows of one size, laid end to end -/
theorem flat_at {α : Type} (enc : α → List Value) (size : Nat) (hs : ∀ x, (enc x).length = size) : ∀ (l : List α) (k : Nat) (x : α), l[k]? = some x → ∀ j u, (enc x)[j]? = some u → (l.flatMap enc)[k * size + j]? = some u
  | [], k, x, h, _, _, _ => by simp at h
  | y :: l, 0, x, h, j, u, hu => by
    simp at h; subst h
    have hj : j < (enc y).length := (List.getElem?_eq_some_iff.1 hu).1
    rw [List.flatMap_cons, List.getElem?_append_left (by omega), Nat.zero_mul, Nat.zero_add]
    exact hu
  | y :: l, k + 1, x, h, j, u, hu => by
    rw [List.flatMap_cons, List.getElem?_append_right (by rw [hs, Nat.succ_mul]; omega), hs]
    have e : (k + 1) * size + j - size = k * size + j := by rw [Nat.succ_mul]; omega
    rw [e]
    exact flat_at enc size hs l k x (by simpa using h) j u hu

theorem flat_len {α : Type} (enc : α → List Value) (size : Nat) (hs : ∀ x, (enc x).length = size) (l : List α) : (l.flatMap enc).length = l.length * size := by
  induction l with
  | nil => simp
  | cons y l ih => rw [List.flatMap_cons, List.length_append, hs, ih, List.length_cons, Nat.succ_mul]; omega

/-- the rows of a list -/
theorem rows_at {α : Type} (enc : α → List Value) {l : List α} {k : Nat} {row : List Value} (h : (l.map enc)[k]? = some row) : ∃ x, l[k]? = some x ∧ row = enc x := by
  rw [List.getElem?_map] at h
  cases hx : l[k]? with
  | none => rw [hx] at h; simp at h
  | some x => rw [hx] at h; simp at h; exact ⟨x, rfl, h.symm⟩

theorem IsSl.of_own {α : Type} {enc : α → List Value} {w : World} {base size n : Nat} {e : TypeId} {v : Value} {l : List α} (hs : ∀ x, (enc x).length = size) (h : w.ownsRow base e size v n (l.flatMap enc)) (hn : l.length = n) :
    IsSl w size v (l.map enc) := by
  have h0 := h
  rcases h.2 with ⟨rfl, hx⟩ | ⟨g, cap, cur, rfl, hg, hh, hnc, hcm, hsz, htake⟩
  · have hl : l = [] := List.eq_nil_of_length_eq_zero (by omega)
    subst hl
    exact IsSl.nil _ _
  · exact IsSl.mk (SlAt.of_own h0 (fun k row hk j u hu => by
      obtain ⟨x, hx, rfl⟩ := rows_at enc hk
      exact flat_at enc size hs l k x hx j u hu) (by simpa using hn)) (by simpa using hn) hnc hcm

end Go.Proofs.YtmappmeojmdekaaGreatDoor

namespace Go.Proofs.YtmappmeojmdekaaGreatDoor
open Go.RowKit

/-- a number that a cell may hold -/
def I64 (n : Int) : Prop := (Lit.int .i64 n).wf = true
theorem I64.bd {n : Int} (h : I64 n) : -9223372036854775808 ≤ n ∧ n ≤ 9223372036854775807 := by
  unfold I64 at h
  have h2 : (decide (IntKind.i64.min ≤ n) && decide (n ≤ IntKind.i64.max)) = true := h
  simp only [Bool.and_eq_true, decide_eq_true_eq] at h2
  exact ⟨h2.1, h2.2⟩
theorem I64.rng {n : Int} (h : I64 n) : -9223372036854775808 ≤ n ∧ n ≤ 9223372036854775807 := h.bd
theorem I64.mk {n : Int} (h1 : -9223372036854775808 ≤ n) (h2 : n ≤ 9223372036854775807) : I64 n := by
  show (decide (IntKind.i64.min ≤ n) && decide (n ≤ IntKind.i64.max)) = true
  simp only [Bool.and_eq_true, decide_eq_true_eq]
  exact ⟨h1, h2⟩

end Go.Proofs.YtmappmeojmdekaaGreatDoor
