/-
  Plain functions of windows: when a window holds, its next change. No program is named here.
-/
import Derived.Test.YtlpjniejbblcnaaDoorPCal
namespace Go.Proofs.YtlpjniejbblcnaaDoor
set_option linter.unusedVariables false

structure WinR where
  dy : Int
  st : Int
  en : Int
  fr : Int
  «to» : Int
structure ZoneR where
  off : Int
  sum : Bool
def maxT : Int := 268435456
def onB (days w : Int) : Bool := days == 0 || days / 2 ^ (w - 1).toNat % 2 == 1
def dayB (days st en w m : Int) : Bool :=
  if st = en then onB days w
  else if st < en then onB days w && (decide (st ≤ m) && decide (m < en))
  else (onB days w && decide (st ≤ m)) || (onB days ((w + 5) % 7 + 1) && decide (m < en))
def zoneB (z : ZoneR) : Bool := decide (-840 ≤ z.off) && decide (z.off ≤ 840)
def timeB (t : Int) : Bool := decide (0 ≤ t) && decide (t ≤ maxT)
def winB (W : WinR) : Bool :=
  decide (0 ≤ W.dy) && decide (W.dy ≤ 127) && (decide (0 ≤ W.st) && decide (W.st < 1440)) && (decide (0 ≤ W.en) && decide (W.en < 1440)) && (decide (0 ≤ W.fr) && decide (W.fr ≤ maxT)) && (W.to == -1 || (decide (W.fr ≤ W.to) && decide (W.to ≤ maxT)))
structure WinOk (W : WinR) : Prop where
  d0 : 0 ≤ W.dy
  d1 : W.dy ≤ 127
  s0 : 0 ≤ W.st
  s1 : W.st < 1440
  e0 : 0 ≤ W.en
  e1 : W.en < 1440
  f0 : 0 ≤ W.fr
  f1 : W.fr ≤ 268435456
  t : W.to = -1 ∨ (W.fr ≤ W.to ∧ W.to ≤ 268435456)
theorem winB_iff {W : WinR} : winB W = true ↔ WinOk W := by
  unfold winB maxT
  simp only [Bool.and_eq_true, Bool.or_eq_true, decide_eq_true_eq, beq_iff_eq]
  constructor
  · rintro ⟨⟨⟨⟨⟨a, b⟩, c, d⟩, e, f⟩, g, h⟩, i⟩
    exact ⟨a, b, c, d, e, f, g, h, i⟩
  · rintro ⟨a, b, c, d, e, f, g, h, i⟩
    exact ⟨⟨⟨⟨⟨a, b⟩, c, d⟩, e, f⟩, g, h⟩, i⟩
def winE (W : WinR) : Int := if winB W = true then 0 else 1
theorem winE_ok {W : WinR} (h : WinOk W) : winE W = 0 := if_pos (winB_iff.2 h)
theorem winE_no {W : WinR} (h : ¬ WinOk W) : winE W = 1 := if_neg (fun g => h (winB_iff.1 g))
theorem winE_true {W : WinR} (h : winB W = true) : winE W = 0 := if_pos h
theorem winE_false {W : WinR} (h : winB W = false) : winE W = 1 := if_neg (by rw [h]; decide)
theorem zoneB_iff {z : ZoneR} : zoneB z = true ↔ -840 ≤ z.off ∧ z.off ≤ 840 := by unfold zoneB; simp
theorem timeB_iff {t : Int} : timeB t = true ↔ 0 ≤ t ∧ t ≤ 268435456 := by unfold timeB maxT; simp
noncomputable def offF (z : ZoneR) (t : Int) : Int := if z.sum && sumB t then z.off + 60 else z.off
noncomputable def patB (W : WinR) (z : ZoneR) (t : Int) : Bool := dayB W.dy W.st W.en (wdF ((t + offF z t) / 1440)) ((t + offF z t) % 1440)
noncomputable def inB (W : WinR) (t : Int) : Bool := decide (W.fr ≤ t) && (W.to == -1 || decide (t < W.to))
noncomputable def holdsB (W : WinR) (z : ZoneR) (t : Int) : Bool := winB W && zoneB z && timeB t && inB W t && patB W z t
theorem inB_iff {W : WinR} {t : Int} : inB W t = true ↔ W.fr ≤ t ∧ (W.to = -1 ∨ t < W.to) := by unfold inB; simp

/-- r is the least time after t at which H differs from what it was a minute before; -1: there is none -/
def NextSpec (H : Int → Bool) (t r : Int) : Prop :=
  (t < r ∧ r ≤ maxT ∧ H r ≠ H (r - 1) ∧ ∀ u, t < u → u < r → H u = H (u - 1)) ∨ (r = -1 ∧ ∀ u, t < u → u ≤ maxT → H u = H (u - 1))
theorem NextSpec.unique {H : Int → Bool} {t r s : Int} (h : NextSpec H t r) (g : NextSpec H t s) : r = s := by
  rcases h with ⟨a, b, c, d⟩ | ⟨rfl, d⟩ <;> rcases g with ⟨a', b', c', d'⟩ | ⟨rfl, d'⟩
  · rcases Int.lt_trichotomy r s with e | e | e
    · exact absurd (d' r a e) c
    · exact e
    · exact absurd (d s a' e) c'
  · exact absurd (d' r a b) c
  · exact absurd (d s a' b') c'
  · rfl
open Classical in
noncomputable def nextF (H : Int → Bool) (t : Int) : Int := if h : ∃ r, NextSpec H t r then h.choose else 0
theorem nextF_of {H : Int → Bool} {t r : Int} (h : NextSpec H t r) : nextF H t = r := by
  have g : ∃ r, NextSpec H t r := ⟨r, h⟩
  unfold nextF
  rw [dif_pos g]
  exact g.choose_spec.unique h
/-- the least of some natural numbers that have a property, or none has it -/
theorem least_or (P : Nat → Prop) (n : Nat) : (∃ k, k < n ∧ P k ∧ ∀ j, j < k → ¬ P j) ∨ ∀ k, k < n → ¬ P k := by
  induction n with
  | zero => exact .inr fun k h => absurd h (Nat.not_lt_zero k)
  | succ n ih =>
    rcases ih with ⟨k, h1, h2, h3⟩ | h
    · exact .inl ⟨k, by omega, h2, h3⟩
    · by_cases hn : P n
      · exact .inl ⟨n, by omega, hn, h⟩
      · refine .inr fun k hk => ?_
        rcases Nat.lt_or_eq_of_le (Nat.le_of_lt_succ hk) with e | e
        · exact h k e
        · subst e; exact hn
theorem next_exists (H : Int → Bool) (t : Int) (h0 : -1 ≤ t) : ∃ r, NextSpec H t r := by
  rcases least_or (fun k => H (t + 1 + k) ≠ H (t + k)) (maxT - t).toNat with ⟨k, h1, h2, h3⟩ | h
  · have hm : (k : Int) < maxT - t := by omega
    refine ⟨t + 1 + k, .inl ⟨by omega, by omega, by rw [show t + 1 + (k : Int) - 1 = t + k by omega]; exact h2, fun u a b => ?_⟩⟩
    have := h3 (u - t - 1).toNat (by omega)
    rw [show t + 1 + ((u - t - 1).toNat : Int) = u by omega, show t + ((u - t - 1).toNat : Int) = u - 1 by omega] at this
    exact Classical.not_not.1 this
  · refine ⟨-1, .inr ⟨rfl, fun u a b => ?_⟩⟩
    have := h (u - t - 1).toNat (by omega)
    rw [show t + 1 + ((u - t - 1).toNat : Int) = u by omega, show t + ((u - t - 1).toNat : Int) = u - 1 by omega] at this
    exact Classical.not_not.1 this
theorem nextF_spec (H : Int → Bool) {t : Int} (h0 : -1 ≤ t) : NextSpec H t (nextF H t) := by
  obtain ⟨r, h⟩ := next_exists H t h0
  rw [nextF_of h]; exact h
theorem nextF_rng (H : Int → Bool) {t : Int} (h0 : -1 ≤ t) : nextF H t = -1 ∨ (t < nextF H t ∧ nextF H t ≤ 268435456) := by
  rcases nextF_spec H h0 with ⟨a, b, _⟩ | ⟨a, _⟩
  · exact .inr ⟨a, b⟩
  · exact .inl a
/-- H is constant from t until before the next change -/
theorem const_of {H : Int → Bool} {t r : Int} (h : ∀ u, t < u → u < r → H u = H (u - 1)) : ∀ u, t ≤ u → u < r → H u = H t := by
  intro u hu hr
  obtain ⟨n, rfl⟩ : ∃ n : Nat, u = t + n := ⟨(u - t).toNat, by omega⟩
  clear hu
  induction n with
  | zero => simp
  | succ n ih =>
    rw [h _ (by omega) hr, show t + ((n + 1 : Nat) : Int) - 1 = t + n by omega]
    exact ih (by omega)

/-- what is asked of a window and a zone throughout -/
theorem dayB_step {d s e w m : Int} (h : dayB d s e w m ≠ dayB d s e w (m - 1)) : m = s ∨ m = e := by
  apply Classical.byContradiction
  intro hn
  apply h
  have a : decide (s ≤ m) = decide (s ≤ m - 1) := by simp; omega
  have b : decide (m < e) = decide (m - 1 < e) := by simp; omega
  unfold dayB
  rw [a, b]
theorem off_turn {z : ZoneR} {t : Int} (h1 : 1 ≤ t) (h : offF z t ≠ offF z (t - 1)) : z.sum = true ∧ sumB t ≠ sumB (t - 1) := by
  unfold offF at h
  cases hz : z.sum with
  | false => simp [hz] at h
  | true =>
    refine ⟨rfl, fun e => h ?_⟩
    rw [e]
/-- the minutes of the day, in UTC, at which a window may begin or end -/
def edgeP (W : WinR) (z : ZoneR) (x : Int) : Prop :=
  (x = (0 - z.off) % 1440 ∨ x = (W.st - z.off) % 1440 ∨ x = (W.en - z.off) % 1440) ∨
  z.sum = true ∧ (x = 60 ∨ x = (0 - z.off - 60) % 1440 ∨ x = (W.st - z.off - 60) % 1440 ∨ x = (W.en - z.off - 60) % 1440)
/-- the local minutes at which a window may begin or end -/
theorem pat_local {W : WinR} {z : ZoneR} {t : Int} (ho : offF z t = offF z (t - 1)) (h : patB W z t ≠ patB W z (t - 1)) :
    (t + offF z t) % 1440 = 0 ∨ (t + offF z t) % 1440 = W.st ∨ (t + offF z t) % 1440 = W.en := by
  apply Classical.byContradiction
  intro hn
  apply h
  unfold patB
  rw [← ho]
  have hm : (t - 1 + offF z t) % 1440 = (t + offF z t) % 1440 - 1 := by omega
  have hd : (t - 1 + offF z t) / 1440 = (t + offF z t) / 1440 := by omega
  rw [hm, hd]
  apply Classical.byContradiction
  intro hc
  have := dayB_step hc
  omega
theorem pat_edge {W : WinR} {z : ZoneR} (hW : WinOk W) {t : Int} (h1 : 1 ≤ t) (h : patB W z t ≠ patB W z (t - 1)) : edgeP W z (t % 1440) := by
  by_cases ho : offF z t = offF z (t - 1)
  · have hl := pat_local ho h
    obtain ⟨_, _, s0, s1, e0, e1, _, _, _⟩ := hW
    unfold offF at hl
    unfold edgeP
    by_cases hz : (z.sum && sumB t) = true
    · rw [if_pos hz] at hl
      rw [Bool.and_eq_true] at hz
      exact .inr ⟨hz.1, by omega⟩
    · rw [if_neg hz] at hl
      exact .inl (by omega)
  · obtain ⟨a, b⟩ := off_turn h1 ho
    exact .inr ⟨a, .inl (sum_turn_mod h1 b)⟩

theorem holdsB_in {W : WinR} {z : ZoneR} (hW : winB W = true) (hz : zoneB z = true) {t : Int} (h0 : 0 ≤ t) (h1 : t ≤ 268435456) (h2 : W.fr ≤ t) (h3 : W.to = -1 ∨ t < W.to) : holdsB W z t = patB W z t := by
  unfold holdsB
  rw [hW, hz, timeB_iff.2 ⟨h0, h1⟩, inB_iff.2 ⟨h2, h3⟩]; rfl
theorem holdsB_out {W : WinR} {z : ZoneR} {t : Int} (h : inB W t = false) : holdsB W z t = false := by
  unfold holdsB; rw [h]; simp
theorem holdsB_before {W : WinR} {z : ZoneR} {t : Int} (h : t < W.fr) : holdsB W z t = false := by
  refine holdsB_out ?_
  cases hh : inB W t with
  | false => rfl
  | true => have := inB_iff.1 hh; omega
theorem holdsB_after {W : WinR} {z : ZoneR} {t : Int} (h0 : W.to ≠ -1) (h : W.to ≤ t) : holdsB W z t = false := by
  refine holdsB_out ?_
  cases hh : inB W t with
  | false => rfl
  | true => have := inB_iff.1 hh; omega

/-- the end of a window -/
def endT (W : WinR) : Int := if 0 ≤ W.to then W.to else 268435457
/-- between its edges a window does not change -/
theorem holds_const {W : WinR} {z : ZoneR} (hW : winB W = true) (hz : zoneB z = true) {t r : Int} (h0 : W.fr ≤ t) (hr : r ≤ endT W)
    (h : ∀ u, t < u → u < r → edgeP W z (u % 1440) → holdsB W z u = holdsB W z t) : ∀ u, t ≤ u → u < r → holdsB W z u = holdsB W z t := by
  have ok := winB_iff.1 hW
  intro u hu hr'
  obtain ⟨n, rfl⟩ : ∃ n : Nat, u = t + n := ⟨(u - t).toNat, by omega⟩
  clear hu
  induction n with
  | zero => simp
  | succ n ih =>
    have i := ih (by omega)
    have f0 := ok.f0
    have ht := ok.t
    have e1 : holdsB W z (t + ((n + 1 : Nat) : Int)) = patB W z (t + ((n + 1 : Nat) : Int)) := by
      unfold endT at hr
      refine holdsB_in hW hz (by omega) ?_ (by omega) ?_ <;> split at hr <;> omega
    have e2 : holdsB W z (t + (n : Int)) = patB W z (t + (n : Int)) := by
      unfold endT at hr
      refine holdsB_in hW hz (by omega) ?_ (by omega) ?_ <;> split at hr <;> omega
    by_cases hp : patB W z (t + ((n + 1 : Nat) : Int)) = patB W z (t + ((n + 1 : Nat) : Int) - 1)
    · rw [e1, hp, show t + ((n + 1 : Nat) : Int) - 1 = t + n by omega, ← e2]; exact i
    · exact h _ (by omega) hr' (pat_edge ok (by omega) hp)
theorem step_of {H : Int → Bool} {t r : Int} (h : ∀ u, t ≤ u → u < r → H u = H t) : ∀ u, t < u → u < r → H u = H (u - 1) := fun u a b => by
  rw [h u (by omega) b, h (u - 1) (by omega) (by omega)]
/-- the first edge after t at which the window differs -/
theorem next_found {W : WinR} {z : ZoneR} (hW : winB W = true) (hz : zoneB z = true) {t r : Int} (h0 : W.fr ≤ t) (h1 : t < r) (hr : r < endT W) (hd : holdsB W z r ≠ holdsB W z t)
    (h : ∀ u, t < u → u < r → edgeP W z (u % 1440) → holdsB W z u = holdsB W z t) : NextSpec (holdsB W z) t r := by
  have hc := holds_const hW hz h0 (Int.le_of_lt hr) h
  have ok := winB_iff.1 hW
  refine .inl ⟨h1, ?_, ?_, step_of hc⟩
  · have := ok.t; unfold endT at hr; unfold maxT; split at hr <;> omega
  · rw [hc (r - 1) (by omega) (by omega)]; exact hd
/-- no edge before the window's end at which it differs -/
theorem next_none {W : WinR} {z : ZoneR} (hW : winB W = true) (hz : zoneB z = true) {t : Int} (h0 : W.fr ≤ t) (h1 : t < endT W)
    (h : ∀ u, t < u → u < endT W → edgeP W z (u % 1440) → holdsB W z u = holdsB W z t) :
    NextSpec (holdsB W z) t (if holdsB W z t && decide (0 ≤ W.to) then W.to else -1) := by
  have hc := holds_const hW hz h0 (Int.le_refl _) h
  have ok := winB_iff.1 hW
  have hs := step_of hc
  have f0 := ok.f0
  have ht := ok.t
  unfold endT at hc hs h1
  by_cases h2 : 0 ≤ W.to
  · rw [if_pos h2] at hc hs h1
    have he : holdsB W z W.to = false := holdsB_after (by omega) (by omega)
    cases hh : holdsB W z t with
    | true =>
      rw [if_pos (by simpa using h2)]
      refine .inl ⟨h1, by unfold maxT; omega, ?_, hs⟩
      rw [he, hc (W.to - 1) (by omega) (by omega), hh]; decide
    | false =>
      rw [if_neg (by simp)]
      refine .inr ⟨rfl, fun u a b => ?_⟩
      rcases Int.lt_trichotomy u W.to with c | c | c
      · exact hs u a c
      · rw [c, he, hc (W.to - 1) (by omega) (by omega), hh]
      · rw [holdsB_after (by omega) (by omega), holdsB_after (by omega) (by omega)]
  · rw [if_neg h2] at hc hs h1
    rw [if_neg (by simp; omega)]
    exact .inr ⟨rfl, fun u a b => hs u a (by unfold maxT at b; omega)⟩
theorem next_late {W : WinR} {z : ZoneR} (hW : winB W = true) {t : Int} (h : endT W ≤ t) (h2 : t ≤ 268435456) : NextSpec (holdsB W z) t (-1) := by
  have ok := winB_iff.1 hW
  have ht := ok.t
  have f0 := ok.f0
  unfold endT at h
  refine .inr ⟨rfl, fun u a b => ?_⟩
  split at h
  · rw [holdsB_after (by omega) (by omega), holdsB_after (by omega) (by omega)]
  · omega
/-- before its beginning a window does not hold -/
theorem next_early {W : WinR} {z : ZoneR} (hW : winB W = true) {t : Int} (h : t < W.fr) (hh : holdsB W z W.fr = true) : NextSpec (holdsB W z) t W.fr := by
  have ok := winB_iff.1 hW
  refine .inl ⟨h, ok.f1, ?_, fun u a b => ?_⟩
  · rw [hh, holdsB_before (by omega)]; decide
  · rw [holdsB_before (by omega), holdsB_before (by omega)]
theorem next_from {W : WinR} {z : ZoneR} {t r : Int} (h : t < W.fr) (hh : holdsB W z W.fr = false) (hn : NextSpec (holdsB W z) W.fr r) : NextSpec (holdsB W z) t r := by
  have hb : ∀ u, t < u → u ≤ W.fr → holdsB W z u = holdsB W z (u - 1) := fun u a b => by
    rcases Int.lt_or_eq_of_le b with c | c
    · rw [holdsB_before (by omega), holdsB_before (by omega)]
    · rw [c, hh, holdsB_before (by omega)]
  rcases hn with ⟨a, b, c, d⟩ | ⟨e, d⟩
  · refine .inl ⟨by omega, b, c, fun u x y => ?_⟩
    by_cases g : u ≤ W.fr
    · exact hb u x g
    · exact d u (by omega) y
  · refine .inr ⟨e, fun u x y => ?_⟩
    by_cases g : u ≤ W.fr
    · exact hb u x g
    · exact d u (by omega) y
/-- a window on all days without a beginning and an end of the day always holds -/
theorem pat_all {W : WinR} (hW : winB W = true) (z : ZoneR) (he : W.st = W.en) (hd : W.dy = 0 ∨ W.dy = 127) (t : Int) : patB W z t = true := by
  unfold patB dayB
  rw [if_pos he]
  have h := wdF_rng ((t + offF z t) / 1440)
  generalize wdF ((t + offF z t) / 1440) = w at *
  unfold onB
  rcases hd with e | e
  · rw [e]; rfl
  · rw [e]
    have : w = 1 ∨ w = 2 ∨ w = 3 ∨ w = 4 ∨ w = 5 ∨ w = 6 ∨ w = 7 := by omega
    rcases this with rfl | rfl | rfl | rfl | rfl | rfl | rfl <;> decide

/-- in a week of one offset each weekday has each of its minutes -/
theorem pat_week {W : WinR} {z : ZoneR} {a : Int} {c : Bool} (ho : ∀ u, a ≤ u → u < a + 10080 → offF z u = offF z a) (hp : ∀ u, a ≤ u → u < a + 10080 → patB W z u = c) (t : Int) : patB W z t = c := by
  have key : ∀ L : Int, dayB W.dy W.st W.en (wdF (L / 1440)) (L % 1440) = c := fun L => by
    have hu := hp (a + (L - offF z a - a) % 10080) (by omega) (by omega)
    have hv := ho (a + (L - offF z a - a) % 10080) (by omega) (by omega)
    unfold patB at hu
    rw [hv] at hu
    have e1 : (a + (L - offF z a - a) % 10080 + offF z a) % 1440 = L % 1440 := by omega
    have e2 : wdF ((a + (L - offF z a - a) % 10080 + offF z a) / 1440) = wdF (L / 1440) := by
      unfold wdF
      omega
    rw [e1, e2] at hu
    exact hu
  unfold patB
  exact key _
/-- two weeks without a change: the pattern never changes -/
theorem pat_calm {W : WinR} {z : ZoneR} {a : Int} {c : Bool} (h0 : 0 ≤ a) (hp : ∀ u, a ≤ u → u < a + 20160 → patB W z u = c) (t : Int) : patB W z t = c := by
  by_cases h : ∃ u, a < u ∧ u < a + 10080 ∧ offF z u ≠ offF z (u - 1)
  · obtain ⟨u, h1, h2, h3⟩ := h
    obtain ⟨hs, hu⟩ := off_turn (by omega) h3
    refine pat_week (a := a + 10080) (c := c) (fun v h4 h5 => ?_) (fun v h4 h5 => hp v (by omega) (by omega)) t
    obtain ⟨n, rfl⟩ : ∃ n : Nat, v = a + 10080 + n := ⟨(v - (a + 10080)).toNat, by omega⟩
    clear h4
    induction n with
    | zero => simp
    | succ n ih =>
      rw [← ih (by omega)]
      apply Classical.byContradiction
      intro hne
      have hq : offF z (a + 10080 + ((n + 1 : Nat) : Int)) ≠ offF z (a + 10080 + ((n + 1 : Nat) : Int) - 1) := by
        rw [show a + 10080 + ((n + 1 : Nat) : Int) - 1 = a + 10080 + n by omega]; exact hne
      have := turns_far (by omega) (show u < a + 10080 + ((n + 1 : Nat) : Int) by omega) hu (off_turn (by omega) hq).2
      omega
  · refine pat_week (a := a) (c := c) (fun v h4 h5 => ?_) (fun v h4 h5 => hp v (by omega) (by omega)) t
    obtain ⟨n, rfl⟩ : ∃ n : Nat, v = a + n := ⟨(v - a).toNat, by omega⟩
    clear h4
    induction n with
    | zero => simp
    | succ n ih =>
      rw [← ih (by omega)]
      apply Classical.byContradiction
      intro hne
      refine h ⟨a + ((n + 1 : Nat) : Int), by omega, by omega, ?_⟩
      rw [show a + ((n + 1 : Nat) : Int) - 1 = a + n by omega]; exact hne

end Go.Proofs.YtlpjniejbblcnaaDoor
