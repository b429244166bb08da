/-
  The examples of the chapter on windows, in plain words.
-/
import Derived.Test.YtpknjblgbpndlaaDoorWWin10
namespace Go.Proofs.YtpknjblgbpndlaaDoor
set_option linter.unusedVariables false

def exW : WinR := ⟨0, 480, 1020, 0, -1⟩
def exN : WinR := ⟨32, 1320, 360, 0, -1⟩
def exF : WinR := ⟨0, 0, 0, 5, -1⟩
def exZ : ZoneR := ⟨0, false⟩
theorem exW_ok : winB exW = true := by decide
theorem exN_ok : winB exN = true := by decide
theorem exF_ok : winB exF = true := by decide
theorem exZ_ok : zoneB exZ = true := by decide
theorem off_ex (t : Int) : offF exZ t = 0 := by unfold offF exZ; simp
theorem holds_exW {t : Int} (h0 : 0 ≤ t) (h1 : t ≤ 268435456) : holdsB exW exZ t = (decide (480 ≤ t % 1440) && decide (t % 1440 < 1020)) := by
  rw [holdsB_in exW_ok exZ_ok h0 h1 h0 (.inl rfl)]
  unfold patB
  rw [off_ex, Int.add_zero]
  unfold dayB
  rw [if_neg (by decide), if_pos (by decide)]
  have : onB exW.dy (wdF (t / 1440)) = true := rfl
  rw [this]; rfl
theorem holds_exN {t : Int} (h0 : 0 ≤ t) (h1 : t ≤ 268435456) : holdsB exN exZ t = ((onB 32 (wdF (t / 1440)) && decide (1320 ≤ t % 1440)) || (onB 32 ((wdF (t / 1440) + 5) % 7 + 1) && decide (t % 1440 < 360))) := by
  rw [holdsB_in exN_ok exZ_ok h0 h1 h0 (.inl rfl)]
  unfold patB
  rw [off_ex, Int.add_zero]
  unfold dayB
  rw [if_neg (by decide), if_neg (by decide)]
  rfl
theorem exN_1320 : holdsB exN exZ 1320 = true := by rw [holds_exN (by omega) (by omega)]; decide
theorem exN_1799 : holdsB exN exZ 1799 = true := by rw [holds_exN (by omega) (by omega)]; decide
theorem exN_0 : holdsB exN exZ 0 = false := by rw [holds_exN (by omega) (by omega)]; decide
theorem exN_1800 : holdsB exN exZ 1800 = false := by rw [holds_exN (by omega) (by omega)]; decide
theorem next_exW {t r : Int} (h0 : 0 ≤ t) (h1 : t < r) (h2 : r ≤ 10000) (hd : ((decide (480 ≤ r % 1440) && decide (r % 1440 < 1020)) != (decide (480 ≤ (r - 1) % 1440) && decide ((r - 1) % 1440 < 1020))) = true)
    (hs : ∀ u, t < u → u < r → ((480 ≤ u % 1440 ∧ u % 1440 < 1020) ↔ (480 ≤ (u - 1) % 1440 ∧ (u - 1) % 1440 < 1020))) : nextF (holdsB exW exZ) t = r := by
  refine nextF_of (.inl ⟨h1, by unfold maxT; omega, ?_, fun u a b => ?_⟩)
  · rw [holds_exW (by omega) (by omega), holds_exW (by omega) (by omega)]
    simpa using hd
  · rw [holds_exW (by omega) (by omega), holds_exW (by omega) (by omega), Bool.eq_iff_iff]
    simpa using hs u a b
theorem next_0 : nextF (holdsB exW exZ) 0 = 480 := next_exW (by omega) (by omega) (by omega) (by decide) (fun u a b => by omega)
theorem next_480 : nextF (holdsB exW exZ) 480 = 1020 := next_exW (by omega) (by omega) (by omega) (by decide) (fun u a b => by omega)
theorem next_500 : nextF (holdsB exW exZ) 500 = 1020 := next_exW (by omega) (by omega) (by omega) (by decide) (fun u a b => by omega)
theorem next_1020 : nextF (holdsB exW exZ) 1020 = 1920 := next_exW (by omega) (by omega) (by omega) (by decide) (fun u a b => by omega)
theorem next_1920 : nextF (holdsB exW exZ) 1920 = 2460 := next_exW (by omega) (by omega) (by omega) (by decide) (fun u a b => by omega)
theorem toF_500 : toF (holdsB exW exZ) 2000 500 = 1020 := by unfold toF; rw [next_500]; decide
theorem toF_1020 : toF (holdsB exW exZ) 2000 1020 = 1920 := by unfold toF; rw [next_1020]; decide
theorem toF_1920 : toF (holdsB exW exZ) 2000 1920 = 2000 := by unfold toF; rw [next_1920]; decide
theorem spans_ex : SpansIs exW exZ 500 2000 0 [(500, 1020), (1920, 2000)] := by
  refine spans_some exW_ok exZ_ok (by omega) ?_
  have h1 : holdsB exW exZ 500 = true := by rw [holds_exW (by omega) (by omega)]; decide
  have h2 : holdsB exW exZ 1020 = false := by rw [holds_exW (by omega) (by omega)]; decide
  have h3 : holdsB exW exZ 1920 = true := by rw [holds_exW (by omega) (by omega)]; decide
  rw [restS_step (by omega) (by omega), if_pos h1, if_neg (by decide), toF_500, restS_step (by omega) (by omega), if_neg (by rw [h2]; decide), toF_1020, restS_step (by omega) (by omega), if_pos h3, if_neg (by decide), toF_1920, restS_end (by omega)]
  rfl
theorem nextA_0 : nextA exW exZ 0 = 480 := by rw [nextA_ok exW_ok exZ_ok (by decide), next_0]
theorem nextA_480 : nextA exW exZ 480 = 1020 := by rw [nextA_ok exW_ok exZ_ok (by decide), next_480]
theorem nextA_5 : nextA exF exZ 5 = -1 := by
  rw [nextA_ok exF_ok exZ_ok (by decide)]
  have h := nextF_of (calm_all exF_ok exZ_ok rfl (.inl rfl) (u := 5) (by decide) (by decide))
  rw [h, if_neg (by simp [exF])]
theorem valid_ex : winE ⟨0, 0, 1440, 0, 0⟩ = 1 := winE_false (by decide)

end Go.Proofs.YtpknjblgbpndlaaDoor
