/-
  Windows on some days and on all others, in plain words.
-/
import Derived.Test.YtneoaakichcegaaDoorPWin
namespace Go.Proofs.YtneoaakichcegaaDoor
set_option linter.unusedVariables false

theorem onB_other {d w : Int} (h1 : 1 ≤ d) (h2 : d ≤ 126) (h3 : 1 ≤ w) (h4 : w ≤ 7) : onB (127 - d) w = !onB d w := by
  have hw : w = 1 ∨ w = 2 ∨ w = 3 ∨ w = 4 ∨ w = 5 ∨ w = 6 ∨ w = 7 := by omega
  obtain ⟨k, rfl⟩ : ∃ k : Fin 128, d = ((k : Nat) : Int) := ⟨⟨d.toNat, by omega⟩, by simp; omega⟩
  rcases hw with rfl | rfl | rfl | rfl | rfl | rfl | rfl
  all_goals
    revert h1 h2
    revert k
    decide
theorem onB_all (w : Int) : onB 0 w = true := rfl
def WinR.on (W : WinR) (d : Int) : WinR := ⟨d, W.st, W.en, W.fr, W.to⟩
theorem winB_on {W : WinR} {d : Int} (h1 : 0 ≤ d) (h2 : d ≤ 127) (h3 : 0 ≤ W.dy) (h4 : W.dy ≤ 127) : winB (W.on d) = winB W := by
  rw [Bool.eq_iff_iff, winB_iff, winB_iff]
  constructor
  · rintro ⟨a, b, c, d, e, f, g, h, i⟩
    exact ⟨h3, h4, c, d, e, f, g, h, i⟩
  · rintro ⟨a, b, c, d, e, f, g, h, i⟩
    exact ⟨h1, h2, c, d, e, f, g, h, i⟩
theorem days_part {W : WinR} (z : ZoneR) (t : Int) (h1 : 1 ≤ W.dy) (h2 : W.dy ≤ 126) :
    (holdsB W z t && holdsB (W.on (127 - W.dy)) z t) = false ∧ (holdsB W z t || holdsB (W.on (127 - W.dy)) z t) = holdsB (W.on 0) z t := by
  have e1 := winB_on (W := W) (d := 127 - W.dy) (by omega) (by omega) (by omega) (by omega)
  have e0 := winB_on (W := W) (d := 0) (by omega) (by omega) (by omega) (by omega)
  have i1 : inB (W.on (127 - W.dy)) t = inB W t := rfl
  have i0 : inB (W.on 0) t = inB W t := rfl
  unfold holdsB
  rw [e1, e0, i1, i0]
  have hw := wdF_rng ((t + offF z t) / 1440)
  have hp : (patB W z t && patB (W.on (127 - W.dy)) z t) = false ∧ (patB W z t || patB (W.on (127 - W.dy)) z t) = patB (W.on 0) z t := by
    unfold patB WinR.on
    simp only
    generalize wdF ((t + offF z t) / 1440) = w at *
    generalize (t + offF z t) % 1440 = m at *
    unfold dayB
    rw [onB_other h1 h2 hw.1 hw.2, onB_other h1 h2 (w := (w + 5) % 7 + 1) (by omega) (by omega), onB_all, onB_all]
    generalize onB W.dy w = b1
    generalize onB W.dy ((w + 5) % 7 + 1) = b2
    by_cases c1 : W.st = W.en
    · simp only [if_pos c1]
      cases b1 <;> simp
    · simp only [if_neg c1]
      by_cases c2 : W.st < W.en
      · simp only [if_pos c2]
        cases b1 <;> simp
      · simp only [if_neg c2]
        by_cases c3 : W.st ≤ m
        · have c4 : ¬ m < W.en := by omega
          cases b1 <;> cases b2 <;> simp [c3, c4]
        · cases b1 <;> cases b2 <;> simp [c3]
  obtain ⟨p1, p2⟩ := hp
  cases winB W <;> cases zoneB z <;> cases timeB t <;> cases inB W t <;> simp_all

end Go.Proofs.YtneoaakichcegaaDoor
