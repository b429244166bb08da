/-
  Walks: the law WindowCovers.
-/
import Derived.Test.YtpknjblgbpndlaaDoorWLaw5e
import Derived.Test.YtpknjblgbpndlaaDoorWRefS
namespace Go.Proofs.YtpknjblgbpndlaaDoor
open Go.RowKit Go.Lib Go.Maps
set_option linter.unusedVariables false

theorem spans_cov (W : WinR) (z : ZoneR) {a b : Int} (a0 : 0 ≤ a) (ab : a ≤ b) (b1 : b ≤ 268435456) :
    (¬ spansE W z a b = 0 ∧ spansL W z a b = []) ∨ (spansE W z a b = 0 ∧ CovTo (holdsB W z) a b (spansL W z a b)) := by
  by_cases he : spansE W z a b = 0
  · refine .inr ⟨he, ?_⟩
    unfold spansL
    rw [if_pos he]
    have hr : (restS (holdsB W z) b a []).isSome = true := by
      unfold spansE at he
      split at he
      · split at he
        · split at he
          · assumption
          · omega
        · omega
      · omega
    cases hl : restS (holdsB W z) b a [] with
    | none => rw [hl] at hr; cases hr
    | some L => exact restS_cov b1 a0 (b - a).toNat a [] L (Nat.le_refl _) (Int.le_refl _) ab (CovTo.start _ _) (fun _ _ p hp => by simp at hp) hl
  · exact .inl ⟨he, if_neg he⟩

end Go.Proofs.YtpknjblgbpndlaaDoor
