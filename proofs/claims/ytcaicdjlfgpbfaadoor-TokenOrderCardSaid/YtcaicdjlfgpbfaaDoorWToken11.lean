/-
  Walks: the laws TokenValid, TokenSame, TokenStays.
-/
import Derived.Test.YtcaicdjlfgpbfaaDoorWToken10
namespace Go.Proofs.YtcaicdjlfgpbfaaDoor
open Go.RowKit Go.Lib Go.Joins
attribute [local go_sem] after_cell
set_option linter.unusedVariables false

theorem Tok.small_fits {t : Tok} (h : t.small) : t.fits := ⟨small_max h.1, small_max h.2.1, small_max h.2.2⟩

theorem sameT_refl (a : Tok) : sameT a a = true := by
  have : sameS a.id a.id = true := by unfold sameS; simp
  unfold sameT
  rw [this]; rfl

theorem stays {t : Tok} {now later : Int} (h : now ≤ later) (h1 : statusT t now ≠ 1) : statusT t later = statusT t now := by
  unfold statusT at *
  split at h1
  · rename_i h2
    rw [if_pos ⟨h2.1, h2.2.1, by omega⟩, if_pos h2]
  · rename_i h2
    rw [if_neg (fun h3 => h1 h3.1), if_neg h2]

end Go.Proofs.YtcaicdjlfgpbfaaDoor
