/-
  What the row lists of the case tables, as the shelf's contracts ask for it.
-/
import Derived.Test.YtpokacnbdojncaaDoorRows
import Derived.Test.YtpokacnbdojncaaDoorCase
import Derived.PinnedBridge
import Derived.Lib.LaidU8
import Derived.Lib.LaidCase
import Derived.MakeChecks
namespace Go.Proofs.YtpokacnbdojncaaDoor
open Go.RowKit Go.Lib
set_option linter.unusedVariables false

theorem caseExtra : CaseExtra Tryd.prog Tryd.lays262_ren := ⟨by kernel_rfl, by kernel_rfl, by kernel_rfl, by kernel_rfl, by kernel_rfl, by kernel_rfl⟩
theorem u8Extra : U8Extra Tryd.prog Tryd.lays260_ren := ⟨by kernel_rfl, by kernel_rfl, by kernel_rfl, by kernel_rfl, by kernel_rfl, by kernel_rfl, by kernel_rfl⟩
theorem accept_eq : Rows.laid_unicode_utf8_acceptRanges = acceptData := by kernel_rfl
theorem lays274at : Go.Proofs.Lays.n274 Tryd.prog Tryd.lays262_ren := { Tryd.lays262 with }

theorem vars_of {l : List (String × DataW Unit)} {w : World} (h : laidMetH Tryd.prog l w) (h0 : (l.all fun x => x.2.handleName?.isNone) = true)
    (he : l = Rows.reserveHolderRow.laid) : Vars w := by
  rw [MakeChecks.laidMetH_plain _ _ _ h0] at h
  subst he
  refine ⟨caseVar_of_reads lays274at (by kernel_rfl) caseExtra (laidMet.reads h ?_), utf8Tabs_of_reads Tryd.lays260 u8Extra (laidMet.reads h ?_) (laidMet.reads h ?_)⟩
  · rw [← Pinned.caseRanges_eq]
    simp [Rows.reserveHolderRow, Rows.laid_unicode_CaseRanges]
  · rw [← Pinned.utf8First_eq]
    simp [Rows.reserveHolderRow, Rows.laid_unicode_utf8_first]
  · rw [← accept_eq]
    simp [Rows.reserveHolderRow]

end Go.Proofs.YtpokacnbdojncaaDoor
