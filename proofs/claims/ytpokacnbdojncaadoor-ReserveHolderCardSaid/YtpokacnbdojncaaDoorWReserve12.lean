/-
  The examples of the chapter: what the calls give, in plain Lean.
-/
import Derived.Test.YtpokacnbdojncaaDoorWReserve11
namespace Go.Proofs.YtpokacnbdojncaaDoor
open Go.RowKit Go.Lib Go.Joins
set_option linter.unusedVariables false

def exA : Resv := ⟨1, 2, ⟨#[65]⟩, ⟨#[103]⟩, 100⟩
def exB : Resv := ⟨2, 2, ⟨#[66]⟩, ⟨#[]⟩, 100⟩
def exM : Resv := ⟨1, 3, ⟨#[65]⟩, ⟨#[103]⟩, 100⟩
def exBad : Resv := ⟨1, 2, ⟨#[]⟩, ⟨#[103]⟩, 100⟩

theorem ex1 : putL [] exA 99 = [exA] := by kernel_rfl
theorem ex1e : putE [] exA 99 = 0 := by decide +kernel
theorem ex2e : putE [] exA 100 = 12 := by decide +kernel
theorem ex3e : putE [exA] exB 0 = 16 := by decide +kernel
theorem ex4 : putL [exA] exM 0 = [exM] := by kernel_rfl
theorem ex4e : putE [exA] exM 0 = 0 := by decide +kernel
theorem ex5 : putL [exM] exB 0 = [exM, exB] := by kernel_rfl
theorem ex5e : putE [exM] exB 0 = 0 := by decide +kernel
theorem ex6e : cancE [exA] 7 = 8 := by decide +kernel
theorem ex7 : heldL [exA] 99 = [exA] := by kernel_rfl
theorem ex7l : lostL [exA] 99 = [] := by kernel_rfl
theorem ex8 : validR exA = 0 := by decide +kernel
theorem ex8b : validR exBad = 4 := by decide +kernel

end Go.Proofs.YtpokacnbdojncaaDoor
