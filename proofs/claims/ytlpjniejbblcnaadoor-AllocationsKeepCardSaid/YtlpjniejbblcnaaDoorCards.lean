/-
  DERIVED. GIVEN WITH THE SEED: THE CARDS: each row of YtlpjniejbblcnaaDoorRows.lean that lists a variable, with what it lists TIED to the program's text (the seventh form; the later family's looks); each row that meets fmt, with fmt's text TOLD by the authors' own Lean function (tested against real Go, not proved from fmt's source: count such statements apart). THE CARD IS WHAT COUNTS. Prove the row's statement (the work); the ties are given (YtlpjniejbblcnaaDoorTie.lean); close each card by the builder's one call (the guide's Derived/Test/ToyasCard.lean, 'card_holds'). Laid BY PROGRAM, IN A SANDBOX (cutbox-door.mjs). By AI agents, Wed Nov 11 2026. No macro, syntax, notation, axiom, sorry.
-/
import Derived.Test.YtlpjniejbblcnaaDoorRows
import GoSem.ClaimSeven
namespace Go.Proofs.YtlpjniejbblcnaaDoor
namespace Rows

/-- THE TIED CARD OF 'chargenettop.PointsShare'. -/
def pointsShareCard : Claim7 := { stood := { row := pointsShareRow, standIns := [], harness := (true, "e8be1cedac019d224c01ce19e6ce816980ca586b9341fe07a7c1fa3fa5131b71"), looks := false }, kinds := [], alts := [], laidByText := true, laidKinds := [.data, .pinned, .pinned], laidTests := true, laidLooks := .later }
def PointsShareCardSaid : Prop := Claim7.holds Tryd.pinned (.plain (OpenSpec.ofChange pointsShareSpec)) pointsShareCard

/-- THE TIED CARD OF 'chargenetlaw17.AllocateRun'. -/
def allocateRunCard : Claim7 := { stood := { row := allocateRunRow, standIns := [], harness := (true, "e8be1cedac019d224c01ce19e6ce816980ca586b9341fe07a7c1fa3fa5131b71"), looks := false }, kinds := [], alts := [], laidByText := true, laidKinds := [.data, .pinned, .pinned], laidTests := true, laidLooks := .later }
def AllocateRunCardSaid : Prop := Claim7.holds Tryd.pinned (.plain (OpenSpec.ofChange allocateRunSpec)) allocateRunCard

/-- THE TIED CARD OF 'chargenetlaw17.AllocateFits'. -/
def allocateFitsCard : Claim7 := { stood := { row := allocateFitsRow, standIns := [], harness := (true, "e8be1cedac019d224c01ce19e6ce816980ca586b9341fe07a7c1fa3fa5131b71"), looks := false }, kinds := [], alts := [], laidByText := true, laidKinds := [.data, .pinned, .pinned], laidTests := true, laidLooks := .later }
def AllocateFitsCardSaid : Prop := Claim7.holds Tryd.pinned (.plain (OpenSpec.ofChange allocateFitsSpec)) allocateFitsCard

/-- THE TIED CARD OF 'chargenetlaw17.AllocateEqual'. -/
def allocateEqualCard : Claim7 := { stood := { row := allocateEqualRow, standIns := [], harness := (true, "e8be1cedac019d224c01ce19e6ce816980ca586b9341fe07a7c1fa3fa5131b71"), looks := false }, kinds := [], alts := [], laidByText := true, laidKinds := [.data, .pinned, .pinned], laidTests := true, laidLooks := .later }
def AllocateEqualCardSaid : Prop := Claim7.holds Tryd.pinned (.plain (OpenSpec.ofChange allocateEqualSpec)) allocateEqualCard

/-- THE TIED CARD OF 'chargenetlaw17.AllocateOne'. -/
def allocateOneCard : Claim7 := { stood := { row := allocateOneRow, standIns := [], harness := (true, "e8be1cedac019d224c01ce19e6ce816980ca586b9341fe07a7c1fa3fa5131b71"), looks := false }, kinds := [], alts := [], laidByText := true, laidKinds := [.data, .pinned, .pinned], laidTests := true, laidLooks := .later }
def AllocateOneCardSaid : Prop := Claim7.holds Tryd.pinned (.plain (OpenSpec.ofChange allocateOneSpec)) allocateOneCard

/-- THE TIED CARD OF 'chargenettop.AllocationsKeep'. -/
def allocationsKeepCard : Claim7 := { stood := { row := allocationsKeepRow, standIns := [], harness := (true, "e8be1cedac019d224c01ce19e6ce816980ca586b9341fe07a7c1fa3fa5131b71"), looks := false }, kinds := [], alts := [], laidByText := true, laidKinds := [.data, .data, .pinned, .pinned], laidTests := true, laidLooks := .later }
def AllocationsKeepCardSaid : Prop := Claim7.holds Tryd.pinned (.plain (OpenSpec.ofChange allocationsKeepSpec)) allocationsKeepCard

/-- THE SECOND FORM's CARD OF 'chargenettop.PointsShare'. -/
def pointsShareUptoCard : Claim7 := { stood := { row := pointsShareUptoRow, standIns := [], harness := (true, "e8be1cedac019d224c01ce19e6ce816980ca586b9341fe07a7c1fa3fa5131b71"), looks := false }, kinds := [], alts := [], laidByText := true, laidKinds := [.data, .pinned, .pinned], laidTests := true, laidLooks := .later }
def PointsShareUptoCardSaid : Prop := Claim7.holds Tryd.pinned (.plain (OpenSpec.upto pointsShareSpec)) pointsShareUptoCard

/-- THE SECOND FORM's CARD OF 'chargenetlaw17.AllocateRun'. -/
def allocateRunUptoCard : Claim7 := { stood := { row := allocateRunUptoRow, standIns := [], harness := (true, "e8be1cedac019d224c01ce19e6ce816980ca586b9341fe07a7c1fa3fa5131b71"), looks := false }, kinds := [], alts := [], laidByText := true, laidKinds := [.data, .pinned, .pinned], laidTests := true, laidLooks := .later }
def AllocateRunUptoCardSaid : Prop := Claim7.holds Tryd.pinned (.plain (OpenSpec.upto allocateRunSpec)) allocateRunUptoCard

/-- THE SECOND FORM's CARD OF 'chargenetlaw17.AllocateFits'. -/
def allocateFitsUptoCard : Claim7 := { stood := { row := allocateFitsUptoRow, standIns := [], harness := (true, "e8be1cedac019d224c01ce19e6ce816980ca586b9341fe07a7c1fa3fa5131b71"), looks := false }, kinds := [], alts := [], laidByText := true, laidKinds := [.data, .pinned, .pinned], laidTests := true, laidLooks := .later }
def AllocateFitsUptoCardSaid : Prop := Claim7.holds Tryd.pinned (.plain (OpenSpec.upto allocateFitsSpec)) allocateFitsUptoCard

/-- THE SECOND FORM's CARD OF 'chargenetlaw17.AllocateEqual'. -/
def allocateEqualUptoCard : Claim7 := { stood := { row := allocateEqualUptoRow, standIns := [], harness := (true, "e8be1cedac019d224c01ce19e6ce816980ca586b9341fe07a7c1fa3fa5131b71"), looks := false }, kinds := [], alts := [], laidByText := true, laidKinds := [.data, .pinned, .pinned], laidTests := true, laidLooks := .later }
def AllocateEqualUptoCardSaid : Prop := Claim7.holds Tryd.pinned (.plain (OpenSpec.upto allocateEqualSpec)) allocateEqualUptoCard

/-- THE SECOND FORM's CARD OF 'chargenetlaw17.AllocateOne'. -/
def allocateOneUptoCard : Claim7 := { stood := { row := allocateOneUptoRow, standIns := [], harness := (true, "e8be1cedac019d224c01ce19e6ce816980ca586b9341fe07a7c1fa3fa5131b71"), looks := false }, kinds := [], alts := [], laidByText := true, laidKinds := [.data, .pinned, .pinned], laidTests := true, laidLooks := .later }
def AllocateOneUptoCardSaid : Prop := Claim7.holds Tryd.pinned (.plain (OpenSpec.upto allocateOneSpec)) allocateOneUptoCard

/-- THE SECOND FORM's CARD OF 'chargenettop.AllocationsKeep'. -/
def allocationsKeepUptoCard : Claim7 := { stood := { row := allocationsKeepUptoRow, standIns := [], harness := (true, "e8be1cedac019d224c01ce19e6ce816980ca586b9341fe07a7c1fa3fa5131b71"), looks := false }, kinds := [], alts := [], laidByText := true, laidKinds := [.data, .data, .pinned, .pinned], laidTests := true, laidLooks := .later }
def AllocationsKeepUptoCardSaid : Prop := Claim7.holds Tryd.pinned (.plain (OpenSpec.upto allocationsKeepSpec)) allocationsKeepUptoCard
end Rows
end Go.Proofs.YtlpjniejbblcnaaDoor
