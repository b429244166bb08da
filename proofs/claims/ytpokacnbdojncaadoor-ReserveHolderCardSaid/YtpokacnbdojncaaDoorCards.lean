/-
  DERIVED. GIVEN WITH THE SEED: THE CARDS: each row of YtpokacnbdojncaaDoorRows.lean that lists a variable, with what it lists TIED to the program's text (the seventh form; the later family's looks); each row that meets fmt, with fmt's text TOLD by the authors' own Lean function (tested against real Go, not proved from fmt's source: count such statements apart). THE CARD IS WHAT COUNTS. Prove the row's statement (the work); the ties are given (YtpokacnbdojncaaDoorTie.lean); close each card by the builder's one call (the guide's Derived/Test/ToyasCard.lean, 'card_holds'). Laid BY PROGRAM, IN A SANDBOX (cutbox-door.mjs). By AI agents, Wed Nov 11 2026. No macro, syntax, notation, axiom, sorry.
-/
import Derived.Test.YtpokacnbdojncaaDoorRows
import GoSem.ClaimSeven
namespace Go.Proofs.YtpokacnbdojncaaDoor
namespace Rows

/-- THE TIED CARD OF 'chargenetlaw29.ReserveHolder'. -/
def reserveHolderCard : Claim7 := { stood := { row := reserveHolderRow, standIns := [], harness := (true, "efc277ad4256ea78e226f2d5c5c9f4f5ba60d2cbfdbce5ae0eb4cbe32bf6a2bb"), looks := false }, kinds := [], alts := [], laidByText := true, laidKinds := [.data, .pinned, .pinned], laidTests := true, laidLooks := .later }
def ReserveHolderCardSaid : Prop := Claim7.holds Tryd.pinned (.plain (OpenSpec.ofChange reserveHolderSpec)) reserveHolderCard

/-- THE SECOND FORM's CARD OF 'chargenetlaw29.ReserveHolder'. -/
def reserveHolderUptoCard : Claim7 := { stood := { row := reserveHolderUptoRow, standIns := [], harness := (true, "efc277ad4256ea78e226f2d5c5c9f4f5ba60d2cbfdbce5ae0eb4cbe32bf6a2bb"), looks := false }, kinds := [], alts := [], laidByText := true, laidKinds := [.data, .pinned, .pinned], laidTests := true, laidLooks := .later }
def ReserveHolderUptoCardSaid : Prop := Claim7.holds Tryd.pinned (.plain (OpenSpec.upto reserveHolderSpec)) reserveHolderUptoCard
end Rows
end Go.Proofs.YtpokacnbdojncaaDoor
