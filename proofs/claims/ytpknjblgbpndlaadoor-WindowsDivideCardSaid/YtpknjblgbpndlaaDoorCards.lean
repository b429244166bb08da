/-
  DERIVED. GIVEN WITH THE SEED: THE CARDS: each row of YtpknjblgbpndlaaDoorRows.lean that lists a variable, with what it lists TIED to the program's text (the seventh form; the later family's looks); each row that meets fmt, with fmt's text TOLD by the authors' own Lean function (tested against real Go, not proved from fmt's source: count such statements apart). THE CARD IS WHAT COUNTS. Prove the row's statement (the work); the ties are given (YtpknjblgbpndlaaDoorTie.lean); close each card by the builder's one call (the guide's Derived/Test/ToyasCard.lean, 'card_holds'). Laid BY PROGRAM, IN A SANDBOX (cutbox-door.mjs). By AI agents, Wed Nov 11 2026. No macro, syntax, notation, axiom, sorry.
-/
import Derived.Test.YtpknjblgbpndlaaDoorRows
import GoSem.ClaimSeven
namespace Go.Proofs.YtpknjblgbpndlaaDoor
namespace Rows

/-- THE TIED CARD OF 'chargenettop.WindowsDivide'. -/
def windowsDivideCard : Claim7 := { stood := { row := windowsDivideRow, standIns := [], harness := (true, "b51511db6df7f9c9cf82963614c57e2889a48e73c29d611b12e1ffb8ed8338eb"), looks := false }, kinds := [], alts := [], laidByText := true, laidKinds := [.data], laidTests := true, laidLooks := .later }
def WindowsDivideCardSaid : Prop := Claim7.holds Tryd.pinned (.plain (OpenSpec.ofChange windowsDivideSpec)) windowsDivideCard

/-- THE TIED CARD OF 'chargenetlaw12.ContractValids'. -/
def contractValidsCard : Claim7 := { stood := { row := contractValidsRow, standIns := [], harness := (true, "b51511db6df7f9c9cf82963614c57e2889a48e73c29d611b12e1ffb8ed8338eb"), looks := false }, kinds := [], alts := [], laidByText := true, laidKinds := [.data], laidTests := true, laidLooks := .later }
def ContractValidsCardSaid : Prop := Claim7.holds Tryd.pinned (.plain (OpenSpec.ofChange contractValidsSpec)) contractValidsCard

/-- THE TIED CARD OF 'chargenetlaw12.ContractAts'. -/
def contractAtsCard : Claim7 := { stood := { row := contractAtsRow, standIns := [], harness := (true, "b51511db6df7f9c9cf82963614c57e2889a48e73c29d611b12e1ffb8ed8338eb"), looks := false }, kinds := [], alts := [], laidByText := true, laidKinds := [.data], laidTests := true, laidLooks := .later }
def ContractAtsCardSaid : Prop := Claim7.holds Tryd.pinned (.plain (OpenSpec.ofChange contractAtsSpec)) contractAtsCard

/-- THE TIED CARD OF 'chargenetlaw12.ContractNexts'. -/
def contractNextsCard : Claim7 := { stood := { row := contractNextsRow, standIns := [], harness := (true, "b51511db6df7f9c9cf82963614c57e2889a48e73c29d611b12e1ffb8ed8338eb"), looks := false }, kinds := [], alts := [], laidByText := true, laidKinds := [.data], laidTests := true, laidLooks := .later }
def ContractNextsCardSaid : Prop := Claim7.holds Tryd.pinned (.plain (OpenSpec.ofChange contractNextsSpec)) contractNextsCard

/-- THE TIED CARD OF 'chargenetlaw12.ContractHolds'. -/
def contractHoldsCard : Claim7 := { stood := { row := contractHoldsRow, standIns := [], harness := (true, "b51511db6df7f9c9cf82963614c57e2889a48e73c29d611b12e1ffb8ed8338eb"), looks := false }, kinds := [], alts := [], laidByText := true, laidKinds := [.data], laidTests := true, laidLooks := .later }
def ContractHoldsCardSaid : Prop := Claim7.holds Tryd.pinned (.plain (OpenSpec.ofChange contractHoldsSpec)) contractHoldsCard

/-- THE TIED CARD OF 'chargenetlaw12.ContractSteps'. -/
def contractStepsCard : Claim7 := { stood := { row := contractStepsRow, standIns := [], harness := (true, "b51511db6df7f9c9cf82963614c57e2889a48e73c29d611b12e1ffb8ed8338eb"), looks := false }, kinds := [], alts := [], laidByText := true, laidKinds := [.data], laidTests := true, laidLooks := .later }
def ContractStepsCardSaid : Prop := Claim7.holds Tryd.pinned (.plain (OpenSpec.ofChange contractStepsSpec)) contractStepsCard

/-- THE TIED CARD OF 'chargenetlaw12.ContractOwn'. -/
def contractOwnCard : Claim7 := { stood := { row := contractOwnRow, standIns := [], harness := (true, "b51511db6df7f9c9cf82963614c57e2889a48e73c29d611b12e1ffb8ed8338eb"), looks := false }, kinds := [], alts := [], laidByText := true, laidKinds := [.data], laidTests := true, laidLooks := .later }
def ContractOwnCardSaid : Prop := Claim7.holds Tryd.pinned (.plain (OpenSpec.ofChange contractOwnSpec)) contractOwnCard

/-- THE SECOND FORM's CARD OF 'chargenettop.WindowsDivide'. -/
def windowsDivideUptoCard : Claim7 := { stood := { row := windowsDivideUptoRow, standIns := [], harness := (true, "b51511db6df7f9c9cf82963614c57e2889a48e73c29d611b12e1ffb8ed8338eb"), looks := false }, kinds := [], alts := [], laidByText := true, laidKinds := [.data], laidTests := true, laidLooks := .later }
def WindowsDivideUptoCardSaid : Prop := Claim7.holds Tryd.pinned (.plain (OpenSpec.upto windowsDivideSpec)) windowsDivideUptoCard

/-- THE SECOND FORM's CARD OF 'chargenetlaw12.ContractValids'. -/
def contractValidsUptoCard : Claim7 := { stood := { row := contractValidsUptoRow, standIns := [], harness := (true, "b51511db6df7f9c9cf82963614c57e2889a48e73c29d611b12e1ffb8ed8338eb"), looks := false }, kinds := [], alts := [], laidByText := true, laidKinds := [.data], laidTests := true, laidLooks := .later }
def ContractValidsUptoCardSaid : Prop := Claim7.holds Tryd.pinned (.plain (OpenSpec.upto contractValidsSpec)) contractValidsUptoCard

/-- THE SECOND FORM's CARD OF 'chargenetlaw12.ContractAts'. -/
def contractAtsUptoCard : Claim7 := { stood := { row := contractAtsUptoRow, standIns := [], harness := (true, "b51511db6df7f9c9cf82963614c57e2889a48e73c29d611b12e1ffb8ed8338eb"), looks := false }, kinds := [], alts := [], laidByText := true, laidKinds := [.data], laidTests := true, laidLooks := .later }
def ContractAtsUptoCardSaid : Prop := Claim7.holds Tryd.pinned (.plain (OpenSpec.upto contractAtsSpec)) contractAtsUptoCard

/-- THE SECOND FORM's CARD OF 'chargenetlaw12.ContractNexts'. -/
def contractNextsUptoCard : Claim7 := { stood := { row := contractNextsUptoRow, standIns := [], harness := (true, "b51511db6df7f9c9cf82963614c57e2889a48e73c29d611b12e1ffb8ed8338eb"), looks := false }, kinds := [], alts := [], laidByText := true, laidKinds := [.data], laidTests := true, laidLooks := .later }
def ContractNextsUptoCardSaid : Prop := Claim7.holds Tryd.pinned (.plain (OpenSpec.upto contractNextsSpec)) contractNextsUptoCard

/-- THE SECOND FORM's CARD OF 'chargenetlaw12.ContractHolds'. -/
def contractHoldsUptoCard : Claim7 := { stood := { row := contractHoldsUptoRow, standIns := [], harness := (true, "b51511db6df7f9c9cf82963614c57e2889a48e73c29d611b12e1ffb8ed8338eb"), looks := false }, kinds := [], alts := [], laidByText := true, laidKinds := [.data], laidTests := true, laidLooks := .later }
def ContractHoldsUptoCardSaid : Prop := Claim7.holds Tryd.pinned (.plain (OpenSpec.upto contractHoldsSpec)) contractHoldsUptoCard

/-- THE SECOND FORM's CARD OF 'chargenetlaw12.ContractSteps'. -/
def contractStepsUptoCard : Claim7 := { stood := { row := contractStepsUptoRow, standIns := [], harness := (true, "b51511db6df7f9c9cf82963614c57e2889a48e73c29d611b12e1ffb8ed8338eb"), looks := false }, kinds := [], alts := [], laidByText := true, laidKinds := [.data], laidTests := true, laidLooks := .later }
def ContractStepsUptoCardSaid : Prop := Claim7.holds Tryd.pinned (.plain (OpenSpec.upto contractStepsSpec)) contractStepsUptoCard

/-- THE SECOND FORM's CARD OF 'chargenetlaw12.ContractOwn'. -/
def contractOwnUptoCard : Claim7 := { stood := { row := contractOwnUptoRow, standIns := [], harness := (true, "b51511db6df7f9c9cf82963614c57e2889a48e73c29d611b12e1ffb8ed8338eb"), looks := false }, kinds := [], alts := [], laidByText := true, laidKinds := [.data], laidTests := true, laidLooks := .later }
def ContractOwnUptoCardSaid : Prop := Claim7.holds Tryd.pinned (.plain (OpenSpec.upto contractOwnSpec)) contractOwnUptoCard
end Rows
end Go.Proofs.YtpknjblgbpndlaaDoor
