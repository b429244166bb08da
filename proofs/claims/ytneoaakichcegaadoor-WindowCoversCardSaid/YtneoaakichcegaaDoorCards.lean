/-
  DERIVED. GIVEN WITH THE SEED: THE CARDS: each row of YtneoaakichcegaaDoorRows.lean that lists a variable, with what it lists TIED to the program's text (the seventh form; the later family's looks); each row that meets fmt, with fmt's text TOLD by the authors' own Lean function (tested against real Go, not proved from fmt's source: count such statements apart). THE CARD IS WHAT COUNTS. Prove the row's statement (the work); the ties are given (YtneoaakichcegaaDoorTie.lean); close each card by the builder's one call (the guide's Derived/Test/ToyasCard.lean, 'card_holds'). Laid BY PROGRAM, IN A SANDBOX (cutbox-door.mjs). By AI agents, Wed Nov 11 2026. No macro, syntax, notation, axiom, sorry.
-/
import Derived.Test.YtneoaakichcegaaDoorRows
import GoSem.ClaimSeven
namespace Go.Proofs.YtneoaakichcegaaDoor
namespace Rows

/-- THE TIED CARD OF 'chargenettop.WindowsDivide'. -/
def windowsDivideCard : Claim7 := { stood := { row := windowsDivideRow, standIns := [], harness := (true, "8f2b981f04eb8f2e055b1d885713f28d7e414545e8c0920bc4a47b068a8410ce"), looks := false }, kinds := [], alts := [], laidByText := true, laidKinds := [.data], laidTests := true, laidLooks := .later }
def WindowsDivideCardSaid : Prop := Claim7.holds Tryd.pinned (.plain (OpenSpec.ofChange windowsDivideSpec)) windowsDivideCard

/-- THE TIED CARD OF 'chargenetlaw05.WindowValid'. -/
def windowValidCard : Claim7 := { stood := { row := windowValidRow, standIns := [], harness := (true, "8f2b981f04eb8f2e055b1d885713f28d7e414545e8c0920bc4a47b068a8410ce"), looks := false }, kinds := [], alts := [], laidByText := true, laidKinds := [.data], laidTests := true, laidLooks := .later }
def WindowValidCardSaid : Prop := Claim7.holds Tryd.pinned (.plain (OpenSpec.ofChange windowValidSpec)) windowValidCard

/-- THE TIED CARD OF 'chargenetlaw05.WindowHolds'. -/
def windowHoldsCard : Claim7 := { stood := { row := windowHoldsRow, standIns := [], harness := (true, "8f2b981f04eb8f2e055b1d885713f28d7e414545e8c0920bc4a47b068a8410ce"), looks := false }, kinds := [], alts := [], laidByText := true, laidKinds := [.data], laidTests := true, laidLooks := .later }
def WindowHoldsCardSaid : Prop := Claim7.holds Tryd.pinned (.plain (OpenSpec.ofChange windowHoldsSpec)) windowHoldsCard

/-- THE TIED CARD OF 'chargenetlaw05.WindowNext'. -/
def windowNextCard : Claim7 := { stood := { row := windowNextRow, standIns := [], harness := (true, "8f2b981f04eb8f2e055b1d885713f28d7e414545e8c0920bc4a47b068a8410ce"), looks := false }, kinds := [], alts := [], laidByText := true, laidKinds := [.data], laidTests := true, laidLooks := .later }
def WindowNextCardSaid : Prop := Claim7.holds Tryd.pinned (.plain (OpenSpec.ofChange windowNextSpec)) windowNextCard

/-- THE TIED CARD OF 'chargenetlaw05.WindowSpans'. -/
def windowSpansCard : Claim7 := { stood := { row := windowSpansRow, standIns := [], harness := (true, "8f2b981f04eb8f2e055b1d885713f28d7e414545e8c0920bc4a47b068a8410ce"), looks := false }, kinds := [], alts := [], laidByText := true, laidKinds := [.data], laidTests := true, laidLooks := .later }
def WindowSpansCardSaid : Prop := Claim7.holds Tryd.pinned (.plain (OpenSpec.ofChange windowSpansSpec)) windowSpansCard

/-- THE TIED CARD OF 'chargenetlaw05.WindowConstant'. -/
def windowConstantCard : Claim7 := { stood := { row := windowConstantRow, standIns := [], harness := (true, "8f2b981f04eb8f2e055b1d885713f28d7e414545e8c0920bc4a47b068a8410ce"), looks := false }, kinds := [], alts := [], laidByText := true, laidKinds := [.data], laidTests := true, laidLooks := .later }
def WindowConstantCardSaid : Prop := Claim7.holds Tryd.pinned (.plain (OpenSpec.ofChange windowConstantSpec)) windowConstantCard

/-- THE TIED CARD OF 'chargenetlaw05.WindowCovers'. -/
def windowCoversCard : Claim7 := { stood := { row := windowCoversRow, standIns := [], harness := (true, "8f2b981f04eb8f2e055b1d885713f28d7e414545e8c0920bc4a47b068a8410ce"), looks := false }, kinds := [], alts := [], laidByText := true, laidKinds := [.data], laidTests := true, laidLooks := .later }
def WindowCoversCardSaid : Prop := Claim7.holds Tryd.pinned (.plain (OpenSpec.ofChange windowCoversSpec)) windowCoversCard

/-- THE TIED CARD OF 'chargenetlaw05.WindowDays'. -/
def windowDaysCard : Claim7 := { stood := { row := windowDaysRow, standIns := [], harness := (true, "8f2b981f04eb8f2e055b1d885713f28d7e414545e8c0920bc4a47b068a8410ce"), looks := false }, kinds := [], alts := [], laidByText := true, laidKinds := [.data], laidTests := true, laidLooks := .later }
def WindowDaysCardSaid : Prop := Claim7.holds Tryd.pinned (.plain (OpenSpec.ofChange windowDaysSpec)) windowDaysCard

/-- THE SECOND FORM's CARD OF 'chargenettop.WindowsDivide'. -/
def windowsDivideUptoCard : Claim7 := { stood := { row := windowsDivideUptoRow, standIns := [], harness := (true, "8f2b981f04eb8f2e055b1d885713f28d7e414545e8c0920bc4a47b068a8410ce"), looks := false }, kinds := [], alts := [], laidByText := true, laidKinds := [.data], laidTests := true, laidLooks := .later }
def WindowsDivideUptoCardSaid : Prop := Claim7.holds Tryd.pinned (.plain (OpenSpec.upto windowsDivideSpec)) windowsDivideUptoCard

/-- THE SECOND FORM's CARD OF 'chargenetlaw05.WindowValid'. -/
def windowValidUptoCard : Claim7 := { stood := { row := windowValidUptoRow, standIns := [], harness := (true, "8f2b981f04eb8f2e055b1d885713f28d7e414545e8c0920bc4a47b068a8410ce"), looks := false }, kinds := [], alts := [], laidByText := true, laidKinds := [.data], laidTests := true, laidLooks := .later }
def WindowValidUptoCardSaid : Prop := Claim7.holds Tryd.pinned (.plain (OpenSpec.upto windowValidSpec)) windowValidUptoCard

/-- THE SECOND FORM's CARD OF 'chargenetlaw05.WindowHolds'. -/
def windowHoldsUptoCard : Claim7 := { stood := { row := windowHoldsUptoRow, standIns := [], harness := (true, "8f2b981f04eb8f2e055b1d885713f28d7e414545e8c0920bc4a47b068a8410ce"), looks := false }, kinds := [], alts := [], laidByText := true, laidKinds := [.data], laidTests := true, laidLooks := .later }
def WindowHoldsUptoCardSaid : Prop := Claim7.holds Tryd.pinned (.plain (OpenSpec.upto windowHoldsSpec)) windowHoldsUptoCard

/-- THE SECOND FORM's CARD OF 'chargenetlaw05.WindowNext'. -/
def windowNextUptoCard : Claim7 := { stood := { row := windowNextUptoRow, standIns := [], harness := (true, "8f2b981f04eb8f2e055b1d885713f28d7e414545e8c0920bc4a47b068a8410ce"), looks := false }, kinds := [], alts := [], laidByText := true, laidKinds := [.data], laidTests := true, laidLooks := .later }
def WindowNextUptoCardSaid : Prop := Claim7.holds Tryd.pinned (.plain (OpenSpec.upto windowNextSpec)) windowNextUptoCard

/-- THE SECOND FORM's CARD OF 'chargenetlaw05.WindowSpans'. -/
def windowSpansUptoCard : Claim7 := { stood := { row := windowSpansUptoRow, standIns := [], harness := (true, "8f2b981f04eb8f2e055b1d885713f28d7e414545e8c0920bc4a47b068a8410ce"), looks := false }, kinds := [], alts := [], laidByText := true, laidKinds := [.data], laidTests := true, laidLooks := .later }
def WindowSpansUptoCardSaid : Prop := Claim7.holds Tryd.pinned (.plain (OpenSpec.upto windowSpansSpec)) windowSpansUptoCard

/-- THE SECOND FORM's CARD OF 'chargenetlaw05.WindowConstant'. -/
def windowConstantUptoCard : Claim7 := { stood := { row := windowConstantUptoRow, standIns := [], harness := (true, "8f2b981f04eb8f2e055b1d885713f28d7e414545e8c0920bc4a47b068a8410ce"), looks := false }, kinds := [], alts := [], laidByText := true, laidKinds := [.data], laidTests := true, laidLooks := .later }
def WindowConstantUptoCardSaid : Prop := Claim7.holds Tryd.pinned (.plain (OpenSpec.upto windowConstantSpec)) windowConstantUptoCard

/-- THE SECOND FORM's CARD OF 'chargenetlaw05.WindowCovers'. -/
def windowCoversUptoCard : Claim7 := { stood := { row := windowCoversUptoRow, standIns := [], harness := (true, "8f2b981f04eb8f2e055b1d885713f28d7e414545e8c0920bc4a47b068a8410ce"), looks := false }, kinds := [], alts := [], laidByText := true, laidKinds := [.data], laidTests := true, laidLooks := .later }
def WindowCoversUptoCardSaid : Prop := Claim7.holds Tryd.pinned (.plain (OpenSpec.upto windowCoversSpec)) windowCoversUptoCard

/-- THE SECOND FORM's CARD OF 'chargenetlaw05.WindowDays'. -/
def windowDaysUptoCard : Claim7 := { stood := { row := windowDaysUptoRow, standIns := [], harness := (true, "8f2b981f04eb8f2e055b1d885713f28d7e414545e8c0920bc4a47b068a8410ce"), looks := false }, kinds := [], alts := [], laidByText := true, laidKinds := [.data], laidTests := true, laidLooks := .later }
def WindowDaysUptoCardSaid : Prop := Claim7.holds Tryd.pinned (.plain (OpenSpec.upto windowDaysSpec)) windowDaysUptoCard
end Rows
end Go.Proofs.YtneoaakichcegaaDoor
