/-
  DERIVED. GIVEN WITH THE SEED: THE CARDS: each row of YtmappmeojmdekaaGreatDoorRows.lean that lists a variable, with what it lists TIED to the program's text (the seventh form; the later family's looks); each row that meets fmt, with fmt's text TOLD by the authors' own Lean function (tested against real Go, not proved from fmt's source: count such statements apart). THE CARD IS WHAT COUNTS. Prove the row's statement (the work); the ties are given (YtmappmeojmdekaaGreatDoorTie.lean); close each card by the builder's one call (the guide's Derived/Test/ToyasCard.lean, 'card_holds'). Laid BY PROGRAM, IN A SANDBOX (cutbox-door.mjs). By AI agents, Wed Nov 11 2026. No macro, syntax, notation, axiom, sorry.
-/
import Derived.Test.YtmappmeojmdekaaGreatDoorRows
import GoSem.ClaimSeven
namespace Go.Proofs.YtmappmeojmdekaaGreatDoor
namespace Rows

/-- THE TIED CARD OF 'chargenetlaw14.LimitsValid'. -/
def limitsValidCard : Claim7 := { stood := { row := limitsValidRow, standIns := [], harness := (true, "bb2120cc92d71487630b9ebe84a9e789ada70e60594824e01b9ddeac4a04a30c"), looks := false }, kinds := [], alts := [], laidByText := true, laidKinds := [.data, .data, .pinned, .pinned], laidTests := true, laidLooks := .later }
def LimitsValidCardSaid : Prop := Claim7.holds Tryz.pinned (.plain (OpenSpec.ofChange limitsValidSpec)) limitsValidCard

/-- THE TIED CARD OF 'chargenetlaw14.LimitsAt'. -/
def limitsAtCard : Claim7 := { stood := { row := limitsAtRow, standIns := [], harness := (true, "bb2120cc92d71487630b9ebe84a9e789ada70e60594824e01b9ddeac4a04a30c"), looks := false }, kinds := [], alts := [], laidByText := true, laidKinds := [.data, .data, .pinned, .pinned], laidTests := true, laidLooks := .later }
def LimitsAtCardSaid : Prop := Claim7.holds Tryz.pinned (.plain (OpenSpec.ofChange limitsAtSpec)) limitsAtCard

/-- THE TIED CARD OF 'chargenetlaw14.LimitsNext'. -/
def limitsNextCard : Claim7 := { stood := { row := limitsNextRow, standIns := [], harness := (true, "bb2120cc92d71487630b9ebe84a9e789ada70e60594824e01b9ddeac4a04a30c"), looks := false }, kinds := [], alts := [], laidByText := true, laidKinds := [.data, .data, .pinned, .pinned], laidTests := true, laidLooks := .later }
def LimitsNextCardSaid : Prop := Claim7.holds Tryz.pinned (.plain (OpenSpec.ofChange limitsNextSpec)) limitsNextCard

/-- THE TIED CARD OF 'chargenetlaw14.LimitsPaths'. -/
def limitsPathsCard : Claim7 := { stood := { row := limitsPathsRow, standIns := [], harness := (true, "bb2120cc92d71487630b9ebe84a9e789ada70e60594824e01b9ddeac4a04a30c"), looks := false }, kinds := [], alts := [], laidByText := true, laidKinds := [.data, .data, .pinned, .pinned], laidTests := true, laidLooks := .later }
def LimitsPathsCardSaid : Prop := Claim7.holds Tryz.pinned (.plain (OpenSpec.ofChange limitsPathsSpec)) limitsPathsCard

/-- THE TIED CARD OF 'chargenetlaw14.LimitsConstant'. -/
def limitsConstantCard : Claim7 := { stood := { row := limitsConstantRow, standIns := [], harness := (true, "bb2120cc92d71487630b9ebe84a9e789ada70e60594824e01b9ddeac4a04a30c"), looks := false }, kinds := [], alts := [], laidByText := true, laidKinds := [.data, .data, .pinned, .pinned], laidTests := true, laidLooks := .later }
def LimitsConstantCardSaid : Prop := Claim7.holds Tryz.pinned (.plain (OpenSpec.ofChange limitsConstantSpec)) limitsConstantCard

/-- THE TIED CARD OF 'chargenetlaw14.LimitsValues'. -/
def limitsValuesCard : Claim7 := { stood := { row := limitsValuesRow, standIns := [], harness := (true, "bb2120cc92d71487630b9ebe84a9e789ada70e60594824e01b9ddeac4a04a30c"), looks := false }, kinds := [], alts := [], laidByText := true, laidKinds := [.data, .data, .pinned, .pinned], laidTests := true, laidLooks := .later }
def LimitsValuesCardSaid : Prop := Claim7.holds Tryz.pinned (.plain (OpenSpec.ofChange limitsValuesSpec)) limitsValuesCard

/-- THE TIED CARD OF 'chargenetlaw14.LimitsMore'. -/
def limitsMoreCard : Claim7 := { stood := { row := limitsMoreRow, standIns := [], harness := (true, "bb2120cc92d71487630b9ebe84a9e789ada70e60594824e01b9ddeac4a04a30c"), looks := false }, kinds := [], alts := [], laidByText := true, laidKinds := [.data, .data, .pinned, .pinned], laidTests := true, laidLooks := .later }
def LimitsMoreCardSaid : Prop := Claim7.holds Tryz.pinned (.plain (OpenSpec.ofChange limitsMoreSpec)) limitsMoreCard

/-- THE SECOND FORM's CARD OF 'chargenetlaw14.LimitsValid'. -/
def limitsValidUptoCard : Claim7 := { stood := { row := limitsValidUptoRow, standIns := [], harness := (true, "bb2120cc92d71487630b9ebe84a9e789ada70e60594824e01b9ddeac4a04a30c"), looks := false }, kinds := [], alts := [], laidByText := true, laidKinds := [.data, .data, .pinned, .pinned], laidTests := true, laidLooks := .later }
def LimitsValidUptoCardSaid : Prop := Claim7.holds Tryz.pinned (.plain (OpenSpec.upto limitsValidSpec)) limitsValidUptoCard

/-- THE SECOND FORM's CARD OF 'chargenetlaw14.LimitsAt'. -/
def limitsAtUptoCard : Claim7 := { stood := { row := limitsAtUptoRow, standIns := [], harness := (true, "bb2120cc92d71487630b9ebe84a9e789ada70e60594824e01b9ddeac4a04a30c"), looks := false }, kinds := [], alts := [], laidByText := true, laidKinds := [.data, .data, .pinned, .pinned], laidTests := true, laidLooks := .later }
def LimitsAtUptoCardSaid : Prop := Claim7.holds Tryz.pinned (.plain (OpenSpec.upto limitsAtSpec)) limitsAtUptoCard

/-- THE SECOND FORM's CARD OF 'chargenetlaw14.LimitsNext'. -/
def limitsNextUptoCard : Claim7 := { stood := { row := limitsNextUptoRow, standIns := [], harness := (true, "bb2120cc92d71487630b9ebe84a9e789ada70e60594824e01b9ddeac4a04a30c"), looks := false }, kinds := [], alts := [], laidByText := true, laidKinds := [.data, .data, .pinned, .pinned], laidTests := true, laidLooks := .later }
def LimitsNextUptoCardSaid : Prop := Claim7.holds Tryz.pinned (.plain (OpenSpec.upto limitsNextSpec)) limitsNextUptoCard

/-- THE SECOND FORM's CARD OF 'chargenetlaw14.LimitsPaths'. -/
def limitsPathsUptoCard : Claim7 := { stood := { row := limitsPathsUptoRow, standIns := [], harness := (true, "bb2120cc92d71487630b9ebe84a9e789ada70e60594824e01b9ddeac4a04a30c"), looks := false }, kinds := [], alts := [], laidByText := true, laidKinds := [.data, .data, .pinned, .pinned], laidTests := true, laidLooks := .later }
def LimitsPathsUptoCardSaid : Prop := Claim7.holds Tryz.pinned (.plain (OpenSpec.upto limitsPathsSpec)) limitsPathsUptoCard

/-- THE SECOND FORM's CARD OF 'chargenetlaw14.LimitsConstant'. -/
def limitsConstantUptoCard : Claim7 := { stood := { row := limitsConstantUptoRow, standIns := [], harness := (true, "bb2120cc92d71487630b9ebe84a9e789ada70e60594824e01b9ddeac4a04a30c"), looks := false }, kinds := [], alts := [], laidByText := true, laidKinds := [.data, .data, .pinned, .pinned], laidTests := true, laidLooks := .later }
def LimitsConstantUptoCardSaid : Prop := Claim7.holds Tryz.pinned (.plain (OpenSpec.upto limitsConstantSpec)) limitsConstantUptoCard

/-- THE SECOND FORM's CARD OF 'chargenetlaw14.LimitsValues'. -/
def limitsValuesUptoCard : Claim7 := { stood := { row := limitsValuesUptoRow, standIns := [], harness := (true, "bb2120cc92d71487630b9ebe84a9e789ada70e60594824e01b9ddeac4a04a30c"), looks := false }, kinds := [], alts := [], laidByText := true, laidKinds := [.data, .data, .pinned, .pinned], laidTests := true, laidLooks := .later }
def LimitsValuesUptoCardSaid : Prop := Claim7.holds Tryz.pinned (.plain (OpenSpec.upto limitsValuesSpec)) limitsValuesUptoCard

/-- THE SECOND FORM's CARD OF 'chargenetlaw14.LimitsMore'. -/
def limitsMoreUptoCard : Claim7 := { stood := { row := limitsMoreUptoRow, standIns := [], harness := (true, "bb2120cc92d71487630b9ebe84a9e789ada70e60594824e01b9ddeac4a04a30c"), looks := false }, kinds := [], alts := [], laidByText := true, laidKinds := [.data, .data, .pinned, .pinned], laidTests := true, laidLooks := .later }
def LimitsMoreUptoCardSaid : Prop := Claim7.holds Tryz.pinned (.plain (OpenSpec.upto limitsMoreSpec)) limitsMoreUptoCard
end Rows
end Go.Proofs.YtmappmeojmdekaaGreatDoor
