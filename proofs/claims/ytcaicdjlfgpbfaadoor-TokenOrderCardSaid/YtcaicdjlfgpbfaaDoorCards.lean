/-
  DERIVED. GIVEN WITH THE SEED: THE CARDS: each row of YtcaicdjlfgpbfaaDoorRows.lean that lists a variable, with what it lists TIED to the program's text (the seventh form; the later family's looks); each row that meets fmt, with fmt's text TOLD by the authors' own Lean function (tested against real Go, not proved from fmt's source: count such statements apart). THE CARD IS WHAT COUNTS. Prove the row's statement (the work); the ties are given (YtcaicdjlfgpbfaaDoorTie.lean); close each card by the builder's one call (the guide's Derived/Test/ToyasCard.lean, 'card_holds'). Laid BY PROGRAM, IN A SANDBOX (cutbox-door.mjs). By AI agents, Wed Nov 11 2026. No macro, syntax, notation, axiom, sorry.
-/
import Derived.Test.YtcaicdjlfgpbfaaDoorRows
import GoSem.ClaimSeven
namespace Go.Proofs.YtcaicdjlfgpbfaaDoor
namespace Rows

/-- THE TIED CARD OF 'chargenetlaw21.TokenFinds'. -/
def tokenFindsCard : Claim7 := { stood := { row := tokenFindsRow, standIns := [], harness := (true, "90431505b7279f2b6b222946d8c4ac1119550d6ccb5e9f66ce0fdb84b69e3e62"), looks := false }, kinds := [], alts := [], laidByText := true, laidKinds := [.data, .pinned, .pinned], laidTests := true, laidLooks := .later }
def TokenFindsCardSaid : Prop := Claim7.holds Tryd.pinned (.plain (OpenSpec.ofChange tokenFindsSpec)) tokenFindsCard

/-- THE TIED CARD OF 'chargenetlaw21.TokenOrder'. -/
def tokenOrderCard : Claim7 := { stood := { row := tokenOrderRow, standIns := [], harness := (true, "90431505b7279f2b6b222946d8c4ac1119550d6ccb5e9f66ce0fdb84b69e3e62"), looks := false }, kinds := [], alts := [], laidByText := true, laidKinds := [.data, .data, .data, .pinned, .pinned], laidTests := true, laidLooks := .later }
def TokenOrderCardSaid : Prop := Claim7.holds Tryd.pinned (.plain (OpenSpec.ofChange tokenOrderSpec)) tokenOrderCard

/-- THE SECOND FORM's CARD OF 'chargenetlaw21.TokenFinds'. -/
def tokenFindsUptoCard : Claim7 := { stood := { row := tokenFindsUptoRow, standIns := [], harness := (true, "90431505b7279f2b6b222946d8c4ac1119550d6ccb5e9f66ce0fdb84b69e3e62"), looks := false }, kinds := [], alts := [], laidByText := true, laidKinds := [.data, .pinned, .pinned], laidTests := true, laidLooks := .later }
def TokenFindsUptoCardSaid : Prop := Claim7.holds Tryd.pinned (.plain (OpenSpec.upto tokenFindsSpec)) tokenFindsUptoCard

/-- THE SECOND FORM's CARD OF 'chargenetlaw21.TokenOrder'. -/
def tokenOrderUptoCard : Claim7 := { stood := { row := tokenOrderUptoRow, standIns := [], harness := (true, "90431505b7279f2b6b222946d8c4ac1119550d6ccb5e9f66ce0fdb84b69e3e62"), looks := false }, kinds := [], alts := [], laidByText := true, laidKinds := [.data, .data, .data, .pinned, .pinned], laidTests := true, laidLooks := .later }
def TokenOrderUptoCardSaid : Prop := Claim7.holds Tryd.pinned (.plain (OpenSpec.upto tokenOrderSpec)) tokenOrderUptoCard
end Rows
end Go.Proofs.YtcaicdjlfgpbfaaDoor
