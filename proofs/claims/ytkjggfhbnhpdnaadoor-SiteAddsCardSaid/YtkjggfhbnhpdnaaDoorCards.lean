/-
  DERIVED. GIVEN WITH THE SEED: THE CARDS: each row of YtkjggfhbnhpdnaaDoorRows.lean that lists a variable, with what it lists TIED to the program's text (the seventh form; the later family's looks); each row that meets fmt, with fmt's text TOLD by the authors' own Lean function (tested against real Go, not proved from fmt's source: count such statements apart). THE CARD IS WHAT COUNTS. Prove the row's statement (the work); the ties are given (YtkjggfhbnhpdnaaDoorTie.lean); close each card by the builder's one call (the guide's Derived/Test/ToyasCard.lean, 'card_holds'). Laid BY PROGRAM, IN A SANDBOX (cutbox-door.mjs). By AI agents, Wed Nov 11 2026. No macro, syntax, notation, axiom, sorry.
-/
import Derived.Test.YtkjggfhbnhpdnaaDoorRows
import GoSem.ClaimSeven
namespace Go.Proofs.YtkjggfhbnhpdnaaDoor
namespace Rows

/-- THE TIED CARD OF 'chargenetlaw11.SiteValid'. -/
def siteValidCard : Claim7 := { stood := { row := siteValidRow, standIns := [], harness := (true, "254da9dcb954ed2cfa05bc010bcdb514b8cf9a47fd2a15e3cae9bc91e8a9100b"), looks := false }, kinds := [], alts := [], laidByText := true, laidKinds := [.data, .pinned, .pinned], laidTests := true, laidLooks := .later }
def SiteValidCardSaid : Prop := Claim7.holds Tryd.pinned (.plain (OpenSpec.ofChange siteValidSpec)) siteValidCard

/-- THE TIED CARD OF 'chargenetlaw11.SitePaths'. -/
def sitePathsCard : Claim7 := { stood := { row := sitePathsRow, standIns := [], harness := (true, "254da9dcb954ed2cfa05bc010bcdb514b8cf9a47fd2a15e3cae9bc91e8a9100b"), looks := false }, kinds := [], alts := [], laidByText := true, laidKinds := [.data, .pinned, .pinned], laidTests := true, laidLooks := .later }
def SitePathsCardSaid : Prop := Claim7.holds Tryd.pinned (.plain (OpenSpec.ofChange sitePathsSpec)) sitePathsCard

/-- THE TIED CARD OF 'chargenetlaw11.SiteOver'. -/
def siteOverCard : Claim7 := { stood := { row := siteOverRow, standIns := [], harness := (true, "254da9dcb954ed2cfa05bc010bcdb514b8cf9a47fd2a15e3cae9bc91e8a9100b"), looks := false }, kinds := [], alts := [], laidByText := true, laidKinds := [.data, .pinned, .pinned], laidTests := true, laidLooks := .later }
def SiteOverCardSaid : Prop := Claim7.holds Tryd.pinned (.plain (OpenSpec.ofChange siteOverSpec)) siteOverCard

/-- THE TIED CARD OF 'chargenetlaw11.SiteFits'. -/
def siteFitsCard : Claim7 := { stood := { row := siteFitsRow, standIns := [], harness := (true, "254da9dcb954ed2cfa05bc010bcdb514b8cf9a47fd2a15e3cae9bc91e8a9100b"), looks := false }, kinds := [], alts := [], laidByText := true, laidKinds := [.data, .pinned, .pinned], laidTests := true, laidLooks := .later }
def SiteFitsCardSaid : Prop := Claim7.holds Tryd.pinned (.plain (OpenSpec.ofChange siteFitsSpec)) siteFitsCard

/-- THE TIED CARD OF 'chargenetlaw11.SiteAdds'. -/
def siteAddsCard : Claim7 := { stood := { row := siteAddsRow, standIns := [], harness := (true, "254da9dcb954ed2cfa05bc010bcdb514b8cf9a47fd2a15e3cae9bc91e8a9100b"), looks := false }, kinds := [], alts := [], laidByText := true, laidKinds := [.data, .pinned, .pinned], laidTests := true, laidLooks := .later }
def SiteAddsCardSaid : Prop := Claim7.holds Tryd.pinned (.plain (OpenSpec.ofChange siteAddsSpec)) siteAddsCard

/-- THE TIED CARD OF 'chargenetlaw11.SiteLess'. -/
def siteLessCard : Claim7 := { stood := { row := siteLessRow, standIns := [], harness := (true, "254da9dcb954ed2cfa05bc010bcdb514b8cf9a47fd2a15e3cae9bc91e8a9100b"), looks := false }, kinds := [], alts := [], laidByText := true, laidKinds := [.data, .pinned, .pinned], laidTests := true, laidLooks := .later }
def SiteLessCardSaid : Prop := Claim7.holds Tryd.pinned (.plain (OpenSpec.ofChange siteLessSpec)) siteLessCard

/-- THE TIED CARD OF 'chargenetlaw11.SiteTurns'. -/
def siteTurnsCard : Claim7 := { stood := { row := siteTurnsRow, standIns := [], harness := (true, "254da9dcb954ed2cfa05bc010bcdb514b8cf9a47fd2a15e3cae9bc91e8a9100b"), looks := false }, kinds := [], alts := [], laidByText := true, laidKinds := [.data, .pinned, .pinned], laidTests := true, laidLooks := .later }
def SiteTurnsCardSaid : Prop := Claim7.holds Tryd.pinned (.plain (OpenSpec.ofChange siteTurnsSpec)) siteTurnsCard

/-- THE SECOND FORM's CARD OF 'chargenetlaw11.SiteValid'. -/
def siteValidUptoCard : Claim7 := { stood := { row := siteValidUptoRow, standIns := [], harness := (true, "254da9dcb954ed2cfa05bc010bcdb514b8cf9a47fd2a15e3cae9bc91e8a9100b"), looks := false }, kinds := [], alts := [], laidByText := true, laidKinds := [.data, .pinned, .pinned], laidTests := true, laidLooks := .later }
def SiteValidUptoCardSaid : Prop := Claim7.holds Tryd.pinned (.plain (OpenSpec.upto siteValidSpec)) siteValidUptoCard

/-- THE SECOND FORM's CARD OF 'chargenetlaw11.SitePaths'. -/
def sitePathsUptoCard : Claim7 := { stood := { row := sitePathsUptoRow, standIns := [], harness := (true, "254da9dcb954ed2cfa05bc010bcdb514b8cf9a47fd2a15e3cae9bc91e8a9100b"), looks := false }, kinds := [], alts := [], laidByText := true, laidKinds := [.data, .pinned, .pinned], laidTests := true, laidLooks := .later }
def SitePathsUptoCardSaid : Prop := Claim7.holds Tryd.pinned (.plain (OpenSpec.upto sitePathsSpec)) sitePathsUptoCard

/-- THE SECOND FORM's CARD OF 'chargenetlaw11.SiteOver'. -/
def siteOverUptoCard : Claim7 := { stood := { row := siteOverUptoRow, standIns := [], harness := (true, "254da9dcb954ed2cfa05bc010bcdb514b8cf9a47fd2a15e3cae9bc91e8a9100b"), looks := false }, kinds := [], alts := [], laidByText := true, laidKinds := [.data, .pinned, .pinned], laidTests := true, laidLooks := .later }
def SiteOverUptoCardSaid : Prop := Claim7.holds Tryd.pinned (.plain (OpenSpec.upto siteOverSpec)) siteOverUptoCard

/-- THE SECOND FORM's CARD OF 'chargenetlaw11.SiteFits'. -/
def siteFitsUptoCard : Claim7 := { stood := { row := siteFitsUptoRow, standIns := [], harness := (true, "254da9dcb954ed2cfa05bc010bcdb514b8cf9a47fd2a15e3cae9bc91e8a9100b"), looks := false }, kinds := [], alts := [], laidByText := true, laidKinds := [.data, .pinned, .pinned], laidTests := true, laidLooks := .later }
def SiteFitsUptoCardSaid : Prop := Claim7.holds Tryd.pinned (.plain (OpenSpec.upto siteFitsSpec)) siteFitsUptoCard

/-- THE SECOND FORM's CARD OF 'chargenetlaw11.SiteAdds'. -/
def siteAddsUptoCard : Claim7 := { stood := { row := siteAddsUptoRow, standIns := [], harness := (true, "254da9dcb954ed2cfa05bc010bcdb514b8cf9a47fd2a15e3cae9bc91e8a9100b"), looks := false }, kinds := [], alts := [], laidByText := true, laidKinds := [.data, .pinned, .pinned], laidTests := true, laidLooks := .later }
def SiteAddsUptoCardSaid : Prop := Claim7.holds Tryd.pinned (.plain (OpenSpec.upto siteAddsSpec)) siteAddsUptoCard

/-- THE SECOND FORM's CARD OF 'chargenetlaw11.SiteLess'. -/
def siteLessUptoCard : Claim7 := { stood := { row := siteLessUptoRow, standIns := [], harness := (true, "254da9dcb954ed2cfa05bc010bcdb514b8cf9a47fd2a15e3cae9bc91e8a9100b"), looks := false }, kinds := [], alts := [], laidByText := true, laidKinds := [.data, .pinned, .pinned], laidTests := true, laidLooks := .later }
def SiteLessUptoCardSaid : Prop := Claim7.holds Tryd.pinned (.plain (OpenSpec.upto siteLessSpec)) siteLessUptoCard

/-- THE SECOND FORM's CARD OF 'chargenetlaw11.SiteTurns'. -/
def siteTurnsUptoCard : Claim7 := { stood := { row := siteTurnsUptoRow, standIns := [], harness := (true, "254da9dcb954ed2cfa05bc010bcdb514b8cf9a47fd2a15e3cae9bc91e8a9100b"), looks := false }, kinds := [], alts := [], laidByText := true, laidKinds := [.data, .pinned, .pinned], laidTests := true, laidLooks := .later }
def SiteTurnsUptoCardSaid : Prop := Claim7.holds Tryd.pinned (.plain (OpenSpec.upto siteTurnsSpec)) siteTurnsUptoCard
end Rows
end Go.Proofs.YtkjggfhbnhpdnaaDoor
