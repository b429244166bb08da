/-
  NARROWER THAN 'FOR EVERY INPUT', by the rows' own cells (each row's printed sentence says how): SiteValid: laid · SitePaths: laid · SiteOver: laid · SiteFits: laid · SiteAdds: laid · SiteLess: laid · SiteTurns: laid.
  DERIVED. THE GIVEN ROWS OF THIS SEAT. 7 by the template 'for every input the law returns true; each argument reads behind the call as it read before'; 0 by the template 'total and deterministic' (their statements: YtkjggfhbnhpdnaaDoorTotals.lean).
  GIVEN WITH THE SEED: the statements are not yours to turn. If you find one false, say at which input.
  Laid BY PROGRAM, IN A SANDBOX (cutbox-rows.mjs): the forced cells as the released guide's own fill.sh prints them over the translation 4e4cec9af252adf7… (all of the seat's roots in one cut). By AI agents, Wed Nov 11 2026. No macro, syntax, notation, axiom, sorry.
-/
import Derived.Test.YtkjggfhbnhpdnaaDoorChecked
import GoSem.PinnedTables
import GoSem.Claim
import GoSem.ClaimJoined
import GoSem.ClaimMapViews
import Derived.JoinedTies
import Derived.KernelRfl
namespace Go.Proofs.YtkjggfhbnhpdnaaDoor
/- THE CELL 'sum', in the pinned program and in every row, IS THE sha256 OF THE DUMP (.gsa) THAT YtkjggfhbnhpdnaaDoorProg.lean LOADS. Nothing in Lean hashes anything: it is a label: what it is worth is what the hold of that sum in a sandbox is worth. -/
noncomputable def Tryd.pinned : Pinned := { name := "ytkjggfhbnhpdnaadoor", sum := "4e4cec9af252adf73fe2bd9d90da25162fa87158154a9b870084818e56a58256", checked := Tryd.checked }
namespace Rows
def none {H : Type} : Left H := { results := [], args := [] }

/- WHAT THE LISTED PACKAGE-LEVEL VARIABLES READ AS WHEN THE CALL BEGINS. Each datum BY PROGRAM (the guide's laid-datum.mjs) off the statement by which the dump's own 'gosem.cut.vars' lays the variable. In a bare row this is a premise. The card (YtkjggfhbnhpdnaaDoorCards.lean) ties it to the program's text. -/
def laid_unicode_utf8_acceptRanges {H : Type} : DataW H := .agg [.agg [.lit (.int .u8 128), .lit (.int .u8 191)], .agg [.lit (.int .u8 160), .lit (.int .u8 191)], .agg [.lit (.int .u8 128), .lit (.int .u8 159)], .agg [.lit (.int .u8 144), .lit (.int .u8 191)], .agg [.lit (.int .u8 128), .lit (.int .u8 143)], .agg [.lit (.int .u8 0), .lit (.int .u8 0)], .agg [.lit (.int .u8 0), .lit (.int .u8 0)], .agg [.lit (.int .u8 0), .lit (.int .u8 0)], .agg [.lit (.int .u8 0), .lit (.int .u8 0)], .agg [.lit (.int .u8 0), .lit (.int .u8 0)], .agg [.lit (.int .u8 0), .lit (.int .u8 0)], .agg [.lit (.int .u8 0), .lit (.int .u8 0)], .agg [.lit (.int .u8 0), .lit (.int .u8 0)], .agg [.lit (.int .u8 0), .lit (.int .u8 0)], .agg [.lit (.int .u8 0), .lit (.int .u8 0)], .agg [.lit (.int .u8 0), .lit (.int .u8 0)]]
/-- One of Go's own tables, pinned by name: the form's constant. -/
def laid_unicode_CaseRanges : DataW Unit := Go.Pinned.caseRanges
/-- One of Go's own tables, pinned by name: the form's constant. -/
def laid_unicode_utf8_first : DataW Unit := Go.Pinned.utf8First

/-- 'chargenetlaw11.SiteValid': WHATEVER THE INPUT: true; the input reads as it did. -/
def siteValidSpec : ChangeSpec := { name := "siteValid", fn := fun _ => fun
  | [d] => { results := [.lit (.bool true)], args := [d] }
  | _ => none }
def siteValidRow : OpenClaim := { program := "ytkjggfhbnhpdnaadoor", sum := "4e4cec9af252adf73fe2bd9d90da25162fa87158154a9b870084818e56a58256", func := "chargenet/chargenetlaw11.SiteValid", spec := "siteValid", inPlace := ["internal/abi.NoEscape", "internal/bytealg.MakeNoZero"], unfollowed := true, recurses := true, named := ["unicode/utf8.first", "unicode/utf8.acceptRanges", "unicode.CaseRanges"], apart := false, laid := [("unicode/utf8.acceptRanges", laid_unicode_utf8_acceptRanges), ("unicode.CaseRanges", laid_unicode_CaseRanges), ("unicode/utf8.first", laid_unicode_utf8_first)] }
def SiteValidSaid : Prop := siteValidRow.holds Tryd.pinned (OpenSpec.ofChange siteValidSpec)

/-- ITS FALSE NEIGHBOUR: 'it returns false'. Refute it at one input. -/
def siteValidWrong : ChangeSpec := { name := "siteValid", fn := fun _ => fun
  | [d] => { results := [.lit (.bool false)], args := [d] }
  | _ => none }
def SiteValidWrongFalsely : Prop := siteValidRow.holds Tryd.pinned (OpenSpec.ofChange siteValidWrong)

/-- 'chargenetlaw11.SitePaths': WHATEVER THE INPUT: true; the input reads as it did. -/
def sitePathsSpec : ChangeSpec := { name := "sitePaths", fn := fun _ => fun
  | [d1, d2] => { results := [.lit (.bool true)], args := [d1, d2] }
  | _ => none }
def sitePathsRow : OpenClaim := { program := "ytkjggfhbnhpdnaadoor", sum := "4e4cec9af252adf73fe2bd9d90da25162fa87158154a9b870084818e56a58256", func := "chargenet/chargenetlaw11.SitePaths", spec := "sitePaths", inPlace := ["internal/abi.NoEscape", "internal/bytealg.MakeNoZero"], unfollowed := true, recurses := true, named := ["unicode/utf8.first", "unicode/utf8.acceptRanges", "unicode.CaseRanges"], apart := false, laid := [("unicode/utf8.acceptRanges", laid_unicode_utf8_acceptRanges), ("unicode.CaseRanges", laid_unicode_CaseRanges), ("unicode/utf8.first", laid_unicode_utf8_first)] }
def SitePathsSaid : Prop := sitePathsRow.holds Tryd.pinned (OpenSpec.ofChange sitePathsSpec)

/-- ITS FALSE NEIGHBOUR: 'it returns false'. Refute it at one input. -/
def sitePathsWrong : ChangeSpec := { name := "sitePaths", fn := fun _ => fun
  | [d1, d2] => { results := [.lit (.bool false)], args := [d1, d2] }
  | _ => none }
def SitePathsWrongFalsely : Prop := sitePathsRow.holds Tryd.pinned (OpenSpec.ofChange sitePathsWrong)

/-- 'chargenetlaw11.SiteOver': WHATEVER THE INPUT: true; the input reads as it did. -/
def siteOverSpec : ChangeSpec := { name := "siteOver", fn := fun _ => fun
  | [d1, d2] => { results := [.lit (.bool true)], args := [d1, d2] }
  | _ => none }
def siteOverRow : OpenClaim := { program := "ytkjggfhbnhpdnaadoor", sum := "4e4cec9af252adf73fe2bd9d90da25162fa87158154a9b870084818e56a58256", func := "chargenet/chargenetlaw11.SiteOver", spec := "siteOver", inPlace := ["internal/abi.NoEscape", "internal/bytealg.MakeNoZero"], unfollowed := true, recurses := true, named := ["unicode/utf8.first", "unicode/utf8.acceptRanges", "unicode.CaseRanges"], apart := false, laid := [("unicode/utf8.acceptRanges", laid_unicode_utf8_acceptRanges), ("unicode.CaseRanges", laid_unicode_CaseRanges), ("unicode/utf8.first", laid_unicode_utf8_first)] }
def SiteOverSaid : Prop := siteOverRow.holds Tryd.pinned (OpenSpec.ofChange siteOverSpec)

/-- ITS FALSE NEIGHBOUR: 'it returns false'. Refute it at one input. -/
def siteOverWrong : ChangeSpec := { name := "siteOver", fn := fun _ => fun
  | [d1, d2] => { results := [.lit (.bool false)], args := [d1, d2] }
  | _ => none }
def SiteOverWrongFalsely : Prop := siteOverRow.holds Tryd.pinned (OpenSpec.ofChange siteOverWrong)

/-- 'chargenetlaw11.SiteFits': WHATEVER THE INPUT: true; the input reads as it did. -/
def siteFitsSpec : ChangeSpec := { name := "siteFits", fn := fun _ => fun
  | [d] => { results := [.lit (.bool true)], args := [d] }
  | _ => none }
def siteFitsRow : OpenClaim := { program := "ytkjggfhbnhpdnaadoor", sum := "4e4cec9af252adf73fe2bd9d90da25162fa87158154a9b870084818e56a58256", func := "chargenet/chargenetlaw11.SiteFits", spec := "siteFits", inPlace := ["internal/abi.NoEscape", "internal/bytealg.MakeNoZero"], unfollowed := true, recurses := true, named := ["unicode/utf8.first", "unicode/utf8.acceptRanges", "unicode.CaseRanges"], apart := false, laid := [("unicode/utf8.acceptRanges", laid_unicode_utf8_acceptRanges), ("unicode.CaseRanges", laid_unicode_CaseRanges), ("unicode/utf8.first", laid_unicode_utf8_first)] }
def SiteFitsSaid : Prop := siteFitsRow.holds Tryd.pinned (OpenSpec.ofChange siteFitsSpec)

/-- ITS FALSE NEIGHBOUR: 'it returns false'. Refute it at one input. -/
def siteFitsWrong : ChangeSpec := { name := "siteFits", fn := fun _ => fun
  | [d] => { results := [.lit (.bool false)], args := [d] }
  | _ => none }
def SiteFitsWrongFalsely : Prop := siteFitsRow.holds Tryd.pinned (OpenSpec.ofChange siteFitsWrong)

/-- 'chargenetlaw11.SiteAdds': WHATEVER THE INPUT: true; the input reads as it did. -/
def siteAddsSpec : ChangeSpec := { name := "siteAdds", fn := fun _ => fun
  | [d1, d2] => { results := [.lit (.bool true)], args := [d1, d2] }
  | _ => none }
def siteAddsRow : OpenClaim := { program := "ytkjggfhbnhpdnaadoor", sum := "4e4cec9af252adf73fe2bd9d90da25162fa87158154a9b870084818e56a58256", func := "chargenet/chargenetlaw11.SiteAdds", spec := "siteAdds", inPlace := ["internal/abi.NoEscape", "internal/bytealg.MakeNoZero"], unfollowed := true, recurses := true, named := ["unicode/utf8.first", "unicode/utf8.acceptRanges", "unicode.CaseRanges"], apart := false, laid := [("unicode/utf8.acceptRanges", laid_unicode_utf8_acceptRanges), ("unicode.CaseRanges", laid_unicode_CaseRanges), ("unicode/utf8.first", laid_unicode_utf8_first)] }
def SiteAddsSaid : Prop := siteAddsRow.holds Tryd.pinned (OpenSpec.ofChange siteAddsSpec)

/-- ITS FALSE NEIGHBOUR: 'it returns false'. Refute it at one input. -/
def siteAddsWrong : ChangeSpec := { name := "siteAdds", fn := fun _ => fun
  | [d1, d2] => { results := [.lit (.bool false)], args := [d1, d2] }
  | _ => none }
def SiteAddsWrongFalsely : Prop := siteAddsRow.holds Tryd.pinned (OpenSpec.ofChange siteAddsWrong)

/-- 'chargenetlaw11.SiteLess': WHATEVER THE INPUT: true; the input reads as it did. -/
def siteLessSpec : ChangeSpec := { name := "siteLess", fn := fun _ => fun
  | [d1, d2, d3] => { results := [.lit (.bool true)], args := [d1, d2, d3] }
  | _ => none }
def siteLessRow : OpenClaim := { program := "ytkjggfhbnhpdnaadoor", sum := "4e4cec9af252adf73fe2bd9d90da25162fa87158154a9b870084818e56a58256", func := "chargenet/chargenetlaw11.SiteLess", spec := "siteLess", inPlace := ["internal/abi.NoEscape", "internal/bytealg.MakeNoZero"], unfollowed := true, recurses := true, named := ["unicode/utf8.first", "unicode/utf8.acceptRanges", "unicode.CaseRanges"], apart := false, laid := [("unicode/utf8.acceptRanges", laid_unicode_utf8_acceptRanges), ("unicode.CaseRanges", laid_unicode_CaseRanges), ("unicode/utf8.first", laid_unicode_utf8_first)] }
def SiteLessSaid : Prop := siteLessRow.holds Tryd.pinned (OpenSpec.ofChange siteLessSpec)

/-- ITS FALSE NEIGHBOUR: 'it returns false'. Refute it at one input. -/
def siteLessWrong : ChangeSpec := { name := "siteLess", fn := fun _ => fun
  | [d1, d2, d3] => { results := [.lit (.bool false)], args := [d1, d2, d3] }
  | _ => none }
def SiteLessWrongFalsely : Prop := siteLessRow.holds Tryd.pinned (OpenSpec.ofChange siteLessWrong)

/-- 'chargenetlaw11.SiteTurns': WHATEVER THE INPUT: true; the input reads as it did. -/
def siteTurnsSpec : ChangeSpec := { name := "siteTurns", fn := fun _ => fun
  | [d1, d2] => { results := [.lit (.bool true)], args := [d1, d2] }
  | _ => none }
def siteTurnsRow : OpenClaim := { program := "ytkjggfhbnhpdnaadoor", sum := "4e4cec9af252adf73fe2bd9d90da25162fa87158154a9b870084818e56a58256", func := "chargenet/chargenetlaw11.SiteTurns", spec := "siteTurns", inPlace := ["internal/abi.NoEscape", "internal/bytealg.MakeNoZero"], unfollowed := true, recurses := true, named := ["unicode/utf8.first", "unicode/utf8.acceptRanges", "unicode.CaseRanges"], apart := false, laid := [("unicode/utf8.acceptRanges", laid_unicode_utf8_acceptRanges), ("unicode.CaseRanges", laid_unicode_CaseRanges), ("unicode/utf8.first", laid_unicode_utf8_first)] }
def SiteTurnsSaid : Prop := siteTurnsRow.holds Tryd.pinned (OpenSpec.ofChange siteTurnsSpec)

/-- ITS FALSE NEIGHBOUR: 'it returns false'. Refute it at one input. -/
def siteTurnsWrong : ChangeSpec := { name := "siteTurns", fn := fun _ => fun
  | [d1, d2] => { results := [.lit (.bool false)], args := [d1, d2] }
  | _ => none }
def SiteTurnsWrongFalsely : Prop := siteTurnsRow.holds Tryd.pinned (OpenSpec.ofChange siteTurnsWrong)

/- THE SECOND FORM. 'bulk': how many values and letters a reading holds, each counted each time it is reached (what is shared counts as often as it is met; a slice's spare places count too). A statement '..UptoSaid' is the law's where the arguments, and the package variables that the reading takes, are together of bulk at most 1048576: NARROWER than '..Said'. Prove '..Said' where nothing that the law and all that it calls make is longer than what came in: it says more and counts as full. Else prove '..UptoSaid'. A law counts once. -/
mutual
def uptoBulk {H : Type} : DataW H → Nat
  | .lit (.string bytes) => bytes.length + 1
  | .lit _ => 1
  | .nil => 1
  | .ptr d => uptoBulk d + 1
  | .slice elems spare => uptoBulkAll elems + uptoBulkAll spare + 1
  | .agg parts => uptoBulkAll parts + 1
  | .iface _ d => uptoBulk d + 1
  | .map entries => uptoBulkEntries entries + 1
  | .held _ => 1
def uptoBulkAll {H : Type} : List (DataW H) → Nat
  | [] => 0
  | d :: r => uptoBulk d + uptoBulkAll r
def uptoBulkEntries {H : Type} : List (Lit × DataW H) → Nat
  | [] => 0
  | x :: r => uptoBulkEntry x + uptoBulkEntries r
def uptoBulkEntry {H : Type} : Lit × DataW H → Nat
  | (.string bytes, d) => bytes.length + uptoBulk d + 1
  | (_, d) => uptoBulk d + 1
 end
def uptoSmall : (H : Type) → List (DataW H) → Bool := fun _ ds => decide (uptoBulkAll ds ≤ 1048576)
def OpenSpec.upto (s : _root_.Go.ChangeSpec) : _root_.Go.OpenSpec := { _root_.Go.OpenSpec.ofChange s with cond := some uptoSmall }

/-- 'chargenetlaw11.SiteValid', WHERE WHAT IT READS IS OF BULK AT MOST 1048576: true; the input reads as it did. -/
def siteValidUptoRow : OpenClaim := { program := "ytkjggfhbnhpdnaadoor", sum := "4e4cec9af252adf73fe2bd9d90da25162fa87158154a9b870084818e56a58256", func := "chargenet/chargenetlaw11.SiteValid", spec := "siteValid", inPlace := ["internal/abi.NoEscape", "internal/bytealg.MakeNoZero"], unfollowed := true, recurses := true, named := ["unicode/utf8.first", "unicode/utf8.acceptRanges", "unicode.CaseRanges"], apart := false, laid := [("unicode/utf8.acceptRanges", laid_unicode_utf8_acceptRanges), ("unicode.CaseRanges", laid_unicode_CaseRanges), ("unicode/utf8.first", laid_unicode_utf8_first)], narrowed := true }
def SiteValidUptoSaid : Prop := siteValidUptoRow.holds Tryd.pinned (OpenSpec.upto siteValidSpec)

/-- 'chargenetlaw11.SitePaths', WHERE WHAT IT READS IS OF BULK AT MOST 1048576: true; the input reads as it did. -/
def sitePathsUptoRow : OpenClaim := { program := "ytkjggfhbnhpdnaadoor", sum := "4e4cec9af252adf73fe2bd9d90da25162fa87158154a9b870084818e56a58256", func := "chargenet/chargenetlaw11.SitePaths", spec := "sitePaths", inPlace := ["internal/abi.NoEscape", "internal/bytealg.MakeNoZero"], unfollowed := true, recurses := true, named := ["unicode/utf8.first", "unicode/utf8.acceptRanges", "unicode.CaseRanges"], apart := false, laid := [("unicode/utf8.acceptRanges", laid_unicode_utf8_acceptRanges), ("unicode.CaseRanges", laid_unicode_CaseRanges), ("unicode/utf8.first", laid_unicode_utf8_first)], narrowed := true }
def SitePathsUptoSaid : Prop := sitePathsUptoRow.holds Tryd.pinned (OpenSpec.upto sitePathsSpec)

/-- 'chargenetlaw11.SiteOver', WHERE WHAT IT READS IS OF BULK AT MOST 1048576: true; the input reads as it did. -/
def siteOverUptoRow : OpenClaim := { program := "ytkjggfhbnhpdnaadoor", sum := "4e4cec9af252adf73fe2bd9d90da25162fa87158154a9b870084818e56a58256", func := "chargenet/chargenetlaw11.SiteOver", spec := "siteOver", inPlace := ["internal/abi.NoEscape", "internal/bytealg.MakeNoZero"], unfollowed := true, recurses := true, named := ["unicode/utf8.first", "unicode/utf8.acceptRanges", "unicode.CaseRanges"], apart := false, laid := [("unicode/utf8.acceptRanges", laid_unicode_utf8_acceptRanges), ("unicode.CaseRanges", laid_unicode_CaseRanges), ("unicode/utf8.first", laid_unicode_utf8_first)], narrowed := true }
def SiteOverUptoSaid : Prop := siteOverUptoRow.holds Tryd.pinned (OpenSpec.upto siteOverSpec)

/-- 'chargenetlaw11.SiteFits', WHERE WHAT IT READS IS OF BULK AT MOST 1048576: true; the input reads as it did. -/
def siteFitsUptoRow : OpenClaim := { program := "ytkjggfhbnhpdnaadoor", sum := "4e4cec9af252adf73fe2bd9d90da25162fa87158154a9b870084818e56a58256", func := "chargenet/chargenetlaw11.SiteFits", spec := "siteFits", inPlace := ["internal/abi.NoEscape", "internal/bytealg.MakeNoZero"], unfollowed := true, recurses := true, named := ["unicode/utf8.first", "unicode/utf8.acceptRanges", "unicode.CaseRanges"], apart := false, laid := [("unicode/utf8.acceptRanges", laid_unicode_utf8_acceptRanges), ("unicode.CaseRanges", laid_unicode_CaseRanges), ("unicode/utf8.first", laid_unicode_utf8_first)], narrowed := true }
def SiteFitsUptoSaid : Prop := siteFitsUptoRow.holds Tryd.pinned (OpenSpec.upto siteFitsSpec)

/-- 'chargenetlaw11.SiteAdds', WHERE WHAT IT READS IS OF BULK AT MOST 1048576: true; the input reads as it did. -/
def siteAddsUptoRow : OpenClaim := { program := "ytkjggfhbnhpdnaadoor", sum := "4e4cec9af252adf73fe2bd9d90da25162fa87158154a9b870084818e56a58256", func := "chargenet/chargenetlaw11.SiteAdds", spec := "siteAdds", inPlace := ["internal/abi.NoEscape", "internal/bytealg.MakeNoZero"], unfollowed := true, recurses := true, named := ["unicode/utf8.first", "unicode/utf8.acceptRanges", "unicode.CaseRanges"], apart := false, laid := [("unicode/utf8.acceptRanges", laid_unicode_utf8_acceptRanges), ("unicode.CaseRanges", laid_unicode_CaseRanges), ("unicode/utf8.first", laid_unicode_utf8_first)], narrowed := true }
def SiteAddsUptoSaid : Prop := siteAddsUptoRow.holds Tryd.pinned (OpenSpec.upto siteAddsSpec)

/-- 'chargenetlaw11.SiteLess', WHERE WHAT IT READS IS OF BULK AT MOST 1048576: true; the input reads as it did. -/
def siteLessUptoRow : OpenClaim := { program := "ytkjggfhbnhpdnaadoor", sum := "4e4cec9af252adf73fe2bd9d90da25162fa87158154a9b870084818e56a58256", func := "chargenet/chargenetlaw11.SiteLess", spec := "siteLess", inPlace := ["internal/abi.NoEscape", "internal/bytealg.MakeNoZero"], unfollowed := true, recurses := true, named := ["unicode/utf8.first", "unicode/utf8.acceptRanges", "unicode.CaseRanges"], apart := false, laid := [("unicode/utf8.acceptRanges", laid_unicode_utf8_acceptRanges), ("unicode.CaseRanges", laid_unicode_CaseRanges), ("unicode/utf8.first", laid_unicode_utf8_first)], narrowed := true }
def SiteLessUptoSaid : Prop := siteLessUptoRow.holds Tryd.pinned (OpenSpec.upto siteLessSpec)

/-- 'chargenetlaw11.SiteTurns', WHERE WHAT IT READS IS OF BULK AT MOST 1048576: true; the input reads as it did. -/
def siteTurnsUptoRow : OpenClaim := { program := "ytkjggfhbnhpdnaadoor", sum := "4e4cec9af252adf73fe2bd9d90da25162fa87158154a9b870084818e56a58256", func := "chargenet/chargenetlaw11.SiteTurns", spec := "siteTurns", inPlace := ["internal/abi.NoEscape", "internal/bytealg.MakeNoZero"], unfollowed := true, recurses := true, named := ["unicode/utf8.first", "unicode/utf8.acceptRanges", "unicode.CaseRanges"], apart := false, laid := [("unicode/utf8.acceptRanges", laid_unicode_utf8_acceptRanges), ("unicode.CaseRanges", laid_unicode_CaseRanges), ("unicode/utf8.first", laid_unicode_utf8_first)], narrowed := true }
def SiteTurnsUptoSaid : Prop := siteTurnsUptoRow.holds Tryd.pinned (OpenSpec.upto siteTurnsSpec)

end Rows
end Go.Proofs.YtkjggfhbnhpdnaaDoor
