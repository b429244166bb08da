/-
  NARROWER THAN 'FOR EVERY INPUT', by the rows' own cells (each row's printed sentence says how): LimitsValid: laid · LimitsAt: laid · LimitsNext: laid · LimitsPaths: laid · LimitsConstant: laid · LimitsValues: laid · LimitsMore: laid.
  DERIVED. THE GIVEN ROWS OF THIS SEAT. 7 by the template 'for every input the law returns true; each argument reads behind the call as it read before'; 0 by the template 'total and deterministic' (their statements: YtmappmeojmdekaaGreatDoorTotals.lean).
  GIVEN WITH THE SEED: the statements are not yours to turn. If you find one false, say at which input.
  Laid BY PROGRAM, IN A SANDBOX (cutbox-rows.mjs): the forced cells as the released guide's own fill.sh prints them over the translation c78996ecc21f732a… (all of the seat's roots in one cut). By AI agents, Wed Nov 11 2026. No macro, syntax, notation, axiom, sorry.
-/
import Derived.Test.YtmappmeojmdekaaGreatDoorChecked
import GoSem.PinnedTables
import GoSem.Claim
import GoSem.ClaimJoined
import GoSem.ClaimMapViews
import Derived.JoinedTies
import Derived.KernelRfl
namespace Go.Proofs.YtmappmeojmdekaaGreatDoor
/- THE CELL 'sum', in the pinned program and in every row, IS THE sha256 OF THE DUMP (.gsa) THAT YtmappmeojmdekaaGreatDoorProg.lean LOADS. Nothing in Lean hashes anything: it is a label: what it is worth is what the hold of that sum in a sandbox is worth. -/
noncomputable def Tryz.pinned : Pinned := { name := "ytmappmeojmdekaagreatdoor", sum := "c78996ecc21f732aded0a7bc3479959b19f7189a6fad3fc7255e112b608e52f1", checked := Tryz.checked }
namespace Rows
def none {H : Type} : Left H := { results := [], args := [] }

/- WHAT THE LISTED PACKAGE-LEVEL VARIABLES READ AS WHEN THE CALL BEGINS. Each datum BY PROGRAM (the guide's laid-datum.mjs) off the statement by which the dump's own 'gosem.cut.vars' lays the variable. In a bare row this is a premise. The card (YtmappmeojmdekaaGreatDoorCards.lean) ties it to the program's text. -/
def laid_chargenet_calendar_lengths {H : Type} : DataW H := .agg [.lit (.int .i64 31), .lit (.int .i64 28), .lit (.int .i64 31), .lit (.int .i64 30), .lit (.int .i64 31), .lit (.int .i64 30), .lit (.int .i64 31), .lit (.int .i64 31), .lit (.int .i64 30), .lit (.int .i64 31), .lit (.int .i64 30), .lit (.int .i64 31)]
def laid_unicode_utf8_acceptRanges {H : Type} : DataW H := .agg [.agg [.lit (.int .u8 128), .lit (.int .u8 191)], .agg [.lit (.int .u8 160), .lit (.int .u8 191)], .agg [.lit (.int .u8 128), .lit (.int .u8 159)], .agg [.lit (.int .u8 144), .lit (.int .u8 191)], .agg [.lit (.int .u8 128), .lit (.int .u8 143)], .agg [.lit (.int .u8 0), .lit (.int .u8 0)], .agg [.lit (.int .u8 0), .lit (.int .u8 0)], .agg [.lit (.int .u8 0), .lit (.int .u8 0)], .agg [.lit (.int .u8 0), .lit (.int .u8 0)], .agg [.lit (.int .u8 0), .lit (.int .u8 0)], .agg [.lit (.int .u8 0), .lit (.int .u8 0)], .agg [.lit (.int .u8 0), .lit (.int .u8 0)], .agg [.lit (.int .u8 0), .lit (.int .u8 0)], .agg [.lit (.int .u8 0), .lit (.int .u8 0)], .agg [.lit (.int .u8 0), .lit (.int .u8 0)], .agg [.lit (.int .u8 0), .lit (.int .u8 0)]]
/-- One of Go's own tables, pinned by name: the form's constant. -/
def laid_unicode_CaseRanges : DataW Unit := Go.Pinned.caseRanges
/-- One of Go's own tables, pinned by name: the form's constant. -/
def laid_unicode_utf8_first : DataW Unit := Go.Pinned.utf8First

/-- 'chargenetlaw14.LimitsValid': WHATEVER THE INPUT: true; the input reads as it did. -/
def limitsValidSpec : ChangeSpec := { name := "limitsValid", fn := fun _ => fun
  | [d] => { results := [.lit (.bool true)], args := [d] }
  | _ => none }
def limitsValidRow : OpenClaim := { program := "ytmappmeojmdekaagreatdoor", sum := "c78996ecc21f732aded0a7bc3479959b19f7189a6fad3fc7255e112b608e52f1", func := "chargenet/chargenetlaw14.LimitsValid", spec := "limitsValid", inPlace := ["internal/abi.NoEscape", "internal/bytealg.MakeNoZero"], unfollowed := true, recurses := true, named := ["unicode/utf8.first", "unicode/utf8.acceptRanges", "unicode.CaseRanges", "chargenet/calendar.lengths"], apart := false, laid := [("chargenet/calendar.lengths", laid_chargenet_calendar_lengths), ("unicode/utf8.acceptRanges", laid_unicode_utf8_acceptRanges), ("unicode.CaseRanges", laid_unicode_CaseRanges), ("unicode/utf8.first", laid_unicode_utf8_first)] }
def LimitsValidSaid : Prop := limitsValidRow.holds Tryz.pinned (OpenSpec.ofChange limitsValidSpec)

/-- ITS FALSE NEIGHBOUR: 'it returns false'. Refute it at one input. -/
def limitsValidWrong : ChangeSpec := { name := "limitsValid", fn := fun _ => fun
  | [d] => { results := [.lit (.bool false)], args := [d] }
  | _ => none }
def LimitsValidWrongFalsely : Prop := limitsValidRow.holds Tryz.pinned (OpenSpec.ofChange limitsValidWrong)

/-- 'chargenetlaw14.LimitsAt': WHATEVER THE INPUT: true; the input reads as it did. -/
def limitsAtSpec : ChangeSpec := { name := "limitsAt", fn := fun _ => fun
  | [d1, d2] => { results := [.lit (.bool true)], args := [d1, d2] }
  | _ => none }
def limitsAtRow : OpenClaim := { program := "ytmappmeojmdekaagreatdoor", sum := "c78996ecc21f732aded0a7bc3479959b19f7189a6fad3fc7255e112b608e52f1", func := "chargenet/chargenetlaw14.LimitsAt", spec := "limitsAt", inPlace := ["internal/abi.NoEscape", "internal/bytealg.MakeNoZero"], unfollowed := true, recurses := true, named := ["unicode/utf8.first", "unicode/utf8.acceptRanges", "unicode.CaseRanges", "chargenet/calendar.lengths"], apart := false, laid := [("chargenet/calendar.lengths", laid_chargenet_calendar_lengths), ("unicode/utf8.acceptRanges", laid_unicode_utf8_acceptRanges), ("unicode.CaseRanges", laid_unicode_CaseRanges), ("unicode/utf8.first", laid_unicode_utf8_first)] }
def LimitsAtSaid : Prop := limitsAtRow.holds Tryz.pinned (OpenSpec.ofChange limitsAtSpec)

/-- ITS FALSE NEIGHBOUR: 'it returns false'. Refute it at one input. -/
def limitsAtWrong : ChangeSpec := { name := "limitsAt", fn := fun _ => fun
  | [d1, d2] => { results := [.lit (.bool false)], args := [d1, d2] }
  | _ => none }
def LimitsAtWrongFalsely : Prop := limitsAtRow.holds Tryz.pinned (OpenSpec.ofChange limitsAtWrong)

/-- 'chargenetlaw14.LimitsNext': WHATEVER THE INPUT: true; the input reads as it did. -/
def limitsNextSpec : ChangeSpec := { name := "limitsNext", fn := fun _ => fun
  | [d1, d2] => { results := [.lit (.bool true)], args := [d1, d2] }
  | _ => none }
def limitsNextRow : OpenClaim := { program := "ytmappmeojmdekaagreatdoor", sum := "c78996ecc21f732aded0a7bc3479959b19f7189a6fad3fc7255e112b608e52f1", func := "chargenet/chargenetlaw14.LimitsNext", spec := "limitsNext", inPlace := ["internal/abi.NoEscape", "internal/bytealg.MakeNoZero"], unfollowed := true, recurses := true, named := ["unicode/utf8.first", "unicode/utf8.acceptRanges", "unicode.CaseRanges", "chargenet/calendar.lengths"], apart := false, laid := [("chargenet/calendar.lengths", laid_chargenet_calendar_lengths), ("unicode/utf8.acceptRanges", laid_unicode_utf8_acceptRanges), ("unicode.CaseRanges", laid_unicode_CaseRanges), ("unicode/utf8.first", laid_unicode_utf8_first)] }
def LimitsNextSaid : Prop := limitsNextRow.holds Tryz.pinned (OpenSpec.ofChange limitsNextSpec)

/-- ITS FALSE NEIGHBOUR: 'it returns false'. Refute it at one input. -/
def limitsNextWrong : ChangeSpec := { name := "limitsNext", fn := fun _ => fun
  | [d1, d2] => { results := [.lit (.bool false)], args := [d1, d2] }
  | _ => none }
def LimitsNextWrongFalsely : Prop := limitsNextRow.holds Tryz.pinned (OpenSpec.ofChange limitsNextWrong)

/-- 'chargenetlaw14.LimitsPaths': WHATEVER THE INPUT: true; the input reads as it did. -/
def limitsPathsSpec : ChangeSpec := { name := "limitsPaths", fn := fun _ => fun
  | [d1, d2, d3] => { results := [.lit (.bool true)], args := [d1, d2, d3] }
  | _ => none }
def limitsPathsRow : OpenClaim := { program := "ytmappmeojmdekaagreatdoor", sum := "c78996ecc21f732aded0a7bc3479959b19f7189a6fad3fc7255e112b608e52f1", func := "chargenet/chargenetlaw14.LimitsPaths", spec := "limitsPaths", inPlace := ["internal/abi.NoEscape", "internal/bytealg.MakeNoZero"], unfollowed := true, recurses := true, named := ["unicode/utf8.first", "unicode/utf8.acceptRanges", "unicode.CaseRanges", "chargenet/calendar.lengths"], apart := false, laid := [("chargenet/calendar.lengths", laid_chargenet_calendar_lengths), ("unicode/utf8.acceptRanges", laid_unicode_utf8_acceptRanges), ("unicode.CaseRanges", laid_unicode_CaseRanges), ("unicode/utf8.first", laid_unicode_utf8_first)] }
def LimitsPathsSaid : Prop := limitsPathsRow.holds Tryz.pinned (OpenSpec.ofChange limitsPathsSpec)

/-- ITS FALSE NEIGHBOUR: 'it returns false'. Refute it at one input. -/
def limitsPathsWrong : ChangeSpec := { name := "limitsPaths", fn := fun _ => fun
  | [d1, d2, d3] => { results := [.lit (.bool false)], args := [d1, d2, d3] }
  | _ => none }
def LimitsPathsWrongFalsely : Prop := limitsPathsRow.holds Tryz.pinned (OpenSpec.ofChange limitsPathsWrong)

/-- 'chargenetlaw14.LimitsConstant': WHATEVER THE INPUT: true; the input reads as it did. -/
def limitsConstantSpec : ChangeSpec := { name := "limitsConstant", fn := fun _ => fun
  | [d1, d2] => { results := [.lit (.bool true)], args := [d1, d2] }
  | _ => none }
def limitsConstantRow : OpenClaim := { program := "ytmappmeojmdekaagreatdoor", sum := "c78996ecc21f732aded0a7bc3479959b19f7189a6fad3fc7255e112b608e52f1", func := "chargenet/chargenetlaw14.LimitsConstant", spec := "limitsConstant", inPlace := ["internal/abi.NoEscape", "internal/bytealg.MakeNoZero"], unfollowed := true, recurses := true, named := ["unicode/utf8.first", "unicode/utf8.acceptRanges", "unicode.CaseRanges", "chargenet/calendar.lengths"], apart := false, laid := [("chargenet/calendar.lengths", laid_chargenet_calendar_lengths), ("unicode/utf8.acceptRanges", laid_unicode_utf8_acceptRanges), ("unicode.CaseRanges", laid_unicode_CaseRanges), ("unicode/utf8.first", laid_unicode_utf8_first)] }
def LimitsConstantSaid : Prop := limitsConstantRow.holds Tryz.pinned (OpenSpec.ofChange limitsConstantSpec)

/-- ITS FALSE NEIGHBOUR: 'it returns false'. Refute it at one input. -/
def limitsConstantWrong : ChangeSpec := { name := "limitsConstant", fn := fun _ => fun
  | [d1, d2] => { results := [.lit (.bool false)], args := [d1, d2] }
  | _ => none }
def LimitsConstantWrongFalsely : Prop := limitsConstantRow.holds Tryz.pinned (OpenSpec.ofChange limitsConstantWrong)

/-- 'chargenetlaw14.LimitsValues': WHATEVER THE INPUT: true; the input reads as it did. -/
def limitsValuesSpec : ChangeSpec := { name := "limitsValues", fn := fun _ => fun
  | [d1, d2, d3] => { results := [.lit (.bool true)], args := [d1, d2, d3] }
  | _ => none }
def limitsValuesRow : OpenClaim := { program := "ytmappmeojmdekaagreatdoor", sum := "c78996ecc21f732aded0a7bc3479959b19f7189a6fad3fc7255e112b608e52f1", func := "chargenet/chargenetlaw14.LimitsValues", spec := "limitsValues", inPlace := ["internal/abi.NoEscape", "internal/bytealg.MakeNoZero"], unfollowed := true, recurses := true, named := ["unicode/utf8.first", "unicode/utf8.acceptRanges", "unicode.CaseRanges", "chargenet/calendar.lengths"], apart := false, laid := [("chargenet/calendar.lengths", laid_chargenet_calendar_lengths), ("unicode/utf8.acceptRanges", laid_unicode_utf8_acceptRanges), ("unicode.CaseRanges", laid_unicode_CaseRanges), ("unicode/utf8.first", laid_unicode_utf8_first)] }
def LimitsValuesSaid : Prop := limitsValuesRow.holds Tryz.pinned (OpenSpec.ofChange limitsValuesSpec)

/-- ITS FALSE NEIGHBOUR: 'it returns false'. Refute it at one input. -/
def limitsValuesWrong : ChangeSpec := { name := "limitsValues", fn := fun _ => fun
  | [d1, d2, d3] => { results := [.lit (.bool false)], args := [d1, d2, d3] }
  | _ => none }
def LimitsValuesWrongFalsely : Prop := limitsValuesRow.holds Tryz.pinned (OpenSpec.ofChange limitsValuesWrong)

/-- 'chargenetlaw14.LimitsMore': WHATEVER THE INPUT: true; the input reads as it did. -/
def limitsMoreSpec : ChangeSpec := { name := "limitsMore", fn := fun _ => fun
  | [d1, d2] => { results := [.lit (.bool true)], args := [d1, d2] }
  | _ => none }
def limitsMoreRow : OpenClaim := { program := "ytmappmeojmdekaagreatdoor", sum := "c78996ecc21f732aded0a7bc3479959b19f7189a6fad3fc7255e112b608e52f1", func := "chargenet/chargenetlaw14.LimitsMore", spec := "limitsMore", inPlace := ["internal/abi.NoEscape", "internal/bytealg.MakeNoZero"], unfollowed := true, recurses := true, named := ["unicode/utf8.first", "unicode/utf8.acceptRanges", "unicode.CaseRanges", "chargenet/calendar.lengths"], apart := false, laid := [("chargenet/calendar.lengths", laid_chargenet_calendar_lengths), ("unicode/utf8.acceptRanges", laid_unicode_utf8_acceptRanges), ("unicode.CaseRanges", laid_unicode_CaseRanges), ("unicode/utf8.first", laid_unicode_utf8_first)] }
def LimitsMoreSaid : Prop := limitsMoreRow.holds Tryz.pinned (OpenSpec.ofChange limitsMoreSpec)

/-- ITS FALSE NEIGHBOUR: 'it returns false'. Refute it at one input. -/
def limitsMoreWrong : ChangeSpec := { name := "limitsMore", fn := fun _ => fun
  | [d1, d2] => { results := [.lit (.bool false)], args := [d1, d2] }
  | _ => none }
def LimitsMoreWrongFalsely : Prop := limitsMoreRow.holds Tryz.pinned (OpenSpec.ofChange limitsMoreWrong)

/- THE SECOND FORM. 'bulk': how many values and letters a reading holds, each counted each time it is reached (what is shared counts as often as it is met; a slice's spare places count too). A statement '..UptoSaid' is the law's where the arguments, and the package variables that the reading takes, are together of bulk at most 1048576: NARROWER than '..Said'. Prove '..Said' where nothing that the law and all that it calls make is longer than what came in: it says more and counts as full. Else prove '..UptoSaid'. A law counts once. -/
mutual
def uptoBulk {H : Type} : DataW H → Nat
  | .lit (.string bytes) => bytes.length + 1
  | .lit _ => 1
  | .nil => 1
  | .ptr d => uptoBulk d + 1
  | .slice elems spare => uptoBulkAll elems + uptoBulkAll spare + 1
  | .agg parts => uptoBulkAll parts + 1
  | .iface _ d => uptoBulk d + 1
  | .map entries => uptoBulkEntries entries + 1
  | .held _ => 1
def uptoBulkAll {H : Type} : List (DataW H) → Nat
  | [] => 0
  | d :: r => uptoBulk d + uptoBulkAll r
def uptoBulkEntries {H : Type} : List (Lit × DataW H) → Nat
  | [] => 0
  | x :: r => uptoBulkEntry x + uptoBulkEntries r
def uptoBulkEntry {H : Type} : Lit × DataW H → Nat
  | (.string bytes, d) => bytes.length + uptoBulk d + 1
  | (_, d) => uptoBulk d + 1
 end
def uptoSmall : (H : Type) → List (DataW H) → Bool := fun _ ds => decide (uptoBulkAll ds ≤ 1048576)
def OpenSpec.upto (s : _root_.Go.ChangeSpec) : _root_.Go.OpenSpec := { _root_.Go.OpenSpec.ofChange s with cond := some uptoSmall }

/-- 'chargenetlaw14.LimitsValid', WHERE WHAT IT READS IS OF BULK AT MOST 1048576: true; the input reads as it did. -/
def limitsValidUptoRow : OpenClaim := { program := "ytmappmeojmdekaagreatdoor", sum := "c78996ecc21f732aded0a7bc3479959b19f7189a6fad3fc7255e112b608e52f1", func := "chargenet/chargenetlaw14.LimitsValid", spec := "limitsValid", inPlace := ["internal/abi.NoEscape", "internal/bytealg.MakeNoZero"], unfollowed := true, recurses := true, named := ["unicode/utf8.first", "unicode/utf8.acceptRanges", "unicode.CaseRanges", "chargenet/calendar.lengths"], apart := false, laid := [("chargenet/calendar.lengths", laid_chargenet_calendar_lengths), ("unicode/utf8.acceptRanges", laid_unicode_utf8_acceptRanges), ("unicode.CaseRanges", laid_unicode_CaseRanges), ("unicode/utf8.first", laid_unicode_utf8_first)], narrowed := true }
def LimitsValidUptoSaid : Prop := limitsValidUptoRow.holds Tryz.pinned (OpenSpec.upto limitsValidSpec)

/-- 'chargenetlaw14.LimitsAt', WHERE WHAT IT READS IS OF BULK AT MOST 1048576: true; the input reads as it did. -/
def limitsAtUptoRow : OpenClaim := { program := "ytmappmeojmdekaagreatdoor", sum := "c78996ecc21f732aded0a7bc3479959b19f7189a6fad3fc7255e112b608e52f1", func := "chargenet/chargenetlaw14.LimitsAt", spec := "limitsAt", inPlace := ["internal/abi.NoEscape", "internal/bytealg.MakeNoZero"], unfollowed := true, recurses := true, named := ["unicode/utf8.first", "unicode/utf8.acceptRanges", "unicode.CaseRanges", "chargenet/calendar.lengths"], apart := false, laid := [("chargenet/calendar.lengths", laid_chargenet_calendar_lengths), ("unicode/utf8.acceptRanges", laid_unicode_utf8_acceptRanges), ("unicode.CaseRanges", laid_unicode_CaseRanges), ("unicode/utf8.first", laid_unicode_utf8_first)], narrowed := true }
def LimitsAtUptoSaid : Prop := limitsAtUptoRow.holds Tryz.pinned (OpenSpec.upto limitsAtSpec)

/-- 'chargenetlaw14.LimitsNext', WHERE WHAT IT READS IS OF BULK AT MOST 1048576: true; the input reads as it did. -/
def limitsNextUptoRow : OpenClaim := { program := "ytmappmeojmdekaagreatdoor", sum := "c78996ecc21f732aded0a7bc3479959b19f7189a6fad3fc7255e112b608e52f1", func := "chargenet/chargenetlaw14.LimitsNext", spec := "limitsNext", inPlace := ["internal/abi.NoEscape", "internal/bytealg.MakeNoZero"], unfollowed := true, recurses := true, named := ["unicode/utf8.first", "unicode/utf8.acceptRanges", "unicode.CaseRanges", "chargenet/calendar.lengths"], apart := false, laid := [("chargenet/calendar.lengths", laid_chargenet_calendar_lengths), ("unicode/utf8.acceptRanges", laid_unicode_utf8_acceptRanges), ("unicode.CaseRanges", laid_unicode_CaseRanges), ("unicode/utf8.first", laid_unicode_utf8_first)], narrowed := true }
def LimitsNextUptoSaid : Prop := limitsNextUptoRow.holds Tryz.pinned (OpenSpec.upto limitsNextSpec)

/-- 'chargenetlaw14.LimitsPaths', WHERE WHAT IT READS IS OF BULK AT MOST 1048576: true; the input reads as it did. -/
def limitsPathsUptoRow : OpenClaim := { program := "ytmappmeojmdekaagreatdoor", sum := "c78996ecc21f732aded0a7bc3479959b19f7189a6fad3fc7255e112b608e52f1", func := "chargenet/chargenetlaw14.LimitsPaths", spec := "limitsPaths", inPlace := ["internal/abi.NoEscape", "internal/bytealg.MakeNoZero"], unfollowed := true, recurses := true, named := ["unicode/utf8.first", "unicode/utf8.acceptRanges", "unicode.CaseRanges", "chargenet/calendar.lengths"], apart := false, laid := [("chargenet/calendar.lengths", laid_chargenet_calendar_lengths), ("unicode/utf8.acceptRanges", laid_unicode_utf8_acceptRanges), ("unicode.CaseRanges", laid_unicode_CaseRanges), ("unicode/utf8.first", laid_unicode_utf8_first)], narrowed := true }
def LimitsPathsUptoSaid : Prop := limitsPathsUptoRow.holds Tryz.pinned (OpenSpec.upto limitsPathsSpec)

/-- 'chargenetlaw14.LimitsConstant', WHERE WHAT IT READS IS OF BULK AT MOST 1048576: true; the input reads as it did. -/
def limitsConstantUptoRow : OpenClaim := { program := "ytmappmeojmdekaagreatdoor", sum := "c78996ecc21f732aded0a7bc3479959b19f7189a6fad3fc7255e112b608e52f1", func := "chargenet/chargenetlaw14.LimitsConstant", spec := "limitsConstant", inPlace := ["internal/abi.NoEscape", "internal/bytealg.MakeNoZero"], unfollowed := true, recurses := true, named := ["unicode/utf8.first", "unicode/utf8.acceptRanges", "unicode.CaseRanges", "chargenet/calendar.lengths"], apart := false, laid := [("chargenet/calendar.lengths", laid_chargenet_calendar_lengths), ("unicode/utf8.acceptRanges", laid_unicode_utf8_acceptRanges), ("unicode.CaseRanges", laid_unicode_CaseRanges), ("unicode/utf8.first", laid_unicode_utf8_first)], narrowed := true }
def LimitsConstantUptoSaid : Prop := limitsConstantUptoRow.holds Tryz.pinned (OpenSpec.upto limitsConstantSpec)

/-- 'chargenetlaw14.LimitsValues', WHERE WHAT IT READS IS OF BULK AT MOST 1048576: true; the input reads as it did. -/
def limitsValuesUptoRow : OpenClaim := { program := "ytmappmeojmdekaagreatdoor", sum := "c78996ecc21f732aded0a7bc3479959b19f7189a6fad3fc7255e112b608e52f1", func := "chargenet/chargenetlaw14.LimitsValues", spec := "limitsValues", inPlace := ["internal/abi.NoEscape", "internal/bytealg.MakeNoZero"], unfollowed := true, recurses := true, named := ["unicode/utf8.first", "unicode/utf8.acceptRanges", "unicode.CaseRanges", "chargenet/calendar.lengths"], apart := false, laid := [("chargenet/calendar.lengths", laid_chargenet_calendar_lengths), ("unicode/utf8.acceptRanges", laid_unicode_utf8_acceptRanges), ("unicode.CaseRanges", laid_unicode_CaseRanges), ("unicode/utf8.first", laid_unicode_utf8_first)], narrowed := true }
def LimitsValuesUptoSaid : Prop := limitsValuesUptoRow.holds Tryz.pinned (OpenSpec.upto limitsValuesSpec)

/-- 'chargenetlaw14.LimitsMore', WHERE WHAT IT READS IS OF BULK AT MOST 1048576: true; the input reads as it did. -/
def limitsMoreUptoRow : OpenClaim := { program := "ytmappmeojmdekaagreatdoor", sum := "c78996ecc21f732aded0a7bc3479959b19f7189a6fad3fc7255e112b608e52f1", func := "chargenet/chargenetlaw14.LimitsMore", spec := "limitsMore", inPlace := ["internal/abi.NoEscape", "internal/bytealg.MakeNoZero"], unfollowed := true, recurses := true, named := ["unicode/utf8.first", "unicode/utf8.acceptRanges", "unicode.CaseRanges", "chargenet/calendar.lengths"], apart := false, laid := [("chargenet/calendar.lengths", laid_chargenet_calendar_lengths), ("unicode/utf8.acceptRanges", laid_unicode_utf8_acceptRanges), ("unicode.CaseRanges", laid_unicode_CaseRanges), ("unicode/utf8.first", laid_unicode_utf8_first)], narrowed := true }
def LimitsMoreUptoSaid : Prop := limitsMoreUptoRow.holds Tryz.pinned (OpenSpec.upto limitsMoreSpec)

end Rows
end Go.Proofs.YtmappmeojmdekaaGreatDoor
