/-
  NARROWER THAN 'FOR EVERY INPUT', by the rows' own cells (each row's printed sentence says how): PointsShare: laid · AllocateRun: laid · AllocateFits: laid · AllocateEqual: laid · AllocateOne: laid · AllocationsKeep: laid.
  DERIVED. THE GIVEN ROWS OF THIS SEAT. 6 by the template 'for every input the law returns true; each argument reads behind the call as it read before'; 0 by the template 'total and deterministic' (their statements: YtlpjniejbblcnaaDoorTotals.lean).
  GIVEN WITH THE SEED: the statements are not yours to turn. If you find one false, say at which input.
  Laid BY PROGRAM, IN A SANDBOX (cutbox-rows.mjs): the forced cells as the released guide's own fill.sh prints them over the translation f25a75904d7e1d37… (all of the seat's roots in one cut). By AI agents, Wed Nov 11 2026. No macro, syntax, notation, axiom, sorry.
-/
import Derived.Test.YtlpjniejbblcnaaDoorChecked
import GoSem.PinnedTables
import GoSem.Claim
import GoSem.ClaimJoined
import GoSem.ClaimMapViews
import Derived.JoinedTies
import Derived.KernelRfl
namespace Go.Proofs.YtlpjniejbblcnaaDoor
/- THE CELL 'sum', in the pinned program and in every row, IS THE sha256 OF THE DUMP (.gsa) THAT YtlpjniejbblcnaaDoorProg.lean LOADS. Nothing in Lean hashes anything: it is a label: what it is worth is what the hold of that sum in a sandbox is worth. -/
noncomputable def Tryd.pinned : Pinned := { name := "ytlpjniejbblcnaadoor", sum := "f25a75904d7e1d375163cf4d0abc773c1fe73f82ccfc8d22add3881df15fc931", checked := Tryd.checked }
namespace Rows
def none {H : Type} : Left H := { results := [], args := [] }

/- WHAT THE LISTED PACKAGE-LEVEL VARIABLES READ AS WHEN THE CALL BEGINS. Each datum BY PROGRAM (the guide's laid-datum.mjs) off the statement by which the dump's own 'gosem.cut.vars' lays the variable. In a bare row this is a premise. The card (YtlpjniejbblcnaaDoorCards.lean) ties it to the program's text. -/
def laid_unicode_utf8_acceptRanges {H : Type} : DataW H := .agg [.agg [.lit (.int .u8 128), .lit (.int .u8 191)], .agg [.lit (.int .u8 160), .lit (.int .u8 191)], .agg [.lit (.int .u8 128), .lit (.int .u8 159)], .agg [.lit (.int .u8 144), .lit (.int .u8 191)], .agg [.lit (.int .u8 128), .lit (.int .u8 143)], .agg [.lit (.int .u8 0), .lit (.int .u8 0)], .agg [.lit (.int .u8 0), .lit (.int .u8 0)], .agg [.lit (.int .u8 0), .lit (.int .u8 0)], .agg [.lit (.int .u8 0), .lit (.int .u8 0)], .agg [.lit (.int .u8 0), .lit (.int .u8 0)], .agg [.lit (.int .u8 0), .lit (.int .u8 0)], .agg [.lit (.int .u8 0), .lit (.int .u8 0)], .agg [.lit (.int .u8 0), .lit (.int .u8 0)], .agg [.lit (.int .u8 0), .lit (.int .u8 0)], .agg [.lit (.int .u8 0), .lit (.int .u8 0)], .agg [.lit (.int .u8 0), .lit (.int .u8 0)]]
/-- One of Go's own tables, pinned by name: the form's constant. -/
def laid_unicode_CaseRanges : DataW Unit := Go.Pinned.caseRanges
/-- One of Go's own tables, pinned by name: the form's constant. -/
def laid_unicode_utf8_first : DataW Unit := Go.Pinned.utf8First
def laid_chargenet_calendar_lengths {H : Type} : DataW H := .agg [.lit (.int .i64 31), .lit (.int .i64 28), .lit (.int .i64 31), .lit (.int .i64 30), .lit (.int .i64 31), .lit (.int .i64 30), .lit (.int .i64 31), .lit (.int .i64 31), .lit (.int .i64 30), .lit (.int .i64 31), .lit (.int .i64 30), .lit (.int .i64 31)]

/-- 'chargenettop.PointsShare': WHATEVER THE INPUT: true; the input reads as it did. -/
def pointsShareSpec : ChangeSpec := { name := "pointsShare", fn := fun _ => fun
  | [d1, d2] => { results := [.lit (.bool true)], args := [d1, d2] }
  | _ => none }
def pointsShareRow : OpenClaim := { program := "ytlpjniejbblcnaadoor", sum := "f25a75904d7e1d375163cf4d0abc773c1fe73f82ccfc8d22add3881df15fc931", func := "chargenet/chargenettop.PointsShare", spec := "pointsShare", inPlace := ["internal/abi.NoEscape", "internal/bytealg.MakeNoZero"], unfollowed := true, recurses := true, named := ["unicode/utf8.first", "unicode/utf8.acceptRanges", "unicode.CaseRanges"], apart := false, laid := [("unicode/utf8.acceptRanges", laid_unicode_utf8_acceptRanges), ("unicode.CaseRanges", laid_unicode_CaseRanges), ("unicode/utf8.first", laid_unicode_utf8_first)] }
def PointsShareSaid : Prop := pointsShareRow.holds Tryd.pinned (OpenSpec.ofChange pointsShareSpec)

/-- ITS FALSE NEIGHBOUR: 'it returns false'. Refute it at one input. -/
def pointsShareWrong : ChangeSpec := { name := "pointsShare", fn := fun _ => fun
  | [d1, d2] => { results := [.lit (.bool false)], args := [d1, d2] }
  | _ => none }
def PointsShareWrongFalsely : Prop := pointsShareRow.holds Tryd.pinned (OpenSpec.ofChange pointsShareWrong)

/-- 'chargenetlaw17.AllocateRun': WHATEVER THE INPUT: true; the input reads as it did. -/
def allocateRunSpec : ChangeSpec := { name := "allocateRun", fn := fun _ => fun
  | [d1, d2, d3] => { results := [.lit (.bool true)], args := [d1, d2, d3] }
  | _ => none }
def allocateRunRow : OpenClaim := { program := "ytlpjniejbblcnaadoor", sum := "f25a75904d7e1d375163cf4d0abc773c1fe73f82ccfc8d22add3881df15fc931", func := "chargenet/chargenetlaw17.AllocateRun", spec := "allocateRun", inPlace := ["internal/abi.NoEscape", "internal/bytealg.MakeNoZero"], unfollowed := true, recurses := true, named := ["unicode/utf8.first", "unicode/utf8.acceptRanges", "unicode.CaseRanges"], apart := false, laid := [("unicode/utf8.acceptRanges", laid_unicode_utf8_acceptRanges), ("unicode.CaseRanges", laid_unicode_CaseRanges), ("unicode/utf8.first", laid_unicode_utf8_first)] }
def AllocateRunSaid : Prop := allocateRunRow.holds Tryd.pinned (OpenSpec.ofChange allocateRunSpec)

/-- ITS FALSE NEIGHBOUR: 'it returns false'. Refute it at one input. -/
def allocateRunWrong : ChangeSpec := { name := "allocateRun", fn := fun _ => fun
  | [d1, d2, d3] => { results := [.lit (.bool false)], args := [d1, d2, d3] }
  | _ => none }
def AllocateRunWrongFalsely : Prop := allocateRunRow.holds Tryd.pinned (OpenSpec.ofChange allocateRunWrong)

/-- 'chargenetlaw17.AllocateFits': WHATEVER THE INPUT: true; the input reads as it did. -/
def allocateFitsSpec : ChangeSpec := { name := "allocateFits", fn := fun _ => fun
  | [d1, d2, d3] => { results := [.lit (.bool true)], args := [d1, d2, d3] }
  | _ => none }
def allocateFitsRow : OpenClaim := { program := "ytlpjniejbblcnaadoor", sum := "f25a75904d7e1d375163cf4d0abc773c1fe73f82ccfc8d22add3881df15fc931", func := "chargenet/chargenetlaw17.AllocateFits", spec := "allocateFits", inPlace := ["internal/abi.NoEscape", "internal/bytealg.MakeNoZero"], unfollowed := true, recurses := true, named := ["unicode/utf8.first", "unicode/utf8.acceptRanges", "unicode.CaseRanges"], apart := false, laid := [("unicode/utf8.acceptRanges", laid_unicode_utf8_acceptRanges), ("unicode.CaseRanges", laid_unicode_CaseRanges), ("unicode/utf8.first", laid_unicode_utf8_first)] }
def AllocateFitsSaid : Prop := allocateFitsRow.holds Tryd.pinned (OpenSpec.ofChange allocateFitsSpec)

/-- ITS FALSE NEIGHBOUR: 'it returns false'. Refute it at one input. -/
def allocateFitsWrong : ChangeSpec := { name := "allocateFits", fn := fun _ => fun
  | [d1, d2, d3] => { results := [.lit (.bool false)], args := [d1, d2, d3] }
  | _ => none }
def AllocateFitsWrongFalsely : Prop := allocateFitsRow.holds Tryd.pinned (OpenSpec.ofChange allocateFitsWrong)

/-- 'chargenetlaw17.AllocateEqual': WHATEVER THE INPUT: true; the input reads as it did. -/
def allocateEqualSpec : ChangeSpec := { name := "allocateEqual", fn := fun _ => fun
  | [d1, d2, d3] => { results := [.lit (.bool true)], args := [d1, d2, d3] }
  | _ => none }
def allocateEqualRow : OpenClaim := { program := "ytlpjniejbblcnaadoor", sum := "f25a75904d7e1d375163cf4d0abc773c1fe73f82ccfc8d22add3881df15fc931", func := "chargenet/chargenetlaw17.AllocateEqual", spec := "allocateEqual", inPlace := ["internal/abi.NoEscape", "internal/bytealg.MakeNoZero"], unfollowed := true, recurses := true, named := ["unicode/utf8.first", "unicode/utf8.acceptRanges", "unicode.CaseRanges"], apart := false, laid := [("unicode/utf8.acceptRanges", laid_unicode_utf8_acceptRanges), ("unicode.CaseRanges", laid_unicode_CaseRanges), ("unicode/utf8.first", laid_unicode_utf8_first)] }
def AllocateEqualSaid : Prop := allocateEqualRow.holds Tryd.pinned (OpenSpec.ofChange allocateEqualSpec)

/-- ITS FALSE NEIGHBOUR: 'it returns false'. Refute it at one input. -/
def allocateEqualWrong : ChangeSpec := { name := "allocateEqual", fn := fun _ => fun
  | [d1, d2, d3] => { results := [.lit (.bool false)], args := [d1, d2, d3] }
  | _ => none }
def AllocateEqualWrongFalsely : Prop := allocateEqualRow.holds Tryd.pinned (OpenSpec.ofChange allocateEqualWrong)

/-- 'chargenetlaw17.AllocateOne': WHATEVER THE INPUT: true; the input reads as it did. -/
def allocateOneSpec : ChangeSpec := { name := "allocateOne", fn := fun _ => fun
  | [d1, d2, d3, d4] => { results := [.lit (.bool true)], args := [d1, d2, d3, d4] }
  | _ => none }
def allocateOneRow : OpenClaim := { program := "ytlpjniejbblcnaadoor", sum := "f25a75904d7e1d375163cf4d0abc773c1fe73f82ccfc8d22add3881df15fc931", func := "chargenet/chargenetlaw17.AllocateOne", spec := "allocateOne", inPlace := ["internal/abi.NoEscape", "internal/bytealg.MakeNoZero"], unfollowed := true, recurses := true, named := ["unicode/utf8.first", "unicode/utf8.acceptRanges", "unicode.CaseRanges"], apart := false, laid := [("unicode/utf8.acceptRanges", laid_unicode_utf8_acceptRanges), ("unicode.CaseRanges", laid_unicode_CaseRanges), ("unicode/utf8.first", laid_unicode_utf8_first)] }
def AllocateOneSaid : Prop := allocateOneRow.holds Tryd.pinned (OpenSpec.ofChange allocateOneSpec)

/-- ITS FALSE NEIGHBOUR: 'it returns false'. Refute it at one input. -/
def allocateOneWrong : ChangeSpec := { name := "allocateOne", fn := fun _ => fun
  | [d1, d2, d3, d4] => { results := [.lit (.bool false)], args := [d1, d2, d3, d4] }
  | _ => none }
def AllocateOneWrongFalsely : Prop := allocateOneRow.holds Tryd.pinned (OpenSpec.ofChange allocateOneWrong)

/-- 'chargenettop.AllocationsKeep': WHATEVER THE INPUT: true; the input reads as it did. -/
def allocationsKeepSpec : ChangeSpec := { name := "allocationsKeep", fn := fun _ => fun
  | [d1, d2, d3] => { results := [.lit (.bool true)], args := [d1, d2, d3] }
  | _ => none }
def allocationsKeepRow : OpenClaim := { program := "ytlpjniejbblcnaadoor", sum := "f25a75904d7e1d375163cf4d0abc773c1fe73f82ccfc8d22add3881df15fc931", func := "chargenet/chargenettop.AllocationsKeep", spec := "allocationsKeep", inPlace := ["internal/abi.NoEscape", "internal/bytealg.MakeNoZero"], unfollowed := true, recurses := true, named := ["unicode/utf8.first", "unicode/utf8.acceptRanges", "unicode.CaseRanges", "chargenet/calendar.lengths"], apart := false, laid := [("chargenet/calendar.lengths", laid_chargenet_calendar_lengths), ("unicode/utf8.acceptRanges", laid_unicode_utf8_acceptRanges), ("unicode.CaseRanges", laid_unicode_CaseRanges), ("unicode/utf8.first", laid_unicode_utf8_first)] }
def AllocationsKeepSaid : Prop := allocationsKeepRow.holds Tryd.pinned (OpenSpec.ofChange allocationsKeepSpec)

/-- ITS FALSE NEIGHBOUR: 'it returns false'. Refute it at one input. -/
def allocationsKeepWrong : ChangeSpec := { name := "allocationsKeep", fn := fun _ => fun
  | [d1, d2, d3] => { results := [.lit (.bool false)], args := [d1, d2, d3] }
  | _ => none }
def AllocationsKeepWrongFalsely : Prop := allocationsKeepRow.holds Tryd.pinned (OpenSpec.ofChange allocationsKeepWrong)

/- THE SECOND FORM. 'bulk': how many values and letters a reading holds, each counted each time it is reached (what is shared counts as often as it is met; a slice's spare places count too). A statement '..UptoSaid' is the law's where the arguments, and the package variables that the reading takes, are together of bulk at most 1048576: NARROWER than '..Said'. Prove '..Said' where nothing that the law and all that it calls make is longer than what came in: it says more and counts as full. Else prove '..UptoSaid'. A law counts once. -/
mutual
def uptoBulk {H : Type} : DataW H → Nat
  | .lit (.string bytes) => bytes.length + 1
  | .lit _ => 1
  | .nil => 1
  | .ptr d => uptoBulk d + 1
  | .slice elems spare => uptoBulkAll elems + uptoBulkAll spare + 1
  | .agg parts => uptoBulkAll parts + 1
  | .iface _ d => uptoBulk d + 1
  | .map entries => uptoBulkEntries entries + 1
  | .held _ => 1
def uptoBulkAll {H : Type} : List (DataW H) → Nat
  | [] => 0
  | d :: r => uptoBulk d + uptoBulkAll r
def uptoBulkEntries {H : Type} : List (Lit × DataW H) → Nat
  | [] => 0
  | x :: r => uptoBulkEntry x + uptoBulkEntries r
def uptoBulkEntry {H : Type} : Lit × DataW H → Nat
  | (.string bytes, d) => bytes.length + uptoBulk d + 1
  | (_, d) => uptoBulk d + 1
 end
def uptoSmall : (H : Type) → List (DataW H) → Bool := fun _ ds => decide (uptoBulkAll ds ≤ 1048576)
def OpenSpec.upto (s : _root_.Go.ChangeSpec) : _root_.Go.OpenSpec := { _root_.Go.OpenSpec.ofChange s with cond := some uptoSmall }

/-- 'chargenettop.PointsShare', WHERE WHAT IT READS IS OF BULK AT MOST 1048576: true; the input reads as it did. -/
def pointsShareUptoRow : OpenClaim := { program := "ytlpjniejbblcnaadoor", sum := "f25a75904d7e1d375163cf4d0abc773c1fe73f82ccfc8d22add3881df15fc931", func := "chargenet/chargenettop.PointsShare", spec := "pointsShare", inPlace := ["internal/abi.NoEscape", "internal/bytealg.MakeNoZero"], unfollowed := true, recurses := true, named := ["unicode/utf8.first", "unicode/utf8.acceptRanges", "unicode.CaseRanges"], apart := false, laid := [("unicode/utf8.acceptRanges", laid_unicode_utf8_acceptRanges), ("unicode.CaseRanges", laid_unicode_CaseRanges), ("unicode/utf8.first", laid_unicode_utf8_first)], narrowed := true }
def PointsShareUptoSaid : Prop := pointsShareUptoRow.holds Tryd.pinned (OpenSpec.upto pointsShareSpec)

/-- 'chargenetlaw17.AllocateRun', WHERE WHAT IT READS IS OF BULK AT MOST 1048576: true; the input reads as it did. -/
def allocateRunUptoRow : OpenClaim := { program := "ytlpjniejbblcnaadoor", sum := "f25a75904d7e1d375163cf4d0abc773c1fe73f82ccfc8d22add3881df15fc931", func := "chargenet/chargenetlaw17.AllocateRun", spec := "allocateRun", inPlace := ["internal/abi.NoEscape", "internal/bytealg.MakeNoZero"], unfollowed := true, recurses := true, named := ["unicode/utf8.first", "unicode/utf8.acceptRanges", "unicode.CaseRanges"], apart := false, laid := [("unicode/utf8.acceptRanges", laid_unicode_utf8_acceptRanges), ("unicode.CaseRanges", laid_unicode_CaseRanges), ("unicode/utf8.first", laid_unicode_utf8_first)], narrowed := true }
def AllocateRunUptoSaid : Prop := allocateRunUptoRow.holds Tryd.pinned (OpenSpec.upto allocateRunSpec)

/-- 'chargenetlaw17.AllocateFits', WHERE WHAT IT READS IS OF BULK AT MOST 1048576: true; the input reads as it did. -/
def allocateFitsUptoRow : OpenClaim := { program := "ytlpjniejbblcnaadoor", sum := "f25a75904d7e1d375163cf4d0abc773c1fe73f82ccfc8d22add3881df15fc931", func := "chargenet/chargenetlaw17.AllocateFits", spec := "allocateFits", inPlace := ["internal/abi.NoEscape", "internal/bytealg.MakeNoZero"], unfollowed := true, recurses := true, named := ["unicode/utf8.first", "unicode/utf8.acceptRanges", "unicode.CaseRanges"], apart := false, laid := [("unicode/utf8.acceptRanges", laid_unicode_utf8_acceptRanges), ("unicode.CaseRanges", laid_unicode_CaseRanges), ("unicode/utf8.first", laid_unicode_utf8_first)], narrowed := true }
def AllocateFitsUptoSaid : Prop := allocateFitsUptoRow.holds Tryd.pinned (OpenSpec.upto allocateFitsSpec)

/-- 'chargenetlaw17.AllocateEqual', WHERE WHAT IT READS IS OF BULK AT MOST 1048576: true; the input reads as it did. -/
def allocateEqualUptoRow : OpenClaim := { program := "ytlpjniejbblcnaadoor", sum := "f25a75904d7e1d375163cf4d0abc773c1fe73f82ccfc8d22add3881df15fc931", func := "chargenet/chargenetlaw17.AllocateEqual", spec := "allocateEqual", inPlace := ["internal/abi.NoEscape", "internal/bytealg.MakeNoZero"], unfollowed := true, recurses := true, named := ["unicode/utf8.first", "unicode/utf8.acceptRanges", "unicode.CaseRanges"], apart := false, laid := [("unicode/utf8.acceptRanges", laid_unicode_utf8_acceptRanges), ("unicode.CaseRanges", laid_unicode_CaseRanges), ("unicode/utf8.first", laid_unicode_utf8_first)], narrowed := true }
def AllocateEqualUptoSaid : Prop := allocateEqualUptoRow.holds Tryd.pinned (OpenSpec.upto allocateEqualSpec)

/-- 'chargenetlaw17.AllocateOne', WHERE WHAT IT READS IS OF BULK AT MOST 1048576: true; the input reads as it did. -/
def allocateOneUptoRow : OpenClaim := { program := "ytlpjniejbblcnaadoor", sum := "f25a75904d7e1d375163cf4d0abc773c1fe73f82ccfc8d22add3881df15fc931", func := "chargenet/chargenetlaw17.AllocateOne", spec := "allocateOne", inPlace := ["internal/abi.NoEscape", "internal/bytealg.MakeNoZero"], unfollowed := true, recurses := true, named := ["unicode/utf8.first", "unicode/utf8.acceptRanges", "unicode.CaseRanges"], apart := false, laid := [("unicode/utf8.acceptRanges", laid_unicode_utf8_acceptRanges), ("unicode.CaseRanges", laid_unicode_CaseRanges), ("unicode/utf8.first", laid_unicode_utf8_first)], narrowed := true }
def AllocateOneUptoSaid : Prop := allocateOneUptoRow.holds Tryd.pinned (OpenSpec.upto allocateOneSpec)

/-- 'chargenettop.AllocationsKeep', WHERE WHAT IT READS IS OF BULK AT MOST 1048576: true; the input reads as it did. -/
def allocationsKeepUptoRow : OpenClaim := { program := "ytlpjniejbblcnaadoor", sum := "f25a75904d7e1d375163cf4d0abc773c1fe73f82ccfc8d22add3881df15fc931", func := "chargenet/chargenettop.AllocationsKeep", spec := "allocationsKeep", inPlace := ["internal/abi.NoEscape", "internal/bytealg.MakeNoZero"], unfollowed := true, recurses := true, named := ["unicode/utf8.first", "unicode/utf8.acceptRanges", "unicode.CaseRanges", "chargenet/calendar.lengths"], apart := false, laid := [("chargenet/calendar.lengths", laid_chargenet_calendar_lengths), ("unicode/utf8.acceptRanges", laid_unicode_utf8_acceptRanges), ("unicode.CaseRanges", laid_unicode_CaseRanges), ("unicode/utf8.first", laid_unicode_utf8_first)], narrowed := true }
def AllocationsKeepUptoSaid : Prop := allocationsKeepUptoRow.holds Tryd.pinned (OpenSpec.upto allocationsKeepSpec)

end Rows
end Go.Proofs.YtlpjniejbblcnaaDoor
