/-
  NARROWER THAN 'FOR EVERY INPUT', by the rows' own cells (each row's printed sentence says how): WindowsDivide: laid · WindowValid: laid · WindowHolds: laid · WindowNext: laid · WindowSpans: laid · WindowConstant: laid · WindowCovers: laid · WindowDays: laid.
  DERIVED. THE GIVEN ROWS OF THIS SEAT. 8 by the template 'for every input the law returns true; each argument reads behind the call as it read before'; 0 by the template 'total and deterministic' (their statements: YtneoaakichcegaaDoorTotals.lean).
  GIVEN WITH THE SEED: the statements are not yours to turn. If you find one false, say at which input.
  Laid BY PROGRAM, IN A SANDBOX (cutbox-rows.mjs): the forced cells as the released guide's own fill.sh prints them over the translation 48bb88f2abea3b2c… (all of the seat's roots in one cut). By AI agents, Wed Nov 11 2026. No macro, syntax, notation, axiom, sorry.
-/
import Derived.Test.YtneoaakichcegaaDoorChecked
import GoSem.Claim
import GoSem.ClaimJoined
import GoSem.ClaimMapViews
import Derived.JoinedTies
import Derived.KernelRfl
namespace Go.Proofs.YtneoaakichcegaaDoor
/- THE CELL 'sum', in the pinned program and in every row, IS THE sha256 OF THE DUMP (.gsa) THAT YtneoaakichcegaaDoorProg.lean LOADS. Nothing in Lean hashes anything: it is a label: what it is worth is what the hold of that sum in a sandbox is worth. -/
noncomputable def Tryd.pinned : Pinned := { name := "ytneoaakichcegaadoor", sum := "48bb88f2abea3b2cbdb174388c9124703842223110ede532fd45fc593ba0076f", checked := Tryd.checked }
namespace Rows
def none {H : Type} : Left H := { results := [], args := [] }

/- WHAT THE LISTED PACKAGE-LEVEL VARIABLES READ AS WHEN THE CALL BEGINS. Each datum BY PROGRAM (the guide's laid-datum.mjs) off the statement by which the dump's own 'gosem.cut.vars' lays the variable. In a bare row this is a premise. The card (YtneoaakichcegaaDoorCards.lean) ties it to the program's text. -/
def laid_chargenet_calendar_lengths {H : Type} : DataW H := .agg [.lit (.int .i64 31), .lit (.int .i64 28), .lit (.int .i64 31), .lit (.int .i64 30), .lit (.int .i64 31), .lit (.int .i64 30), .lit (.int .i64 31), .lit (.int .i64 31), .lit (.int .i64 30), .lit (.int .i64 31), .lit (.int .i64 30), .lit (.int .i64 31)]

/-- 'chargenettop.WindowsDivide': WHATEVER THE INPUT: true; the input reads as it did. -/
def windowsDivideSpec : ChangeSpec := { name := "windowsDivide", fn := fun _ => fun
  | [d] => { results := [.lit (.bool true)], args := [d] }
  | _ => none }
def windowsDivideRow : OpenClaim := { program := "ytneoaakichcegaadoor", sum := "48bb88f2abea3b2cbdb174388c9124703842223110ede532fd45fc593ba0076f", func := "chargenet/chargenettop.WindowsDivide", spec := "windowsDivide", unfollowed := true, recurses := true, named := ["chargenet/calendar.lengths"], apart := false, laid := [("chargenet/calendar.lengths", laid_chargenet_calendar_lengths)] }
def WindowsDivideSaid : Prop := windowsDivideRow.holds Tryd.pinned (OpenSpec.ofChange windowsDivideSpec)

/-- ITS FALSE NEIGHBOUR: 'it returns false'. Refute it at one input. -/
def windowsDivideWrong : ChangeSpec := { name := "windowsDivide", fn := fun _ => fun
  | [d] => { results := [.lit (.bool false)], args := [d] }
  | _ => none }
def WindowsDivideWrongFalsely : Prop := windowsDivideRow.holds Tryd.pinned (OpenSpec.ofChange windowsDivideWrong)

/-- 'chargenetlaw05.WindowValid': WHATEVER THE INPUT: true; the input reads as it did. -/
def windowValidSpec : ChangeSpec := { name := "windowValid", fn := fun _ => fun
  | [d] => { results := [.lit (.bool true)], args := [d] }
  | _ => none }
def windowValidRow : OpenClaim := { program := "ytneoaakichcegaadoor", sum := "48bb88f2abea3b2cbdb174388c9124703842223110ede532fd45fc593ba0076f", func := "chargenet/chargenetlaw05.WindowValid", spec := "windowValid", unfollowed := true, recurses := true, named := ["chargenet/calendar.lengths"], apart := false, laid := [("chargenet/calendar.lengths", laid_chargenet_calendar_lengths)] }
def WindowValidSaid : Prop := windowValidRow.holds Tryd.pinned (OpenSpec.ofChange windowValidSpec)

/-- ITS FALSE NEIGHBOUR: 'it returns false'. Refute it at one input. -/
def windowValidWrong : ChangeSpec := { name := "windowValid", fn := fun _ => fun
  | [d] => { results := [.lit (.bool false)], args := [d] }
  | _ => none }
def WindowValidWrongFalsely : Prop := windowValidRow.holds Tryd.pinned (OpenSpec.ofChange windowValidWrong)

/-- 'chargenetlaw05.WindowHolds': WHATEVER THE INPUT: true; the input reads as it did. -/
def windowHoldsSpec : ChangeSpec := { name := "windowHolds", fn := fun _ => fun
  | [d1, d2, d3] => { results := [.lit (.bool true)], args := [d1, d2, d3] }
  | _ => none }
def windowHoldsRow : OpenClaim := { program := "ytneoaakichcegaadoor", sum := "48bb88f2abea3b2cbdb174388c9124703842223110ede532fd45fc593ba0076f", func := "chargenet/chargenetlaw05.WindowHolds", spec := "windowHolds", unfollowed := true, recurses := true, named := ["chargenet/calendar.lengths"], apart := false, laid := [("chargenet/calendar.lengths", laid_chargenet_calendar_lengths)] }
def WindowHoldsSaid : Prop := windowHoldsRow.holds Tryd.pinned (OpenSpec.ofChange windowHoldsSpec)

/-- ITS FALSE NEIGHBOUR: 'it returns false'. Refute it at one input. -/
def windowHoldsWrong : ChangeSpec := { name := "windowHolds", fn := fun _ => fun
  | [d1, d2, d3] => { results := [.lit (.bool false)], args := [d1, d2, d3] }
  | _ => none }
def WindowHoldsWrongFalsely : Prop := windowHoldsRow.holds Tryd.pinned (OpenSpec.ofChange windowHoldsWrong)

/-- 'chargenetlaw05.WindowNext': WHATEVER THE INPUT: true; the input reads as it did. -/
def windowNextSpec : ChangeSpec := { name := "windowNext", fn := fun _ => fun
  | [d1, d2, d3] => { results := [.lit (.bool true)], args := [d1, d2, d3] }
  | _ => none }
def windowNextRow : OpenClaim := { program := "ytneoaakichcegaadoor", sum := "48bb88f2abea3b2cbdb174388c9124703842223110ede532fd45fc593ba0076f", func := "chargenet/chargenetlaw05.WindowNext", spec := "windowNext", unfollowed := true, recurses := true, named := ["chargenet/calendar.lengths"], apart := false, laid := [("chargenet/calendar.lengths", laid_chargenet_calendar_lengths)] }
def WindowNextSaid : Prop := windowNextRow.holds Tryd.pinned (OpenSpec.ofChange windowNextSpec)

/-- ITS FALSE NEIGHBOUR: 'it returns false'. Refute it at one input. -/
def windowNextWrong : ChangeSpec := { name := "windowNext", fn := fun _ => fun
  | [d1, d2, d3] => { results := [.lit (.bool false)], args := [d1, d2, d3] }
  | _ => none }
def WindowNextWrongFalsely : Prop := windowNextRow.holds Tryd.pinned (OpenSpec.ofChange windowNextWrong)

/-- 'chargenetlaw05.WindowSpans': WHATEVER THE INPUT: true; the input reads as it did. -/
def windowSpansSpec : ChangeSpec := { name := "windowSpans", fn := fun _ => fun
  | [d1, d2, d3] => { results := [.lit (.bool true)], args := [d1, d2, d3] }
  | _ => none }
def windowSpansRow : OpenClaim := { program := "ytneoaakichcegaadoor", sum := "48bb88f2abea3b2cbdb174388c9124703842223110ede532fd45fc593ba0076f", func := "chargenet/chargenetlaw05.WindowSpans", spec := "windowSpans", unfollowed := true, recurses := true, named := ["chargenet/calendar.lengths"], apart := false, laid := [("chargenet/calendar.lengths", laid_chargenet_calendar_lengths)] }
def WindowSpansSaid : Prop := windowSpansRow.holds Tryd.pinned (OpenSpec.ofChange windowSpansSpec)

/-- ITS FALSE NEIGHBOUR: 'it returns false'. Refute it at one input. -/
def windowSpansWrong : ChangeSpec := { name := "windowSpans", fn := fun _ => fun
  | [d1, d2, d3] => { results := [.lit (.bool false)], args := [d1, d2, d3] }
  | _ => none }
def WindowSpansWrongFalsely : Prop := windowSpansRow.holds Tryd.pinned (OpenSpec.ofChange windowSpansWrong)

/-- 'chargenetlaw05.WindowConstant': WHATEVER THE INPUT: true; the input reads as it did. -/
def windowConstantSpec : ChangeSpec := { name := "windowConstant", fn := fun _ => fun
  | [d1, d2, d3] => { results := [.lit (.bool true)], args := [d1, d2, d3] }
  | _ => none }
def windowConstantRow : OpenClaim := { program := "ytneoaakichcegaadoor", sum := "48bb88f2abea3b2cbdb174388c9124703842223110ede532fd45fc593ba0076f", func := "chargenet/chargenetlaw05.WindowConstant", spec := "windowConstant", unfollowed := true, recurses := true, named := ["chargenet/calendar.lengths"], apart := false, laid := [("chargenet/calendar.lengths", laid_chargenet_calendar_lengths)] }
def WindowConstantSaid : Prop := windowConstantRow.holds Tryd.pinned (OpenSpec.ofChange windowConstantSpec)

/-- ITS FALSE NEIGHBOUR: 'it returns false'. Refute it at one input. -/
def windowConstantWrong : ChangeSpec := { name := "windowConstant", fn := fun _ => fun
  | [d1, d2, d3] => { results := [.lit (.bool false)], args := [d1, d2, d3] }
  | _ => none }
def WindowConstantWrongFalsely : Prop := windowConstantRow.holds Tryd.pinned (OpenSpec.ofChange windowConstantWrong)

/-- 'chargenetlaw05.WindowCovers': WHATEVER THE INPUT: true; the input reads as it did. -/
def windowCoversSpec : ChangeSpec := { name := "windowCovers", fn := fun _ => fun
  | [d1, d2, d3] => { results := [.lit (.bool true)], args := [d1, d2, d3] }
  | _ => none }
def windowCoversRow : OpenClaim := { program := "ytneoaakichcegaadoor", sum := "48bb88f2abea3b2cbdb174388c9124703842223110ede532fd45fc593ba0076f", func := "chargenet/chargenetlaw05.WindowCovers", spec := "windowCovers", unfollowed := true, recurses := true, named := ["chargenet/calendar.lengths"], apart := false, laid := [("chargenet/calendar.lengths", laid_chargenet_calendar_lengths)] }
def WindowCoversSaid : Prop := windowCoversRow.holds Tryd.pinned (OpenSpec.ofChange windowCoversSpec)

/-- ITS FALSE NEIGHBOUR: 'it returns false'. Refute it at one input. -/
def windowCoversWrong : ChangeSpec := { name := "windowCovers", fn := fun _ => fun
  | [d1, d2, d3] => { results := [.lit (.bool false)], args := [d1, d2, d3] }
  | _ => none }
def WindowCoversWrongFalsely : Prop := windowCoversRow.holds Tryd.pinned (OpenSpec.ofChange windowCoversWrong)

/-- 'chargenetlaw05.WindowDays': WHATEVER THE INPUT: true; the input reads as it did. -/
def windowDaysSpec : ChangeSpec := { name := "windowDays", fn := fun _ => fun
  | [d1, d2, d3] => { results := [.lit (.bool true)], args := [d1, d2, d3] }
  | _ => none }
def windowDaysRow : OpenClaim := { program := "ytneoaakichcegaadoor", sum := "48bb88f2abea3b2cbdb174388c9124703842223110ede532fd45fc593ba0076f", func := "chargenet/chargenetlaw05.WindowDays", spec := "windowDays", unfollowed := true, recurses := true, named := ["chargenet/calendar.lengths"], apart := false, laid := [("chargenet/calendar.lengths", laid_chargenet_calendar_lengths)] }
def WindowDaysSaid : Prop := windowDaysRow.holds Tryd.pinned (OpenSpec.ofChange windowDaysSpec)

/-- ITS FALSE NEIGHBOUR: 'it returns false'. Refute it at one input. -/
def windowDaysWrong : ChangeSpec := { name := "windowDays", fn := fun _ => fun
  | [d1, d2, d3] => { results := [.lit (.bool false)], args := [d1, d2, d3] }
  | _ => none }
def WindowDaysWrongFalsely : Prop := windowDaysRow.holds Tryd.pinned (OpenSpec.ofChange windowDaysWrong)

/- THE SECOND FORM. 'bulk': how many values and letters a reading holds, each counted each time it is reached (what is shared counts as often as it is met; a slice's spare places count too). A statement '..UptoSaid' is the law's where the arguments, and the package variables that the reading takes, are together of bulk at most 1048576: NARROWER than '..Said'. Prove '..Said' where nothing that the law and all that it calls make is longer than what came in: it says more and counts as full. Else prove '..UptoSaid'. A law counts once. -/
mutual
def uptoBulk {H : Type} : DataW H → Nat
  | .lit (.string bytes) => bytes.length + 1
  | .lit _ => 1
  | .nil => 1
  | .ptr d => uptoBulk d + 1
  | .slice elems spare => uptoBulkAll elems + uptoBulkAll spare + 1
  | .agg parts => uptoBulkAll parts + 1
  | .iface _ d => uptoBulk d + 1
  | .map entries => uptoBulkEntries entries + 1
  | .held _ => 1
def uptoBulkAll {H : Type} : List (DataW H) → Nat
  | [] => 0
  | d :: r => uptoBulk d + uptoBulkAll r
def uptoBulkEntries {H : Type} : List (Lit × DataW H) → Nat
  | [] => 0
  | x :: r => uptoBulkEntry x + uptoBulkEntries r
def uptoBulkEntry {H : Type} : Lit × DataW H → Nat
  | (.string bytes, d) => bytes.length + uptoBulk d + 1
  | (_, d) => uptoBulk d + 1
 end
def uptoSmall : (H : Type) → List (DataW H) → Bool := fun _ ds => decide (uptoBulkAll ds ≤ 1048576)
def OpenSpec.upto (s : _root_.Go.ChangeSpec) : _root_.Go.OpenSpec := { _root_.Go.OpenSpec.ofChange s with cond := some uptoSmall }

/-- 'chargenettop.WindowsDivide', WHERE WHAT IT READS IS OF BULK AT MOST 1048576: true; the input reads as it did. -/
def windowsDivideUptoRow : OpenClaim := { program := "ytneoaakichcegaadoor", sum := "48bb88f2abea3b2cbdb174388c9124703842223110ede532fd45fc593ba0076f", func := "chargenet/chargenettop.WindowsDivide", spec := "windowsDivide", unfollowed := true, recurses := true, named := ["chargenet/calendar.lengths"], apart := false, laid := [("chargenet/calendar.lengths", laid_chargenet_calendar_lengths)], narrowed := true }
def WindowsDivideUptoSaid : Prop := windowsDivideUptoRow.holds Tryd.pinned (OpenSpec.upto windowsDivideSpec)

/-- 'chargenetlaw05.WindowValid', WHERE WHAT IT READS IS OF BULK AT MOST 1048576: true; the input reads as it did. -/
def windowValidUptoRow : OpenClaim := { program := "ytneoaakichcegaadoor", sum := "48bb88f2abea3b2cbdb174388c9124703842223110ede532fd45fc593ba0076f", func := "chargenet/chargenetlaw05.WindowValid", spec := "windowValid", unfollowed := true, recurses := true, named := ["chargenet/calendar.lengths"], apart := false, laid := [("chargenet/calendar.lengths", laid_chargenet_calendar_lengths)], narrowed := true }
def WindowValidUptoSaid : Prop := windowValidUptoRow.holds Tryd.pinned (OpenSpec.upto windowValidSpec)

/-- 'chargenetlaw05.WindowHolds', WHERE WHAT IT READS IS OF BULK AT MOST 1048576: true; the input reads as it did. -/
def windowHoldsUptoRow : OpenClaim := { program := "ytneoaakichcegaadoor", sum := "48bb88f2abea3b2cbdb174388c9124703842223110ede532fd45fc593ba0076f", func := "chargenet/chargenetlaw05.WindowHolds", spec := "windowHolds", unfollowed := true, recurses := true, named := ["chargenet/calendar.lengths"], apart := false, laid := [("chargenet/calendar.lengths", laid_chargenet_calendar_lengths)], narrowed := true }
def WindowHoldsUptoSaid : Prop := windowHoldsUptoRow.holds Tryd.pinned (OpenSpec.upto windowHoldsSpec)

/-- 'chargenetlaw05.WindowNext', WHERE WHAT IT READS IS OF BULK AT MOST 1048576: true; the input reads as it did. -/
def windowNextUptoRow : OpenClaim := { program := "ytneoaakichcegaadoor", sum := "48bb88f2abea3b2cbdb174388c9124703842223110ede532fd45fc593ba0076f", func := "chargenet/chargenetlaw05.WindowNext", spec := "windowNext", unfollowed := true, recurses := true, named := ["chargenet/calendar.lengths"], apart := false, laid := [("chargenet/calendar.lengths", laid_chargenet_calendar_lengths)], narrowed := true }
def WindowNextUptoSaid : Prop := windowNextUptoRow.holds Tryd.pinned (OpenSpec.upto windowNextSpec)

/-- 'chargenetlaw05.WindowSpans', WHERE WHAT IT READS IS OF BULK AT MOST 1048576: true; the input reads as it did. -/
def windowSpansUptoRow : OpenClaim := { program := "ytneoaakichcegaadoor", sum := "48bb88f2abea3b2cbdb174388c9124703842223110ede532fd45fc593ba0076f", func := "chargenet/chargenetlaw05.WindowSpans", spec := "windowSpans", unfollowed := true, recurses := true, named := ["chargenet/calendar.lengths"], apart := false, laid := [("chargenet/calendar.lengths", laid_chargenet_calendar_lengths)], narrowed := true }
def WindowSpansUptoSaid : Prop := windowSpansUptoRow.holds Tryd.pinned (OpenSpec.upto windowSpansSpec)

/-- 'chargenetlaw05.WindowConstant', WHERE WHAT IT READS IS OF BULK AT MOST 1048576: true; the input reads as it did. -/
def windowConstantUptoRow : OpenClaim := { program := "ytneoaakichcegaadoor", sum := "48bb88f2abea3b2cbdb174388c9124703842223110ede532fd45fc593ba0076f", func := "chargenet/chargenetlaw05.WindowConstant", spec := "windowConstant", unfollowed := true, recurses := true, named := ["chargenet/calendar.lengths"], apart := false, laid := [("chargenet/calendar.lengths", laid_chargenet_calendar_lengths)], narrowed := true }
def WindowConstantUptoSaid : Prop := windowConstantUptoRow.holds Tryd.pinned (OpenSpec.upto windowConstantSpec)

/-- 'chargenetlaw05.WindowCovers', WHERE WHAT IT READS IS OF BULK AT MOST 1048576: true; the input reads as it did. -/
def windowCoversUptoRow : OpenClaim := { program := "ytneoaakichcegaadoor", sum := "48bb88f2abea3b2cbdb174388c9124703842223110ede532fd45fc593ba0076f", func := "chargenet/chargenetlaw05.WindowCovers", spec := "windowCovers", unfollowed := true, recurses := true, named := ["chargenet/calendar.lengths"], apart := false, laid := [("chargenet/calendar.lengths", laid_chargenet_calendar_lengths)], narrowed := true }
def WindowCoversUptoSaid : Prop := windowCoversUptoRow.holds Tryd.pinned (OpenSpec.upto windowCoversSpec)

/-- 'chargenetlaw05.WindowDays', WHERE WHAT IT READS IS OF BULK AT MOST 1048576: true; the input reads as it did. -/
def windowDaysUptoRow : OpenClaim := { program := "ytneoaakichcegaadoor", sum := "48bb88f2abea3b2cbdb174388c9124703842223110ede532fd45fc593ba0076f", func := "chargenet/chargenetlaw05.WindowDays", spec := "windowDays", unfollowed := true, recurses := true, named := ["chargenet/calendar.lengths"], apart := false, laid := [("chargenet/calendar.lengths", laid_chargenet_calendar_lengths)], narrowed := true }
def WindowDaysUptoSaid : Prop := windowDaysUptoRow.holds Tryd.pinned (OpenSpec.upto windowDaysSpec)

end Rows
end Go.Proofs.YtneoaakichcegaaDoor
