/-
  NARROWER THAN 'FOR EVERY INPUT', by the rows' own cells (each row's printed sentence says how): WindowsDivide: laid · ContractValids: laid · ContractAts: laid · ContractNexts: laid · ContractHolds: laid · ContractSteps: laid · ContractOwn: laid.
  DERIVED. THE GIVEN ROWS OF THIS SEAT. 7 by the template 'for every input the law returns true; each argument reads behind the call as it read before'; 0 by the template 'total and deterministic' (their statements: YtpknjblgbpndlaaDoorTotals.lean).
  GIVEN WITH THE SEED: the statements are not yours to turn. If you find one false, say at which input.
  Laid BY PROGRAM, IN A SANDBOX (cutbox-rows.mjs): the forced cells as the released guide's own fill.sh prints them over the translation f218648528d36a32… (all of the seat's roots in one cut). By AI agents, Wed Nov 11 2026. No macro, syntax, notation, axiom, sorry.
-/
import Derived.Test.YtpknjblgbpndlaaDoorChecked
import GoSem.Claim
import GoSem.ClaimJoined
import GoSem.ClaimMapViews
import Derived.JoinedTies
import Derived.KernelRfl
namespace Go.Proofs.YtpknjblgbpndlaaDoor
/- THE CELL 'sum', in the pinned program and in every row, IS THE sha256 OF THE DUMP (.gsa) THAT YtpknjblgbpndlaaDoorProg.lean LOADS. Nothing in Lean hashes anything: it is a label: what it is worth is what the hold of that sum in a sandbox is worth. -/
noncomputable def Tryd.pinned : Pinned := { name := "ytpknjblgbpndlaadoor", sum := "f218648528d36a32608ee90c6992bb9f0ab33538aeb17b3e698d0d6ef0c3ed72", checked := Tryd.checked }
namespace Rows
def none {H : Type} : Left H := { results := [], args := [] }

/- WHAT THE LISTED PACKAGE-LEVEL VARIABLES READ AS WHEN THE CALL BEGINS. Each datum BY PROGRAM (the guide's laid-datum.mjs) off the statement by which the dump's own 'gosem.cut.vars' lays the variable. In a bare row this is a premise. The card (YtpknjblgbpndlaaDoorCards.lean) ties it to the program's text. -/
def laid_chargenet_calendar_lengths {H : Type} : DataW H := .agg [.lit (.int .i64 31), .lit (.int .i64 28), .lit (.int .i64 31), .lit (.int .i64 30), .lit (.int .i64 31), .lit (.int .i64 30), .lit (.int .i64 31), .lit (.int .i64 31), .lit (.int .i64 30), .lit (.int .i64 31), .lit (.int .i64 30), .lit (.int .i64 31)]

/-- 'chargenettop.WindowsDivide': WHATEVER THE INPUT: true; the input reads as it did. -/
def windowsDivideSpec : ChangeSpec := { name := "windowsDivide", fn := fun _ => fun
  | [d] => { results := [.lit (.bool true)], args := [d] }
  | _ => none }
def windowsDivideRow : OpenClaim := { program := "ytpknjblgbpndlaadoor", sum := "f218648528d36a32608ee90c6992bb9f0ab33538aeb17b3e698d0d6ef0c3ed72", func := "chargenet/chargenettop.WindowsDivide", spec := "windowsDivide", unfollowed := true, recurses := true, named := ["chargenet/calendar.lengths"], apart := false, laid := [("chargenet/calendar.lengths", laid_chargenet_calendar_lengths)] }
def WindowsDivideSaid : Prop := windowsDivideRow.holds Tryd.pinned (OpenSpec.ofChange windowsDivideSpec)

/-- ITS FALSE NEIGHBOUR: 'it returns false'. Refute it at one input. -/
def windowsDivideWrong : ChangeSpec := { name := "windowsDivide", fn := fun _ => fun
  | [d] => { results := [.lit (.bool false)], args := [d] }
  | _ => none }
def WindowsDivideWrongFalsely : Prop := windowsDivideRow.holds Tryd.pinned (OpenSpec.ofChange windowsDivideWrong)

/-- 'chargenetlaw12.ContractValids': WHATEVER THE INPUT: true; the input reads as it did. -/
def contractValidsSpec : ChangeSpec := { name := "contractValids", fn := fun _ => fun
  | [d1, d2] => { results := [.lit (.bool true)], args := [d1, d2] }
  | _ => none }
def contractValidsRow : OpenClaim := { program := "ytpknjblgbpndlaadoor", sum := "f218648528d36a32608ee90c6992bb9f0ab33538aeb17b3e698d0d6ef0c3ed72", func := "chargenet/chargenetlaw12.ContractValids", spec := "contractValids", unfollowed := true, recurses := true, named := ["chargenet/calendar.lengths"], apart := false, laid := [("chargenet/calendar.lengths", laid_chargenet_calendar_lengths)] }
def ContractValidsSaid : Prop := contractValidsRow.holds Tryd.pinned (OpenSpec.ofChange contractValidsSpec)

/-- ITS FALSE NEIGHBOUR: 'it returns false'. Refute it at one input. -/
def contractValidsWrong : ChangeSpec := { name := "contractValids", fn := fun _ => fun
  | [d1, d2] => { results := [.lit (.bool false)], args := [d1, d2] }
  | _ => none }
def ContractValidsWrongFalsely : Prop := contractValidsRow.holds Tryd.pinned (OpenSpec.ofChange contractValidsWrong)

/-- 'chargenetlaw12.ContractAts': WHATEVER THE INPUT: true; the input reads as it did. -/
def contractAtsSpec : ChangeSpec := { name := "contractAts", fn := fun _ => fun
  | [d1, d2, d3, d4] => { results := [.lit (.bool true)], args := [d1, d2, d3, d4] }
  | _ => none }
def contractAtsRow : OpenClaim := { program := "ytpknjblgbpndlaadoor", sum := "f218648528d36a32608ee90c6992bb9f0ab33538aeb17b3e698d0d6ef0c3ed72", func := "chargenet/chargenetlaw12.ContractAts", spec := "contractAts", unfollowed := true, recurses := true, named := ["chargenet/calendar.lengths"], apart := false, laid := [("chargenet/calendar.lengths", laid_chargenet_calendar_lengths)] }
def ContractAtsSaid : Prop := contractAtsRow.holds Tryd.pinned (OpenSpec.ofChange contractAtsSpec)

/-- ITS FALSE NEIGHBOUR: 'it returns false'. Refute it at one input. -/
def contractAtsWrong : ChangeSpec := { name := "contractAts", fn := fun _ => fun
  | [d1, d2, d3, d4] => { results := [.lit (.bool false)], args := [d1, d2, d3, d4] }
  | _ => none }
def ContractAtsWrongFalsely : Prop := contractAtsRow.holds Tryd.pinned (OpenSpec.ofChange contractAtsWrong)

/-- 'chargenetlaw12.ContractNexts': WHATEVER THE INPUT: true; the input reads as it did. -/
def contractNextsSpec : ChangeSpec := { name := "contractNexts", fn := fun _ => fun
  | [d1, d2, d3] => { results := [.lit (.bool true)], args := [d1, d2, d3] }
  | _ => none }
def contractNextsRow : OpenClaim := { program := "ytpknjblgbpndlaadoor", sum := "f218648528d36a32608ee90c6992bb9f0ab33538aeb17b3e698d0d6ef0c3ed72", func := "chargenet/chargenetlaw12.ContractNexts", spec := "contractNexts", unfollowed := true, recurses := true, named := ["chargenet/calendar.lengths"], apart := false, laid := [("chargenet/calendar.lengths", laid_chargenet_calendar_lengths)] }
def ContractNextsSaid : Prop := contractNextsRow.holds Tryd.pinned (OpenSpec.ofChange contractNextsSpec)

/-- ITS FALSE NEIGHBOUR: 'it returns false'. Refute it at one input. -/
def contractNextsWrong : ChangeSpec := { name := "contractNexts", fn := fun _ => fun
  | [d1, d2, d3] => { results := [.lit (.bool false)], args := [d1, d2, d3] }
  | _ => none }
def ContractNextsWrongFalsely : Prop := contractNextsRow.holds Tryd.pinned (OpenSpec.ofChange contractNextsWrong)

/-- 'chargenetlaw12.ContractHolds': WHATEVER THE INPUT: true; the input reads as it did. -/
def contractHoldsSpec : ChangeSpec := { name := "contractHolds", fn := fun _ => fun
  | [d1, d2, d3, d4] => { results := [.lit (.bool true)], args := [d1, d2, d3, d4] }
  | _ => none }
def contractHoldsRow : OpenClaim := { program := "ytpknjblgbpndlaadoor", sum := "f218648528d36a32608ee90c6992bb9f0ab33538aeb17b3e698d0d6ef0c3ed72", func := "chargenet/chargenetlaw12.ContractHolds", spec := "contractHolds", unfollowed := true, recurses := true, named := ["chargenet/calendar.lengths"], apart := false, laid := [("chargenet/calendar.lengths", laid_chargenet_calendar_lengths)] }
def ContractHoldsSaid : Prop := contractHoldsRow.holds Tryd.pinned (OpenSpec.ofChange contractHoldsSpec)

/-- ITS FALSE NEIGHBOUR: 'it returns false'. Refute it at one input. -/
def contractHoldsWrong : ChangeSpec := { name := "contractHolds", fn := fun _ => fun
  | [d1, d2, d3, d4] => { results := [.lit (.bool false)], args := [d1, d2, d3, d4] }
  | _ => none }
def ContractHoldsWrongFalsely : Prop := contractHoldsRow.holds Tryd.pinned (OpenSpec.ofChange contractHoldsWrong)

/-- 'chargenetlaw12.ContractSteps': WHATEVER THE INPUT: true; the input reads as it did. -/
def contractStepsSpec : ChangeSpec := { name := "contractSteps", fn := fun _ => fun
  | [d1, d2] => { results := [.lit (.bool true)], args := [d1, d2] }
  | _ => none }
def contractStepsRow : OpenClaim := { program := "ytpknjblgbpndlaadoor", sum := "f218648528d36a32608ee90c6992bb9f0ab33538aeb17b3e698d0d6ef0c3ed72", func := "chargenet/chargenetlaw12.ContractSteps", spec := "contractSteps", unfollowed := true, recurses := true, named := ["chargenet/calendar.lengths"], apart := false, laid := [("chargenet/calendar.lengths", laid_chargenet_calendar_lengths)] }
def ContractStepsSaid : Prop := contractStepsRow.holds Tryd.pinned (OpenSpec.ofChange contractStepsSpec)

/-- ITS FALSE NEIGHBOUR: 'it returns false'. Refute it at one input. -/
def contractStepsWrong : ChangeSpec := { name := "contractSteps", fn := fun _ => fun
  | [d1, d2] => { results := [.lit (.bool false)], args := [d1, d2] }
  | _ => none }
def ContractStepsWrongFalsely : Prop := contractStepsRow.holds Tryd.pinned (OpenSpec.ofChange contractStepsWrong)

/-- 'chargenetlaw12.ContractOwn': WHATEVER THE INPUT: true; the input reads as it did. -/
def contractOwnSpec : ChangeSpec := { name := "contractOwn", fn := fun _ => fun
  | [d1, d2, d3, d4] => { results := [.lit (.bool true)], args := [d1, d2, d3, d4] }
  | _ => none }
def contractOwnRow : OpenClaim := { program := "ytpknjblgbpndlaadoor", sum := "f218648528d36a32608ee90c6992bb9f0ab33538aeb17b3e698d0d6ef0c3ed72", func := "chargenet/chargenetlaw12.ContractOwn", spec := "contractOwn", unfollowed := true, recurses := true, named := ["chargenet/calendar.lengths"], apart := false, laid := [("chargenet/calendar.lengths", laid_chargenet_calendar_lengths)] }
def ContractOwnSaid : Prop := contractOwnRow.holds Tryd.pinned (OpenSpec.ofChange contractOwnSpec)

/-- ITS FALSE NEIGHBOUR: 'it returns false'. Refute it at one input. -/
def contractOwnWrong : ChangeSpec := { name := "contractOwn", fn := fun _ => fun
  | [d1, d2, d3, d4] => { results := [.lit (.bool false)], args := [d1, d2, d3, d4] }
  | _ => none }
def ContractOwnWrongFalsely : Prop := contractOwnRow.holds Tryd.pinned (OpenSpec.ofChange contractOwnWrong)

/- THE SECOND FORM. 'bulk': how many values and letters a reading holds, each counted each time it is reached (what is shared counts as often as it is met; a slice's spare places count too). A statement '..UptoSaid' is the law's where the arguments, and the package variables that the reading takes, are together of bulk at most 1048576: NARROWER than '..Said'. Prove '..Said' where nothing that the law and all that it calls make is longer than what came in: it says more and counts as full. Else prove '..UptoSaid'. A law counts once. -/
mutual
def uptoBulk {H : Type} : DataW H → Nat
  | .lit (.string bytes) => bytes.length + 1
  | .lit _ => 1
  | .nil => 1
  | .ptr d => uptoBulk d + 1
  | .slice elems spare => uptoBulkAll elems + uptoBulkAll spare + 1
  | .agg parts => uptoBulkAll parts + 1
  | .iface _ d => uptoBulk d + 1
  | .map entries => uptoBulkEntries entries + 1
  | .held _ => 1
def uptoBulkAll {H : Type} : List (DataW H) → Nat
  | [] => 0
  | d :: r => uptoBulk d + uptoBulkAll r
def uptoBulkEntries {H : Type} : List (Lit × DataW H) → Nat
  | [] => 0
  | x :: r => uptoBulkEntry x + uptoBulkEntries r
def uptoBulkEntry {H : Type} : Lit × DataW H → Nat
  | (.string bytes, d) => bytes.length + uptoBulk d + 1
  | (_, d) => uptoBulk d + 1
 end
def uptoSmall : (H : Type) → List (DataW H) → Bool := fun _ ds => decide (uptoBulkAll ds ≤ 1048576)
def OpenSpec.upto (s : _root_.Go.ChangeSpec) : _root_.Go.OpenSpec := { _root_.Go.OpenSpec.ofChange s with cond := some uptoSmall }

/-- 'chargenettop.WindowsDivide', WHERE WHAT IT READS IS OF BULK AT MOST 1048576: true; the input reads as it did. -/
def windowsDivideUptoRow : OpenClaim := { program := "ytpknjblgbpndlaadoor", sum := "f218648528d36a32608ee90c6992bb9f0ab33538aeb17b3e698d0d6ef0c3ed72", func := "chargenet/chargenettop.WindowsDivide", spec := "windowsDivide", unfollowed := true, recurses := true, named := ["chargenet/calendar.lengths"], apart := false, laid := [("chargenet/calendar.lengths", laid_chargenet_calendar_lengths)], narrowed := true }
def WindowsDivideUptoSaid : Prop := windowsDivideUptoRow.holds Tryd.pinned (OpenSpec.upto windowsDivideSpec)

/-- 'chargenetlaw12.ContractValids', WHERE WHAT IT READS IS OF BULK AT MOST 1048576: true; the input reads as it did. -/
def contractValidsUptoRow : OpenClaim := { program := "ytpknjblgbpndlaadoor", sum := "f218648528d36a32608ee90c6992bb9f0ab33538aeb17b3e698d0d6ef0c3ed72", func := "chargenet/chargenetlaw12.ContractValids", spec := "contractValids", unfollowed := true, recurses := true, named := ["chargenet/calendar.lengths"], apart := false, laid := [("chargenet/calendar.lengths", laid_chargenet_calendar_lengths)], narrowed := true }
def ContractValidsUptoSaid : Prop := contractValidsUptoRow.holds Tryd.pinned (OpenSpec.upto contractValidsSpec)

/-- 'chargenetlaw12.ContractAts', WHERE WHAT IT READS IS OF BULK AT MOST 1048576: true; the input reads as it did. -/
def contractAtsUptoRow : OpenClaim := { program := "ytpknjblgbpndlaadoor", sum := "f218648528d36a32608ee90c6992bb9f0ab33538aeb17b3e698d0d6ef0c3ed72", func := "chargenet/chargenetlaw12.ContractAts", spec := "contractAts", unfollowed := true, recurses := true, named := ["chargenet/calendar.lengths"], apart := false, laid := [("chargenet/calendar.lengths", laid_chargenet_calendar_lengths)], narrowed := true }
def ContractAtsUptoSaid : Prop := contractAtsUptoRow.holds Tryd.pinned (OpenSpec.upto contractAtsSpec)

/-- 'chargenetlaw12.ContractNexts', WHERE WHAT IT READS IS OF BULK AT MOST 1048576: true; the input reads as it did. -/
def contractNextsUptoRow : OpenClaim := { program := "ytpknjblgbpndlaadoor", sum := "f218648528d36a32608ee90c6992bb9f0ab33538aeb17b3e698d0d6ef0c3ed72", func := "chargenet/chargenetlaw12.ContractNexts", spec := "contractNexts", unfollowed := true, recurses := true, named := ["chargenet/calendar.lengths"], apart := false, laid := [("chargenet/calendar.lengths", laid_chargenet_calendar_lengths)], narrowed := true }
def ContractNextsUptoSaid : Prop := contractNextsUptoRow.holds Tryd.pinned (OpenSpec.upto contractNextsSpec)

/-- 'chargenetlaw12.ContractHolds', WHERE WHAT IT READS IS OF BULK AT MOST 1048576: true; the input reads as it did. -/
def contractHoldsUptoRow : OpenClaim := { program := "ytpknjblgbpndlaadoor", sum := "f218648528d36a32608ee90c6992bb9f0ab33538aeb17b3e698d0d6ef0c3ed72", func := "chargenet/chargenetlaw12.ContractHolds", spec := "contractHolds", unfollowed := true, recurses := true, named := ["chargenet/calendar.lengths"], apart := false, laid := [("chargenet/calendar.lengths", laid_chargenet_calendar_lengths)], narrowed := true }
def ContractHoldsUptoSaid : Prop := contractHoldsUptoRow.holds Tryd.pinned (OpenSpec.upto contractHoldsSpec)

/-- 'chargenetlaw12.ContractSteps', WHERE WHAT IT READS IS OF BULK AT MOST 1048576: true; the input reads as it did. -/
def contractStepsUptoRow : OpenClaim := { program := "ytpknjblgbpndlaadoor", sum := "f218648528d36a32608ee90c6992bb9f0ab33538aeb17b3e698d0d6ef0c3ed72", func := "chargenet/chargenetlaw12.ContractSteps", spec := "contractSteps", unfollowed := true, recurses := true, named := ["chargenet/calendar.lengths"], apart := false, laid := [("chargenet/calendar.lengths", laid_chargenet_calendar_lengths)], narrowed := true }
def ContractStepsUptoSaid : Prop := contractStepsUptoRow.holds Tryd.pinned (OpenSpec.upto contractStepsSpec)

/-- 'chargenetlaw12.ContractOwn', WHERE WHAT IT READS IS OF BULK AT MOST 1048576: true; the input reads as it did. -/
def contractOwnUptoRow : OpenClaim := { program := "ytpknjblgbpndlaadoor", sum := "f218648528d36a32608ee90c6992bb9f0ab33538aeb17b3e698d0d6ef0c3ed72", func := "chargenet/chargenetlaw12.ContractOwn", spec := "contractOwn", unfollowed := true, recurses := true, named := ["chargenet/calendar.lengths"], apart := false, laid := [("chargenet/calendar.lengths", laid_chargenet_calendar_lengths)], narrowed := true }
def ContractOwnUptoSaid : Prop := contractOwnUptoRow.holds Tryd.pinned (OpenSpec.upto contractOwnSpec)

end Rows
end Go.Proofs.YtpknjblgbpndlaaDoor
