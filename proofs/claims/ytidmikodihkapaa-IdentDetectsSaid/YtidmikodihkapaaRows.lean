/-
  No cell of these rows narrows 'for every input' (looked for: loops, veiled, ifaces, maps, wideKeys, modest, calm, conditions, laid).
  DERIVED. THE GIVEN ROWS OF THIS SEAT. 6 by the template 'for every input the law returns true; each argument reads behind the call as it read before'; 0 by the template 'total and deterministic' (their statements: YtidmikodihkapaaTotals.lean).
  GIVEN WITH THE SEED: the statements are not yours to turn. If you find one false, say at which input.
  Laid BY PROGRAM, IN A SANDBOX (cutbox-rows.mjs): the forced cells as the released guide's own fill.sh prints them over the translation 1f21e0cea024a7b7… (all of the seat's roots in one cut). By AI agents, Wed Nov 11 2026. No macro, syntax, notation, axiom, sorry.
-/
import Derived.Test.YtidmikodihkapaaChecked
import GoSem.Claim
import GoSem.ClaimJoined
import GoSem.ClaimMapViews
import Derived.JoinedTies
import Derived.KernelRfl
namespace Go.Proofs.Ytidmikodihkapaa
/- THE CELL 'sum', in the pinned program and in every row, IS THE sha256 OF THE DUMP (.gsa) THAT YtidmikodihkapaaProg.lean LOADS. Nothing in Lean hashes anything: it is a label: what it is worth is what the hold of that sum in a sandbox is worth. -/
noncomputable def Try.pinned : Pinned := { name := "ytidmikodihkapaa", sum := "1f21e0cea024a7b71cda2d4191afcce095d901b38c9059640342756bbd443551", checked := Try.checked }
namespace Rows
def none {H : Type} : Left H := { results := [], args := [] }

/-- 'chargenetlaw01.IdentValid': WHATEVER THE INPUT: true; the input reads as it did. -/
def identValidSpec : ChangeSpec := { name := "identValid", fn := fun _ => fun
  | [d] => { results := [.lit (.bool true)], args := [d] }
  | _ => none }
def identValidRow : OpenClaim := { program := "ytidmikodihkapaa", sum := "1f21e0cea024a7b71cda2d4191afcce095d901b38c9059640342756bbd443551", func := "chargenet/chargenetlaw01.IdentValid", spec := "identValid", apart := false }
def IdentValidSaid : Prop := identValidRow.holds Try.pinned (OpenSpec.ofChange identValidSpec)

/-- ITS FALSE NEIGHBOUR: 'it returns false'. Refute it at one input. -/
def identValidWrong : ChangeSpec := { name := "identValid", fn := fun _ => fun
  | [d] => { results := [.lit (.bool false)], args := [d] }
  | _ => none }
def IdentValidWrongFalsely : Prop := identValidRow.holds Try.pinned (OpenSpec.ofChange identValidWrong)

/-- 'chargenetlaw01.IdentCheck': WHATEVER THE INPUT: true; the input reads as it did. -/
def identCheckSpec : ChangeSpec := { name := "identCheck", fn := fun _ => fun
  | [d] => { results := [.lit (.bool true)], args := [d] }
  | _ => none }
def identCheckRow : OpenClaim := { program := "ytidmikodihkapaa", sum := "1f21e0cea024a7b71cda2d4191afcce095d901b38c9059640342756bbd443551", func := "chargenet/chargenetlaw01.IdentCheck", spec := "identCheck", apart := false }
def IdentCheckSaid : Prop := identCheckRow.holds Try.pinned (OpenSpec.ofChange identCheckSpec)

/-- ITS FALSE NEIGHBOUR: 'it returns false'. Refute it at one input. -/
def identCheckWrong : ChangeSpec := { name := "identCheck", fn := fun _ => fun
  | [d] => { results := [.lit (.bool false)], args := [d] }
  | _ => none }
def IdentCheckWrongFalsely : Prop := identCheckRow.holds Try.pinned (OpenSpec.ofChange identCheckWrong)

/-- 'chargenetlaw01.IdentMake': WHATEVER THE INPUT: true; the input reads as it did. -/
def identMakeSpec : ChangeSpec := { name := "identMake", fn := fun _ => fun
  | [d1, d2, d3] => { results := [.lit (.bool true)], args := [d1, d2, d3] }
  | _ => none }
def identMakeRow : OpenClaim := { program := "ytidmikodihkapaa", sum := "1f21e0cea024a7b71cda2d4191afcce095d901b38c9059640342756bbd443551", func := "chargenet/chargenetlaw01.IdentMake", spec := "identMake", apart := false }
def IdentMakeSaid : Prop := identMakeRow.holds Try.pinned (OpenSpec.ofChange identMakeSpec)

/-- ITS FALSE NEIGHBOUR: 'it returns false'. Refute it at one input. -/
def identMakeWrong : ChangeSpec := { name := "identMake", fn := fun _ => fun
  | [d1, d2, d3] => { results := [.lit (.bool false)], args := [d1, d2, d3] }
  | _ => none }
def IdentMakeWrongFalsely : Prop := identMakeRow.holds Try.pinned (OpenSpec.ofChange identMakeWrong)

/-- 'chargenetlaw01.IdentParse': WHATEVER THE INPUT: true; the input reads as it did. -/
def identParseSpec : ChangeSpec := { name := "identParse", fn := fun _ => fun
  | [d] => { results := [.lit (.bool true)], args := [d] }
  | _ => none }
def identParseRow : OpenClaim := { program := "ytidmikodihkapaa", sum := "1f21e0cea024a7b71cda2d4191afcce095d901b38c9059640342756bbd443551", func := "chargenet/chargenetlaw01.IdentParse", spec := "identParse", apart := false }
def IdentParseSaid : Prop := identParseRow.holds Try.pinned (OpenSpec.ofChange identParseSpec)

/-- ITS FALSE NEIGHBOUR: 'it returns false'. Refute it at one input. -/
def identParseWrong : ChangeSpec := { name := "identParse", fn := fun _ => fun
  | [d] => { results := [.lit (.bool false)], args := [d] }
  | _ => none }
def IdentParseWrongFalsely : Prop := identParseRow.holds Try.pinned (OpenSpec.ofChange identParseWrong)

/-- 'chargenetlaw01.IdentSame': WHATEVER THE INPUT: true; the input reads as it did. -/
def identSameSpec : ChangeSpec := { name := "identSame", fn := fun _ => fun
  | [d1, d2] => { results := [.lit (.bool true)], args := [d1, d2] }
  | _ => none }
def identSameRow : OpenClaim := { program := "ytidmikodihkapaa", sum := "1f21e0cea024a7b71cda2d4191afcce095d901b38c9059640342756bbd443551", func := "chargenet/chargenetlaw01.IdentSame", spec := "identSame", apart := false }
def IdentSameSaid : Prop := identSameRow.holds Try.pinned (OpenSpec.ofChange identSameSpec)

/-- ITS FALSE NEIGHBOUR: 'it returns false'. Refute it at one input. -/
def identSameWrong : ChangeSpec := { name := "identSame", fn := fun _ => fun
  | [d1, d2] => { results := [.lit (.bool false)], args := [d1, d2] }
  | _ => none }
def IdentSameWrongFalsely : Prop := identSameRow.holds Try.pinned (OpenSpec.ofChange identSameWrong)

/-- 'chargenetlaw01.IdentDetects': WHATEVER THE INPUT: true; the input reads as it did. -/
def identDetectsSpec : ChangeSpec := { name := "identDetects", fn := fun _ => fun
  | [d1, d2, d3, d4, d5] => { results := [.lit (.bool true)], args := [d1, d2, d3, d4, d5] }
  | _ => none }
def identDetectsRow : OpenClaim := { program := "ytidmikodihkapaa", sum := "1f21e0cea024a7b71cda2d4191afcce095d901b38c9059640342756bbd443551", func := "chargenet/chargenetlaw01.IdentDetects", spec := "identDetects", apart := false }
def IdentDetectsSaid : Prop := identDetectsRow.holds Try.pinned (OpenSpec.ofChange identDetectsSpec)

/-- ITS FALSE NEIGHBOUR: 'it returns false'. Refute it at one input. -/
def identDetectsWrong : ChangeSpec := { name := "identDetects", fn := fun _ => fun
  | [d1, d2, d3, d4, d5] => { results := [.lit (.bool false)], args := [d1, d2, d3, d4, d5] }
  | _ => none }
def IdentDetectsWrongFalsely : Prop := identDetectsRow.holds Try.pinned (OpenSpec.ofChange identDetectsWrong)

/- THE SECOND FORM. 'bulk': how many values and letters a reading holds, each counted each time it is reached (what is shared counts as often as it is met; a slice's spare places count too). A statement '..UptoSaid' is the law's where the arguments, and the package variables that the reading takes, are together of bulk at most 1048576: NARROWER than '..Said'. Prove '..Said' where nothing that the law and all that it calls make is longer than what came in: it says more and counts as full. Else prove '..UptoSaid'. A law counts once. -/
mutual
def uptoBulk {H : Type} : DataW H → Nat
  | .lit (.string bytes) => bytes.length + 1
  | .lit _ => 1
  | .nil => 1
  | .ptr d => uptoBulk d + 1
  | .slice elems spare => uptoBulkAll elems + uptoBulkAll spare + 1
  | .agg parts => uptoBulkAll parts + 1
  | .iface _ d => uptoBulk d + 1
  | .map entries => uptoBulkEntries entries + 1
  | .held _ => 1
def uptoBulkAll {H : Type} : List (DataW H) → Nat
  | [] => 0
  | d :: r => uptoBulk d + uptoBulkAll r
def uptoBulkEntries {H : Type} : List (Lit × DataW H) → Nat
  | [] => 0
  | x :: r => uptoBulkEntry x + uptoBulkEntries r
def uptoBulkEntry {H : Type} : Lit × DataW H → Nat
  | (.string bytes, d) => bytes.length + uptoBulk d + 1
  | (_, d) => uptoBulk d + 1
 end
def uptoSmall : (H : Type) → List (DataW H) → Bool := fun _ ds => decide (uptoBulkAll ds ≤ 1048576)
def OpenSpec.upto (s : _root_.Go.ChangeSpec) : _root_.Go.OpenSpec := { _root_.Go.OpenSpec.ofChange s with cond := some uptoSmall }

/-- 'chargenetlaw01.IdentValid', WHERE WHAT IT READS IS OF BULK AT MOST 1048576: true; the input reads as it did. -/
def identValidUptoRow : OpenClaim := { program := "ytidmikodihkapaa", sum := "1f21e0cea024a7b71cda2d4191afcce095d901b38c9059640342756bbd443551", func := "chargenet/chargenetlaw01.IdentValid", spec := "identValid", apart := false, narrowed := true }
def IdentValidUptoSaid : Prop := identValidUptoRow.holds Try.pinned (OpenSpec.upto identValidSpec)

/-- 'chargenetlaw01.IdentCheck', WHERE WHAT IT READS IS OF BULK AT MOST 1048576: true; the input reads as it did. -/
def identCheckUptoRow : OpenClaim := { program := "ytidmikodihkapaa", sum := "1f21e0cea024a7b71cda2d4191afcce095d901b38c9059640342756bbd443551", func := "chargenet/chargenetlaw01.IdentCheck", spec := "identCheck", apart := false, narrowed := true }
def IdentCheckUptoSaid : Prop := identCheckUptoRow.holds Try.pinned (OpenSpec.upto identCheckSpec)

/-- 'chargenetlaw01.IdentMake', WHERE WHAT IT READS IS OF BULK AT MOST 1048576: true; the input reads as it did. -/
def identMakeUptoRow : OpenClaim := { program := "ytidmikodihkapaa", sum := "1f21e0cea024a7b71cda2d4191afcce095d901b38c9059640342756bbd443551", func := "chargenet/chargenetlaw01.IdentMake", spec := "identMake", apart := false, narrowed := true }
def IdentMakeUptoSaid : Prop := identMakeUptoRow.holds Try.pinned (OpenSpec.upto identMakeSpec)

/-- 'chargenetlaw01.IdentParse', WHERE WHAT IT READS IS OF BULK AT MOST 1048576: true; the input reads as it did. -/
def identParseUptoRow : OpenClaim := { program := "ytidmikodihkapaa", sum := "1f21e0cea024a7b71cda2d4191afcce095d901b38c9059640342756bbd443551", func := "chargenet/chargenetlaw01.IdentParse", spec := "identParse", apart := false, narrowed := true }
def IdentParseUptoSaid : Prop := identParseUptoRow.holds Try.pinned (OpenSpec.upto identParseSpec)

/-- 'chargenetlaw01.IdentSame', WHERE WHAT IT READS IS OF BULK AT MOST 1048576: true; the input reads as it did. -/
def identSameUptoRow : OpenClaim := { program := "ytidmikodihkapaa", sum := "1f21e0cea024a7b71cda2d4191afcce095d901b38c9059640342756bbd443551", func := "chargenet/chargenetlaw01.IdentSame", spec := "identSame", apart := false, narrowed := true }
def IdentSameUptoSaid : Prop := identSameUptoRow.holds Try.pinned (OpenSpec.upto identSameSpec)

/-- 'chargenetlaw01.IdentDetects', WHERE WHAT IT READS IS OF BULK AT MOST 1048576: true; the input reads as it did. -/
def identDetectsUptoRow : OpenClaim := { program := "ytidmikodihkapaa", sum := "1f21e0cea024a7b71cda2d4191afcce095d901b38c9059640342756bbd443551", func := "chargenet/chargenetlaw01.IdentDetects", spec := "identDetects", apart := false, narrowed := true }
def IdentDetectsUptoSaid : Prop := identDetectsUptoRow.holds Try.pinned (OpenSpec.upto identDetectsSpec)

end Rows
end Go.Proofs.Ytidmikodihkapaa
