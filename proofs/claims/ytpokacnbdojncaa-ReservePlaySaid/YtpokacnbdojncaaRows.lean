/-
  No cell of these rows narrows 'for every input' (looked for: loops, veiled, ifaces, maps, wideKeys, modest, calm, conditions, laid).
  DERIVED. THE GIVEN ROWS OF THIS SEAT. 5 by the template 'for every input the law returns true; each argument reads behind the call as it read before'; 0 by the template 'total and deterministic' (their statements: YtpokacnbdojncaaTotals.lean).
  GIVEN WITH THE SEED: the statements are not yours to turn. If you find one false, say at which input.
  Laid BY PROGRAM, IN A SANDBOX (cutbox-rows.mjs): the forced cells as the released guide's own fill.sh prints them over the translation 33ccb9500e951119… (all of the seat's roots in one cut). By AI agents, Wed Nov 11 2026. No macro, syntax, notation, axiom, sorry.
-/
import Derived.Test.YtpokacnbdojncaaChecked
import GoSem.Claim
import GoSem.ClaimJoined
import GoSem.ClaimMapViews
import Derived.JoinedTies
import Derived.KernelRfl
namespace Go.Proofs.Ytpokacnbdojncaa
/- THE CELL 'sum', in the pinned program and in every row, IS THE sha256 OF THE DUMP (.gsa) THAT YtpokacnbdojncaaProg.lean LOADS. Nothing in Lean hashes anything: it is a label: what it is worth is what the hold of that sum in a sandbox is worth. -/
noncomputable def Try.pinned : Pinned := { name := "ytpokacnbdojncaa", sum := "33ccb9500e9511194ebfda1d00038056ea3709eddea65a7137c13049fdc1c715", checked := Try.checked }
namespace Rows
def none {H : Type} : Left H := { results := [], args := [] }

/-- 'chargenetlaw29.ReserveValid': WHATEVER THE INPUT: true; the input reads as it did. -/
def reserveValidSpec : ChangeSpec := { name := "reserveValid", fn := fun _ => fun
  | [d] => { results := [.lit (.bool true)], args := [d] }
  | _ => none }
def reserveValidRow : OpenClaim := { program := "ytpokacnbdojncaa", sum := "33ccb9500e9511194ebfda1d00038056ea3709eddea65a7137c13049fdc1c715", func := "chargenet/chargenetlaw29.ReserveValid", spec := "reserveValid", unfollowed := true, recurses := true, apart := false }
def ReserveValidSaid : Prop := reserveValidRow.holds Try.pinned (OpenSpec.ofChange reserveValidSpec)

/-- ITS FALSE NEIGHBOUR: 'it returns false'. Refute it at one input. -/
def reserveValidWrong : ChangeSpec := { name := "reserveValid", fn := fun _ => fun
  | [d] => { results := [.lit (.bool false)], args := [d] }
  | _ => none }
def ReserveValidWrongFalsely : Prop := reserveValidRow.holds Try.pinned (OpenSpec.ofChange reserveValidWrong)

/-- 'chargenetlaw29.ReservePlay': WHATEVER THE INPUT: true; the input reads as it did. -/
def reservePlaySpec : ChangeSpec := { name := "reservePlay", fn := fun _ => fun
  | [d] => { results := [.lit (.bool true)], args := [d] }
  | _ => none }
def reservePlayRow : OpenClaim := { program := "ytpokacnbdojncaa", sum := "33ccb9500e9511194ebfda1d00038056ea3709eddea65a7137c13049fdc1c715", func := "chargenet/chargenetlaw29.ReservePlay", spec := "reservePlay", unfollowed := true, recurses := true, apart := false }
def ReservePlaySaid : Prop := reservePlayRow.holds Try.pinned (OpenSpec.ofChange reservePlaySpec)

/-- ITS FALSE NEIGHBOUR: 'it returns false'. Refute it at one input. -/
def reservePlayWrong : ChangeSpec := { name := "reservePlay", fn := fun _ => fun
  | [d] => { results := [.lit (.bool false)], args := [d] }
  | _ => none }
def ReservePlayWrongFalsely : Prop := reservePlayRow.holds Try.pinned (OpenSpec.ofChange reservePlayWrong)

/-- 'chargenetlaw29.ReserveMay': WHATEVER THE INPUT: true; the input reads as it did. -/
def reserveMaySpec : ChangeSpec := { name := "reserveMay", fn := fun _ => fun
  | [d1, d2, d3, d4] => { results := [.lit (.bool true)], args := [d1, d2, d3, d4] }
  | _ => none }
def reserveMayRow : OpenClaim := { program := "ytpokacnbdojncaa", sum := "33ccb9500e9511194ebfda1d00038056ea3709eddea65a7137c13049fdc1c715", func := "chargenet/chargenetlaw29.ReserveMay", spec := "reserveMay", unfollowed := true, recurses := true, apart := false }
def ReserveMaySaid : Prop := reserveMayRow.holds Try.pinned (OpenSpec.ofChange reserveMaySpec)

/-- ITS FALSE NEIGHBOUR: 'it returns false'. Refute it at one input. -/
def reserveMayWrong : ChangeSpec := { name := "reserveMay", fn := fun _ => fun
  | [d1, d2, d3, d4] => { results := [.lit (.bool false)], args := [d1, d2, d3, d4] }
  | _ => none }
def ReserveMayWrongFalsely : Prop := reserveMayRow.holds Try.pinned (OpenSpec.ofChange reserveMayWrong)

/-- 'chargenetlaw29.ReserveOne': WHATEVER THE INPUT: true; the input reads as it did. -/
def reserveOneSpec : ChangeSpec := { name := "reserveOne", fn := fun _ => fun
  | [d] => { results := [.lit (.bool true)], args := [d] }
  | _ => none }
def reserveOneRow : OpenClaim := { program := "ytpokacnbdojncaa", sum := "33ccb9500e9511194ebfda1d00038056ea3709eddea65a7137c13049fdc1c715", func := "chargenet/chargenetlaw29.ReserveOne", spec := "reserveOne", unfollowed := true, recurses := true, apart := false }
def ReserveOneSaid : Prop := reserveOneRow.holds Try.pinned (OpenSpec.ofChange reserveOneSpec)

/-- ITS FALSE NEIGHBOUR: 'it returns false'. Refute it at one input. -/
def reserveOneWrong : ChangeSpec := { name := "reserveOne", fn := fun _ => fun
  | [d] => { results := [.lit (.bool false)], args := [d] }
  | _ => none }
def ReserveOneWrongFalsely : Prop := reserveOneRow.holds Try.pinned (OpenSpec.ofChange reserveOneWrong)

/-- 'chargenetlaw29.ReserveDivides': WHATEVER THE INPUT: true; the input reads as it did. -/
def reserveDividesSpec : ChangeSpec := { name := "reserveDivides", fn := fun _ => fun
  | [d1, d2, d3] => { results := [.lit (.bool true)], args := [d1, d2, d3] }
  | _ => none }
def reserveDividesRow : OpenClaim := { program := "ytpokacnbdojncaa", sum := "33ccb9500e9511194ebfda1d00038056ea3709eddea65a7137c13049fdc1c715", func := "chargenet/chargenetlaw29.ReserveDivides", spec := "reserveDivides", unfollowed := true, recurses := true, apart := false }
def ReserveDividesSaid : Prop := reserveDividesRow.holds Try.pinned (OpenSpec.ofChange reserveDividesSpec)

/-- ITS FALSE NEIGHBOUR: 'it returns false'. Refute it at one input. -/
def reserveDividesWrong : ChangeSpec := { name := "reserveDivides", fn := fun _ => fun
  | [d1, d2, d3] => { results := [.lit (.bool false)], args := [d1, d2, d3] }
  | _ => none }
def ReserveDividesWrongFalsely : Prop := reserveDividesRow.holds Try.pinned (OpenSpec.ofChange reserveDividesWrong)

/- THE SECOND FORM. 'bulk': how many values and letters a reading holds, each counted each time it is reached (what is shared counts as often as it is met; a slice's spare places count too). A statement '..UptoSaid' is the law's where the arguments, and the package variables that the reading takes, are together of bulk at most 1048576: NARROWER than '..Said'. Prove '..Said' where nothing that the law and all that it calls make is longer than what came in: it says more and counts as full. Else prove '..UptoSaid'. A law counts once. -/
mutual
def uptoBulk {H : Type} : DataW H → Nat
  | .lit (.string bytes) => bytes.length + 1
  | .lit _ => 1
  | .nil => 1
  | .ptr d => uptoBulk d + 1
  | .slice elems spare => uptoBulkAll elems + uptoBulkAll spare + 1
  | .agg parts => uptoBulkAll parts + 1
  | .iface _ d => uptoBulk d + 1
  | .map entries => uptoBulkEntries entries + 1
  | .held _ => 1
def uptoBulkAll {H : Type} : List (DataW H) → Nat
  | [] => 0
  | d :: r => uptoBulk d + uptoBulkAll r
def uptoBulkEntries {H : Type} : List (Lit × DataW H) → Nat
  | [] => 0
  | x :: r => uptoBulkEntry x + uptoBulkEntries r
def uptoBulkEntry {H : Type} : Lit × DataW H → Nat
  | (.string bytes, d) => bytes.length + uptoBulk d + 1
  | (_, d) => uptoBulk d + 1
 end
def uptoSmall : (H : Type) → List (DataW H) → Bool := fun _ ds => decide (uptoBulkAll ds ≤ 1048576)
def OpenSpec.upto (s : _root_.Go.ChangeSpec) : _root_.Go.OpenSpec := { _root_.Go.OpenSpec.ofChange s with cond := some uptoSmall }

/-- 'chargenetlaw29.ReserveValid', WHERE WHAT IT READS IS OF BULK AT MOST 1048576: true; the input reads as it did. -/
def reserveValidUptoRow : OpenClaim := { program := "ytpokacnbdojncaa", sum := "33ccb9500e9511194ebfda1d00038056ea3709eddea65a7137c13049fdc1c715", func := "chargenet/chargenetlaw29.ReserveValid", spec := "reserveValid", unfollowed := true, recurses := true, apart := false, narrowed := true }
def ReserveValidUptoSaid : Prop := reserveValidUptoRow.holds Try.pinned (OpenSpec.upto reserveValidSpec)

/-- 'chargenetlaw29.ReservePlay', WHERE WHAT IT READS IS OF BULK AT MOST 1048576: true; the input reads as it did. -/
def reservePlayUptoRow : OpenClaim := { program := "ytpokacnbdojncaa", sum := "33ccb9500e9511194ebfda1d00038056ea3709eddea65a7137c13049fdc1c715", func := "chargenet/chargenetlaw29.ReservePlay", spec := "reservePlay", unfollowed := true, recurses := true, apart := false, narrowed := true }
def ReservePlayUptoSaid : Prop := reservePlayUptoRow.holds Try.pinned (OpenSpec.upto reservePlaySpec)

/-- 'chargenetlaw29.ReserveMay', WHERE WHAT IT READS IS OF BULK AT MOST 1048576: true; the input reads as it did. -/
def reserveMayUptoRow : OpenClaim := { program := "ytpokacnbdojncaa", sum := "33ccb9500e9511194ebfda1d00038056ea3709eddea65a7137c13049fdc1c715", func := "chargenet/chargenetlaw29.ReserveMay", spec := "reserveMay", unfollowed := true, recurses := true, apart := false, narrowed := true }
def ReserveMayUptoSaid : Prop := reserveMayUptoRow.holds Try.pinned (OpenSpec.upto reserveMaySpec)

/-- 'chargenetlaw29.ReserveOne', WHERE WHAT IT READS IS OF BULK AT MOST 1048576: true; the input reads as it did. -/
def reserveOneUptoRow : OpenClaim := { program := "ytpokacnbdojncaa", sum := "33ccb9500e9511194ebfda1d00038056ea3709eddea65a7137c13049fdc1c715", func := "chargenet/chargenetlaw29.ReserveOne", spec := "reserveOne", unfollowed := true, recurses := true, apart := false, narrowed := true }
def ReserveOneUptoSaid : Prop := reserveOneUptoRow.holds Try.pinned (OpenSpec.upto reserveOneSpec)

/-- 'chargenetlaw29.ReserveDivides', WHERE WHAT IT READS IS OF BULK AT MOST 1048576: true; the input reads as it did. -/
def reserveDividesUptoRow : OpenClaim := { program := "ytpokacnbdojncaa", sum := "33ccb9500e9511194ebfda1d00038056ea3709eddea65a7137c13049fdc1c715", func := "chargenet/chargenetlaw29.ReserveDivides", spec := "reserveDivides", unfollowed := true, recurses := true, apart := false, narrowed := true }
def ReserveDividesUptoSaid : Prop := reserveDividesUptoRow.holds Try.pinned (OpenSpec.upto reserveDividesSpec)

end Rows
end Go.Proofs.Ytpokacnbdojncaa
