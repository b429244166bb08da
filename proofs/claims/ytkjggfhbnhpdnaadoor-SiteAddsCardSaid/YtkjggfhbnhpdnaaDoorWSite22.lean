/-
  The great test of the law SiteAdds: its region may be walked in the order of the text.
-/
import Derived.Test.YtkjggfhbnhpdnaaDoorWSite17
namespace Go.Proofs.YtkjggfhbnhpdnaaDoor
open Go.RowKit

def findReg (n : Nat) : Code → Option (Array Oper)
  | .region id ops _ => if id = n then some ops else none
  | .loop c => findReg n c
  | .seq a b => match findReg n a with
    | some c => some c
    | none => findReg n b
  | .block _ c => findReg n c
  | .scope c => findReg n c
  | .cond _ a b => match findReg n a with
    | some c => some c
    | none => findReg n b
  | _ => none

theorem adds_lex : ((Tryd.f7.body.bind (findReg 15)).map (fun l => Region.lexB .any l)) = some true := by kernel_rfl

end Go.Proofs.YtkjggfhbnhpdnaaDoor
