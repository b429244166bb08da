/-
  The error of a contract. No program is named here.
-/
import Derived.Test.YtlpjniejbblcnaaDoorPConM
import Derived.Test.YtlpjniejbblcnaaDoorM1
namespace Go.Proofs.YtlpjniejbblcnaaDoor
set_option linter.unusedVariables false

/-- the error of a contract for a site with n feeders -/
def conE (x : ConR) (n : Nat) : Int := if validL x.nm.data.toList = false then 4 else if x.fd < 0 ∨ (n : Int) ≤ x.fd ∨ x.tot < 0 ∨ 1073741824 < x.tot then 2 else winE x.w
theorem conE_name {x : ConR} {n : Nat} (h : validL x.nm.data.toList = false) : conE x n = 4 := if_pos h
theorem conE_range {x : ConR} {n : Nat} (h : validL x.nm.data.toList = true) (g : x.fd < 0 ∨ (n : Int) ≤ x.fd ∨ x.tot < 0 ∨ 1073741824 < x.tot) : conE x n = 2 := by
  unfold conE; rw [if_neg (by rw [h]; decide), if_pos g]
theorem conE_ok {x : ConR} {n : Nat} (h : validL x.nm.data.toList = true) (g : ¬ (x.fd < 0 ∨ (n : Int) ≤ x.fd ∨ x.tot < 0 ∨ 1073741824 < x.tot)) : conE x n = winE x.w := by
  unfold conE; rw [if_neg (by rw [h]; decide), if_neg g]

end Go.Proofs.YtlpjniejbblcnaaDoor
