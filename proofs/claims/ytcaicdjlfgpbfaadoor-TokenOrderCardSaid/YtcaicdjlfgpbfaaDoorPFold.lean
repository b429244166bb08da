/-
  Plain facts: strings.EqualFold of ASCII texts is to have the same capitals. No program is named here.
-/
import Derived.Test.YtcaicdjlfgpbfaaDoorPIdent
import Derived.Lib.Fold
namespace Go.Proofs.YtcaicdjlfgpbfaaDoor
set_option linter.unusedVariables false

theorem capU_nat (x : UInt8) : (capU x).toNat = if 97 ≤ x.toNat ∧ x.toNat ≤ 122 then x.toNat - 32 else x.toNat := by
  unfold capU
  split
  · rename_i h
    have : (32 : UInt8) ≤ x := by
      rw [UInt8.le_iff_toNat_le]; show 32 ≤ x.toNat; omega
    rw [UInt8.toNat_sub_of_le _ _ this]; rfl
  · rfl
theorem fold_cap (x y : UInt8) : Lib.foldEq x y = decide (capU x = capU y) := by
  unfold Lib.foldEq
  rw [decide_eq_decide, ← UInt8.toNat_inj, capU_nat, capU_nat]
  have := x.toNat_lt
  have := y.toNat_lt
  split <;> split <;> omega
theorem fold_caps : ∀ s t : List UInt8, Lib.equalFold s t = decide (capL s = capL t)
  | [], [] => rfl
  | [], _ :: _ => by simp [Lib.equalFold, capL]
  | _ :: _, [] => by simp [Lib.equalFold, capL]
  | x :: s, y :: t => by
    unfold Lib.equalFold
    rw [fold_cap, fold_caps s t]
    unfold capL
    rw [List.map_cons, List.map_cons, Bool.eq_iff_iff]
    simp

end Go.Proofs.YtcaicdjlfgpbfaaDoor
