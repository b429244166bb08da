/-
  Walks: the law IdentDetects.
-/
import Derived.Test.YtidmikodihkapaaDoorWIdent11
namespace Go.Proofs.YtidmikodihkapaaDoor
open Go.RowKit Go.Lib Go.Joins
set_option linter.unusedVariables false

theorem make_ok {c p i : ByteArray} (h : makeOK c p i = true) : makeE c p i = 0 := by simp [makeE, h]
theorem make_err {c p i : ByteArray} (h : makeOK c p i = false) : makeE c p i = 4 := by simp [makeE, h]

theorem byte_at {s : ByteArray} {k : Nat} (hk : k < s.size) : ((s[k].toNat : Int) == 45) = (s.data.toList.getD k 0 == 45) := by
  have h := byte_eq hk
  cases hd : (s.data.toList.getD k 0 == 45) <;> rw [hd] at h <;> simpa using h

theorem set_size (s : ByteArray) (k : Nat) (c : UInt8) (hk : k < s.size) : (s.extract 0 k ++ ⟨#[c]⟩ ++ s.extract (k + 1) s.size).size = s.size := by
  have h := congrArg List.length (set_data s k c hk)
  rw [List.length_set] at h
  have e : ∀ x : ByteArray, x.data.toList.length = x.size := fun x => by simp
  rw [e, e] at h
  exact h

theorem u8_range {n : Int} (h : (Lit.int .u8 n).wf = true) : 0 ≤ n ∧ n ≤ 255 := by
  simp [Lit.wf, IntKind.min, IntKind.max, IntKind.signed, IntKind.bits] at h
  omega

end Go.Proofs.YtidmikodihkapaaDoor
