/-
  Walks: check characters, in package ident and in its reference.
-/
import Derived.Test.YtcaicdjlfgpbfaaWIdent2
namespace Go.Proofs.Ytcaicdjlfgpbfaa
open Go.RowKit
set_option linter.unusedVariables false

theorem byte_lt (s : ByteArray) (k : Nat) (h : k < s.size) : 0 ≤ (s[k].toNat : Int) ∧ (s[k].toNat : Int) ≤ 255 := by
  have := s[k].toNat_lt; omega

theorem okC_iff {r : Int} : okC r = true ↔ 0 ≤ valI r ∨ r = 45 ∨ r = 95 ∨ r = 46 ∨ r = 58 ∨ r = 42 := by
  simp [okC]; omega
theorem okC_last {r : Int} (h : ((((r != 45) = false ∨ (r != 95) = false) ∨ (r != 46) = false) ∨ (r != 58) = false) ∨ (r != 42) = false) : okC r = true := by
  simp at h; rw [okC_iff]; omega
theorem okC_none {r : Int} (hv : valI r < 0) (h : ((((r != 45) = true ∧ (r != 95) = true) ∧ (r != 46) = true) ∧ (r != 58) = true) ∧ (r != 42) = true) : okC r = false := by
  simp at h
  cases ho : okC r with
  | false => rfl
  | true => rw [okC_iff] at ho; omega

theorem sumL_take (s : ByteArray) (k : Nat) (h : k < s.size) (p n : Int) : sumL (s.data.toList.take (k + 1)) p n = if valI (s[k].toNat : Int) < 0 then sumL (s.data.toList.take k) p n else (sumStep (sumL (s.data.toList.take k) p n).1 (valI (s[k].toNat : Int)), (sumL (s.data.toList.take k) p n).2 + 1) := by
  rw [bytes_at s k h, sumL_append]

theorem sumL_full (s : ByteArray) (k : Nat) (h : ¬ k < s.size) (p n : Int) : sumL (s.data.toList.take k) p n = sumL s.data.toList p n := by
  rw [List.take_of_length_le (by simp; omega)]

theorem sumStep_zero {p v : Int} (h : ((p + v) % 36 == 0) = true) : sumStep p v = 35 := by simp at h; unfold sumStep; rw [if_pos (by omega)]
theorem sumStep_pos {p v : Int} (h : ((p + v) % 36 == 0) = false) : sumStep p v = 2 * ((p + v) % 36) % 37 := by simp at h; unfold sumStep; rw [if_neg (by omega)]

end Go.Proofs.Ytcaicdjlfgpbfaa
