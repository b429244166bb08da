/-
  Walks: slices.Index and slices.Contains of reservations.
-/
import Derived.Test.YtpokacnbdojncaaDoorWReserve10
namespace Go.Proofs.YtpokacnbdojncaaDoor
open Go.RowKit Go.Lib Go.Joins
set_option linter.unusedVariables false

noncomputable def inL {α : Type} (a : List α) (x : α) : Bool := @decide (x ∈ a) (Classical.propDecidable _)
theorem inL_t {α : Type} {a : List α} {x : α} (h : x ∈ a) : inL a x = true := by unfold inL; simpa using h
theorem inL_f {α : Type} {a : List α} {x : α} (h : ¬ x ∈ a) : inL a x = false := by unfold inL; simpa using h

theorem in_at {α : Type} {a : List α} {x : α} {k : Nat} (hk : k < a.length) (h : x = a[k]) : x ∈ a := h ▸ List.getElem_mem hk
theorem in_step {α : Type} {a : List α} {x : α} {k : Nat} (h : ¬ x ∈ a.take k) (hk : k < a.length) (hn : ¬ x = a[k]) : ¬ x ∈ a.take (k + 1) := by
  rw [List.take_succ_eq_append_getElem hk, List.mem_append]
  simp [h, hn]
theorem in_all {α : Type} {a : List α} {x : α} {k : Nat} (h : ¬ x ∈ a.take k) (hk : ¬ k < a.length) : ¬ x ∈ a := by
  rw [List.take_of_length_le (by omega)] at h
  exact h

end Go.Proofs.YtpokacnbdojncaaDoor
