/-
  Walks: Drop, in package token and in its reference.
-/
import Derived.Test.YtcaicdjlfgpbfaaWToken4
import Derived.Test.YtcaicdjlfgpbfaaAp2
import Derived.Test.YtcaicdjlfgpbfaaBlk
import Derived.StillTailTactics
namespace Go.Proofs.Ytcaicdjlfgpbfaa
open Go.RowKit Go.Lib Go.Joins
attribute [local go_sem] after_cell
set_option linter.unusedVariables false

theorem tokInfo : (Try.prog.info? 24).map (fun i => (i.zero, i.size, i.bytes)) = some (some (.agg #[.string ⟨#[]⟩, .string ⟨#[]⟩, .string ⟨#[]⟩, .int .i64 0, .int .i64 0, .int .i64 0]), 6, 72) := by kernel_rfl
theorem Tok.one (r : Tok) : ∀ u ∈ r.cells, u.oneCell' = true := by
  intro u hu; simp [Tok.cells] at hu; rcases hu with rfl | rfl | rfl | rfl | rfl | rfl <;> rfl
theorem flat_one {α : Type} {enc : α → List Value} (h : ∀ x, ∀ u ∈ enc x, u.oneCell' = true) (l : List α) : ∀ v ∈ l.flatMap enc, v.oneCell' = true := by
  intro v hv
  rw [List.mem_flatMap] at hv
  obtain ⟨y, _, hy⟩ := hv
  exact h y v hy

theorem drop_some {l : List Tok} {id : ByteArray} {k : Nat} (h : idxT l id = some k) : dropTL l id = l.eraseIdx k ∧ dropTE l id = 0 := by
  unfold dropTL dropTE; rw [h]; exact ⟨rfl, rfl⟩
theorem drop_none {l : List Tok} {id : ByteArray} (h : idxT l id = none) : dropTL l id = l ∧ dropTE l id = 8 := by
  unfold dropTL dropTE; rw [h]; exact ⟨rfl, rfl⟩

end Go.Proofs.Ytcaicdjlfgpbfaa
