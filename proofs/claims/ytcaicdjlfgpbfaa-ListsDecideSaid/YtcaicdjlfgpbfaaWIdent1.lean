/-
  Walks: the leaves of package ident and of its reference.
-/
import Derived.Test.YtcaicdjlfgpbfaaProg
import Derived.Test.YtcaicdjlfgpbfaaPIdent
import Derived.Test.YtcaicdjlfgpbfaaBase
namespace Go.Proofs.Ytcaicdjlfgpbfaa
open Go.RowKit

set_option maxHeartbeats 400000 in
theorem capital_any (c : Int) (w : World) (h0 : 0 ≤ c) (h1 : c ≤ 255) :
    Calls Try.prog 34 #[.int .u8 c] w fun e w' => e = .returned (.int .u8 (capI c)) ∧ w = w' := by
  go_enter Try.func34, Try.ntmps34
  go_wp2
  all_goals go_ret
  all_goals exact ⟨ret_int (by unfold capI; split <;> omega), rfl⟩

set_option maxHeartbeats 400000 in
theorem value_any (c : Int) (w : World) (h0 : -2147483648 ≤ c) (h1 : c ≤ 2147483647) :
    Calls Try.prog 33 #[.int .i32 c] w fun e w' => e = .returned (.int .i64 (valI c)) ∧ w = w' := by
  go_enter Try.func33, Try.ntmps33
  go_wp2
  all_goals go_ret
  all_goals exact ⟨ret_int (by unfold valI; (repeat' split) <;> omega), rfl⟩

/-- an index into the reference's letters -/
theorem letters_run (k : Nat) (hk : k < 36) (w : World) :
    (Instr.index 9 (.string ⟨#[48, 49, 50, 51, 52, 53, 54, 55, 56, 57, 65, 66, 67, 68, 69, 70, 71, 72, 73, 74, 75, 76, 77, 78, 79, 80, 81, 82, 83, 84, 85, 86, 87, 88, 89, 90]⟩) (.int .i64 (k : Int))).run Try.prog w = .ok (.int .u8 (letterAt k)) w := by
  have h : ∀ k : Fin 36, (Instr.index 9 (.string ⟨#[48, 49, 50, 51, 52, 53, 54, 55, 56, 57, 65, 66, 67, 68, 69, 70, 71, 72, 73, 74, 75, 76, 77, 78, 79, 80, 81, 82, 83, 84, 85, 86, 87, 88, 89, 90]⟩) (.int .i64 ((k : Nat) : Int))).run Try.prog w = .ok (.int .u8 (letterAt k)) w := by
    intro k
    match k with
    | ⟨0, _⟩ => (show _ = _; kernel_rfl)
    | ⟨1, _⟩ => (show _ = _; kernel_rfl)
    | ⟨2, _⟩ => (show _ = _; kernel_rfl)
    | ⟨3, _⟩ => (show _ = _; kernel_rfl)
    | ⟨4, _⟩ => (show _ = _; kernel_rfl)
    | ⟨5, _⟩ => (show _ = _; kernel_rfl)
    | ⟨6, _⟩ => (show _ = _; kernel_rfl)
    | ⟨7, _⟩ => (show _ = _; kernel_rfl)
    | ⟨8, _⟩ => (show _ = _; kernel_rfl)
    | ⟨9, _⟩ => (show _ = _; kernel_rfl)
    | ⟨10, _⟩ => (show _ = _; kernel_rfl)
    | ⟨11, _⟩ => (show _ = _; kernel_rfl)
    | ⟨12, _⟩ => (show _ = _; kernel_rfl)
    | ⟨13, _⟩ => (show _ = _; kernel_rfl)
    | ⟨14, _⟩ => (show _ = _; kernel_rfl)
    | ⟨15, _⟩ => (show _ = _; kernel_rfl)
    | ⟨16, _⟩ => (show _ = _; kernel_rfl)
    | ⟨17, _⟩ => (show _ = _; kernel_rfl)
    | ⟨18, _⟩ => (show _ = _; kernel_rfl)
    | ⟨19, _⟩ => (show _ = _; kernel_rfl)
    | ⟨20, _⟩ => (show _ = _; kernel_rfl)
    | ⟨21, _⟩ => (show _ = _; kernel_rfl)
    | ⟨22, _⟩ => (show _ = _; kernel_rfl)
    | ⟨23, _⟩ => (show _ = _; kernel_rfl)
    | ⟨24, _⟩ => (show _ = _; kernel_rfl)
    | ⟨25, _⟩ => (show _ = _; kernel_rfl)
    | ⟨26, _⟩ => (show _ = _; kernel_rfl)
    | ⟨27, _⟩ => (show _ = _; kernel_rfl)
    | ⟨28, _⟩ => (show _ = _; kernel_rfl)
    | ⟨29, _⟩ => (show _ = _; kernel_rfl)
    | ⟨30, _⟩ => (show _ = _; kernel_rfl)
    | ⟨31, _⟩ => (show _ = _; kernel_rfl)
    | ⟨32, _⟩ => (show _ = _; kernel_rfl)
    | ⟨33, _⟩ => (show _ = _; kernel_rfl)
    | ⟨34, _⟩ => (show _ = _; kernel_rfl)
    | ⟨35, _⟩ => (show _ = _; kernel_rfl)
    | ⟨n + 36, h⟩ => exact absurd h (by omega)
  exact h ⟨k, hk⟩

end Go.Proofs.Ytcaicdjlfgpbfaa
