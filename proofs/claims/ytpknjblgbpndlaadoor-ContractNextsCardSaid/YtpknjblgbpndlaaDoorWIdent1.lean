/-
  Walks: the leaves of package ident and of its reference.
-/
import Derived.Test.YtpknjblgbpndlaaDoorProg
import Derived.Test.YtpknjblgbpndlaaDoorPIdent
import Derived.Test.YtpknjblgbpndlaaDoorBase
namespace Go.Proofs.YtpknjblgbpndlaaDoor
open Go.RowKit

set_option maxHeartbeats 400000 in
theorem refCapital_any (c : Int) (w : World) (h0 : 0 ≤ c) (h1 : c ≤ 255) :
    Calls Tryd.prog 67 #[.int .u8 c] w fun e w' => e = .returned (.int .u8 (capI c)) ∧ w = w' := by
  go_enter Tryd.func67, Tryd.ntmps67
  go_wp2
  all_goals go_ret
  all_goals exact ⟨ret_int (by unfold capI; split <;> omega), rfl⟩

set_option maxHeartbeats 400000 in
theorem value_any (c : Int) (w : World) (h0 : -2147483648 ≤ c) (h1 : c ≤ 2147483647) :
    Calls Tryd.prog 50 #[.int .i32 c] w fun e w' => e = .returned (.int .i64 (valI c)) ∧ w = w' := by
  go_enter Tryd.func50, Tryd.ntmps50
  go_wp2
  all_goals go_ret
  all_goals exact ⟨ret_int (by unfold valI; (repeat' split) <;> omega), rfl⟩

/-- an index into the reference's letters -/
theorem letters_run (k : Nat) (hk : k < 36) (w : World) :
    (Instr.index 9 (.string ⟨#[48, 49, 50, 51, 52, 53, 54, 55, 56, 57, 65, 66, 67, 68, 69, 70, 71, 72, 73, 74, 75, 76, 77, 78, 79, 80, 81, 82, 83, 84, 85, 86, 87, 88, 89, 90]⟩) (.int .i64 (k : Int))).run Tryd.prog w = .ok (.int .u8 (letterAt k)) w := by
  have h : ∀ k : Fin 36, (Instr.index 9 (.string ⟨#[48, 49, 50, 51, 52, 53, 54, 55, 56, 57, 65, 66, 67, 68, 69, 70, 71, 72, 73, 74, 75, 76, 77, 78, 79, 80, 81, 82, 83, 84, 85, 86, 87, 88, 89, 90]⟩) (.int .i64 ((k : Nat) : Int))).run Tryd.prog w = .ok (.int .u8 (letterAt k)) w := by
    intro k
    match k with
    | ⟨0, _⟩ => (show _ = _; kernel_rfl)
    | ⟨1, _⟩ => (show _ = _; kernel_rfl)
    | ⟨2, _⟩ => (show _ = _; kernel_rfl)
    | ⟨3, _⟩ => (show _ = _; kernel_rfl)
    | ⟨4, _⟩ => (show _ = _; kernel_rfl)
    | ⟨5, _⟩ => (show _ = _; kernel_rfl)
    | ⟨6, _⟩ => (show _ = _; kernel_rfl)
    | ⟨7, _⟩ => (show _ = _; kernel_rfl)
    | ⟨8, _⟩ => (show _ = _; kernel_rfl)
    | ⟨9, _⟩ => (show _ = _; kernel_rfl)
    | ⟨10, _⟩ => (show _ = _; kernel_rfl)
    | ⟨11, _⟩ => (show _ = _; kernel_rfl)
    | ⟨12, _⟩ => (show _ = _; kernel_rfl)
    | ⟨13, _⟩ => (show _ = _; kernel_rfl)
    | ⟨14, _⟩ => (show _ = _; kernel_rfl)
    | ⟨15, _⟩ => (show _ = _; kernel_rfl)
    | ⟨16, _⟩ => (show _ = _; kernel_rfl)
    | ⟨17, _⟩ => (show _ = _; kernel_rfl)
    | ⟨18, _⟩ => (show _ = _; kernel_rfl)
    | ⟨19, _⟩ => (show _ = _; kernel_rfl)
    | ⟨20, _⟩ => (show _ = _; kernel_rfl)
    | ⟨21, _⟩ => (show _ = _; kernel_rfl)
    | ⟨22, _⟩ => (show _ = _; kernel_rfl)
    | ⟨23, _⟩ => (show _ = _; kernel_rfl)
    | ⟨24, _⟩ => (show _ = _; kernel_rfl)
    | ⟨25, _⟩ => (show _ = _; kernel_rfl)
    | ⟨26, _⟩ => (show _ = _; kernel_rfl)
    | ⟨27, _⟩ => (show _ = _; kernel_rfl)
    | ⟨28, _⟩ => (show _ = _; kernel_rfl)
    | ⟨29, _⟩ => (show _ = _; kernel_rfl)
    | ⟨30, _⟩ => (show _ = _; kernel_rfl)
    | ⟨31, _⟩ => (show _ = _; kernel_rfl)
    | ⟨32, _⟩ => (show _ = _; kernel_rfl)
    | ⟨33, _⟩ => (show _ = _; kernel_rfl)
    | ⟨34, _⟩ => (show _ = _; kernel_rfl)
    | ⟨35, _⟩ => (show _ = _; kernel_rfl)
    | ⟨n + 36, h⟩ => exact absurd h (by omega)
  exact h ⟨k, hk⟩

set_option maxHeartbeats 400000 in
theorem refValue_any (c : Int) (w : World) (h0 : 0 ≤ c) (h1 : c ≤ 255) :
    Calls Tryd.prog 51 #[.int .u8 c] w fun e w' => e = .returned (.int .i64 (valI c)) ∧ ∃ n, w' = w.drewN n := by
  have hr := capI_range c h0 h1
  go_enter Tryd.func51, Tryd.ntmps51
  go_wp2
  go_loopw [3] (fun i wr => ∃ k : Nat, k ≤ 36 ∧ i = .int .i64 k ∧ Hid (∃ n, wr = w.drewN n) ∧ Hid (∀ j : Nat, j < k → ¬ letterAt j = capI c)) (fun i _ => 36 - (intOf i).toNat)
  case atStart => exact ⟨0, by omega, rfl, ⟨0, rfl⟩, fun j hj => by omega⟩
  case round =>
    obtain ⟨k, hk, rfl, HW, H⟩ := hrel
    by_cases hlt : k < 36
    · have hix := fun w => letters_run k hlt w
      by_cases he : letterAt k = capI c
      · have he' : (letterAt k == capI c) = true := by simpa using he
        have hv := letter_hit c k hlt he
        have HV := Lib.hid hv
        clear hv he
        go_wp2
        go_quiet ((go_at_call 67; exact quiet_left (refCapital_any _ _ h0 h1)))
        go_wp2
        go_ret
        exact ⟨ret_int (by rw [HV.out]), drewN_more HW _⟩
      · have he' : (letterAt k == capI c) = false := by simpa using he
        have HE := Lib.hid he
        clear he
        go_wp2
        go_quiet ((go_at_call 67; exact quiet_left (refCapital_any _ _ h0 h1)))
        go_wp2
        go_roundw
        case rel => exact ⟨k + 1, by omega, by go_num, drewN_more HW _, fun j hj => by
          by_cases e : j = k
          · subst e; exact HE.out
          · exact H.out j (by omega)⟩
        case measure => simp [intOf]; omega
    · have hk36 : k = 36 := by omega
      have hv := letter_miss c (fun j hj => H.out j (by omega))
      have HV := Lib.hid hv
      subst hk36
      clear hv
      go_wp2
      go_ret
      exact ⟨ret_int (by rw [HV.out]), HW.out⟩

end Go.Proofs.YtpknjblgbpndlaaDoor
