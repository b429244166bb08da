/-
  Walks: the examples of the chapter, and the statements about identifiers, but the one on wrong characters.
-/
import Derived.Test.YtidmikodihkapaaDoorWIdent8
namespace Go.Proofs.YtidmikodihkapaaDoor
open Go.RowKit Go.Lib Go.Joins
set_option linter.unusedVariables false

theorem ex_check1 (w : World) : Calls Tryd.prog 10 #[.string ⟨#[65]⟩] w fun e w' => e = .returned (.tuple #[.int .u8 72, .int .i64 0]) ∧ Below w.heap.size w w' := by
  have h := check_any ⟨#[65]⟩ w (small_max (by decide))
  have h1 : checkC ((⟨#[65]⟩ : ByteArray).data.toList) = 72 := by decide +kernel
  have h2 : checkE ((⟨#[65]⟩ : ByteArray).data.toList) = 0 := by decide +kernel
  rw [h1, h2] at h
  exact h
theorem ex_check2 (w : World) : Calls Tryd.prog 10 #[.string ⟨#[49]⟩] w fun e w' => e = .returned (.tuple #[.int .u8 90, .int .i64 0]) ∧ Below w.heap.size w w' := by
  have h := check_any ⟨#[49]⟩ w (small_max (by decide))
  have h1 : checkC ((⟨#[49]⟩ : ByteArray).data.toList) = 90 := by decide +kernel
  have h2 : checkE ((⟨#[49]⟩ : ByteArray).data.toList) = 0 := by decide +kernel
  rw [h1, h2] at h
  exact h
theorem ex_check3 (w : World) : Calls Tryd.prog 10 #[.string ⟨#[45]⟩] w fun e w' => e = .returned (.tuple #[.int .u8 0, .int .i64 4]) ∧ Below w.heap.size w w' := by
  have h := check_any ⟨#[45]⟩ w (small_max (by decide))
  have h1 : checkC ((⟨#[45]⟩ : ByteArray).data.toList) = 0 := by decide +kernel
  have h2 : checkE ((⟨#[45]⟩ : ByteArray).data.toList) = 4 := by decide +kernel
  rw [h1, h2] at h
  exact h
theorem ex_make (w : World) : Calls Tryd.prog 5 #[.string ⟨#[100, 101]⟩, .string ⟨#[56, 97, 97]⟩, .string ⟨#[99, 97, 50, 98, 51, 99, 52, 100, 53]⟩] w fun e w' => e = .returned (.tuple #[.string ⟨#[68, 69, 45, 56, 65, 65, 45, 67, 65, 50, 66, 51, 67, 52, 68, 53, 45, 74]⟩, .int .i64 0]) ∧ Below w.heap.size w w' := by
  have h := make_any ⟨#[100, 101]⟩ ⟨#[56, 97, 97]⟩ ⟨#[99, 97, 50, 98, 51, 99, 52, 100, 53]⟩ w
  have h1 : makeS ⟨#[100, 101]⟩ ⟨#[56, 97, 97]⟩ ⟨#[99, 97, 50, 98, 51, 99, 52, 100, 53]⟩ = ⟨#[68, 69, 45, 56, 65, 65, 45, 67, 65, 50, 66, 51, 67, 52, 68, 53, 45, 74]⟩ := by decide +kernel
  have h2 : makeE ⟨#[100, 101]⟩ ⟨#[56, 97, 97]⟩ ⟨#[99, 97, 50, 98, 51, 99, 52, 100, 53]⟩ = 0 := by decide +kernel
  rw [h1, h2] at h
  exact h
theorem ex_parse1 (w : World) : Calls Tryd.prog 7 #[.string ⟨#[100, 101, 45, 56, 97, 97, 45, 99, 97, 50, 98, 51, 99, 52, 100, 53, 45, 106]⟩] w fun e w' => e = .returned (.tuple #[.string ⟨#[68, 69]⟩, .string ⟨#[56, 65, 65]⟩, .string ⟨#[67, 65, 50, 66, 51, 67, 52, 68, 53]⟩, .int .i64 0]) ∧ Below w.heap.size w w' := by
  have h := parse_any ⟨#[100, 101, 45, 56, 97, 97, 45, 99, 97, 50, 98, 51, 99, 52, 100, 53, 45, 106]⟩ w
  have h1 : parse1 ⟨#[100, 101, 45, 56, 97, 97, 45, 99, 97, 50, 98, 51, 99, 52, 100, 53, 45, 106]⟩ = ⟨#[68, 69]⟩ := by decide +kernel
  have h2 : parse2 ⟨#[100, 101, 45, 56, 97, 97, 45, 99, 97, 50, 98, 51, 99, 52, 100, 53, 45, 106]⟩ = ⟨#[56, 65, 65]⟩ := by decide +kernel
  have h3 : parse3 ⟨#[100, 101, 45, 56, 97, 97, 45, 99, 97, 50, 98, 51, 99, 52, 100, 53, 45, 106]⟩ = ⟨#[67, 65, 50, 66, 51, 67, 52, 68, 53]⟩ := by decide +kernel
  have h4 : parseE ((⟨#[100, 101, 45, 56, 97, 97, 45, 99, 97, 50, 98, 51, 99, 52, 100, 53, 45, 106]⟩ : ByteArray).data.toList) = 0 := by decide +kernel
  rw [h1, h2, h3, h4] at h
  exact h
theorem ex_parse2 (w : World) : Calls Tryd.prog 7 #[.string ⟨#[100, 101, 45, 56, 97, 97, 45, 99, 97, 50, 98, 51, 99, 52, 100, 53, 45, 107]⟩] w fun e w' => e = .returned (.tuple #[.string ⟨#[]⟩, .string ⟨#[]⟩, .string ⟨#[]⟩, .int .i64 7]) ∧ Below w.heap.size w w' := by
  have h := parse_any ⟨#[100, 101, 45, 56, 97, 97, 45, 99, 97, 50, 98, 51, 99, 52, 100, 53, 45, 107]⟩ w
  have h1 : parse1 ⟨#[100, 101, 45, 56, 97, 97, 45, 99, 97, 50, 98, 51, 99, 52, 100, 53, 45, 107]⟩ = ⟨#[]⟩ := by decide +kernel
  have h2 : parse2 ⟨#[100, 101, 45, 56, 97, 97, 45, 99, 97, 50, 98, 51, 99, 52, 100, 53, 45, 107]⟩ = ⟨#[]⟩ := by decide +kernel
  have h3 : parse3 ⟨#[100, 101, 45, 56, 97, 97, 45, 99, 97, 50, 98, 51, 99, 52, 100, 53, 45, 107]⟩ = ⟨#[]⟩ := by decide +kernel
  have h4 : parseE ((⟨#[100, 101, 45, 56, 97, 97, 45, 99, 97, 50, 98, 51, 99, 52, 100, 53, 45, 107]⟩ : ByteArray).data.toList) = 7 := by decide +kernel
  rw [h1, h2, h3, h4] at h
  exact h
theorem ex_parse3 (w : World) : Calls Tryd.prog 7 #[.string ⟨#[100, 101, 45, 56, 97, 97, 45, 99, 97, 50, 98, 51, 99, 52, 100, 53]⟩] w fun e w' => e = .returned (.tuple #[.string ⟨#[]⟩, .string ⟨#[]⟩, .string ⟨#[]⟩, .int .i64 5]) ∧ Below w.heap.size w w' := by
  have h := parse_any ⟨#[100, 101, 45, 56, 97, 97, 45, 99, 97, 50, 98, 51, 99, 52, 100, 53]⟩ w
  have h1 : parse1 ⟨#[100, 101, 45, 56, 97, 97, 45, 99, 97, 50, 98, 51, 99, 52, 100, 53]⟩ = ⟨#[]⟩ := by decide +kernel
  have h2 : parse2 ⟨#[100, 101, 45, 56, 97, 97, 45, 99, 97, 50, 98, 51, 99, 52, 100, 53]⟩ = ⟨#[]⟩ := by decide +kernel
  have h3 : parse3 ⟨#[100, 101, 45, 56, 97, 97, 45, 99, 97, 50, 98, 51, 99, 52, 100, 53]⟩ = ⟨#[]⟩ := by decide +kernel
  have h4 : parseE ((⟨#[100, 101, 45, 56, 97, 97, 45, 99, 97, 50, 98, 51, 99, 52, 100, 53]⟩ : ByteArray).data.toList) = 5 := by decide +kernel
  rw [h1, h2, h3, h4] at h
  exact h
theorem ex_valid1 (w : World) : Calls Tryd.prog 9 #[.string ⟨#[68, 69, 42, 65, 45, 49]⟩] w fun e w' => e = .returned (.bool true) ∧ Below w.heap.size w w' := by
  have h := valid_any ⟨#[68, 69, 42, 65, 45, 49]⟩ w (small_max (by decide))
  have h1 : validL ((⟨#[68, 69, 42, 65, 45, 49]⟩ : ByteArray).data.toList) = true := by decide +kernel
  rw [h1] at h
  exact h
theorem ex_valid2 (w : World) : Calls Tryd.prog 9 #[.string ⟨#[97, 32, 98]⟩] w fun e w' => e = .returned (.bool false) ∧ Below w.heap.size w w' := by
  have h := valid_any ⟨#[97, 32, 98]⟩ w (small_max (by decide))
  have h1 : validL ((⟨#[97, 32, 98]⟩ : ByteArray).data.toList) = false := by decide +kernel
  rw [h1] at h
  exact h
theorem ex_same1 (w : World) : Calls Tryd.prog 11 #[.string ⟨#[97, 98, 45, 49]⟩, .string ⟨#[65, 66, 45, 49]⟩] w fun e w' => e = .returned (.bool true) ∧ Below w.heap.size w w' := by
  have h := same_any ⟨#[97, 98, 45, 49]⟩ ⟨#[65, 66, 45, 49]⟩ w (small_max (by decide))
  have h1 : sameS ⟨#[97, 98, 45, 49]⟩ ⟨#[65, 66, 45, 49]⟩ = true := by decide +kernel
  rw [h1] at h
  exact h.mono fun e w' hh => ⟨hh.1, drewN_below hh.2⟩
theorem ex_same2 (w : World) : Calls Tryd.prog 11 #[.string ⟨#[97, 98]⟩, .string ⟨#[97, 98, 32]⟩] w fun e w' => e = .returned (.bool false) ∧ Below w.heap.size w w' := by
  have h := same_any ⟨#[97, 98]⟩ ⟨#[97, 98, 32]⟩ w (small_max (by decide))
  have h1 : sameS ⟨#[97, 98]⟩ ⟨#[97, 98, 32]⟩ = false := by decide +kernel
  rw [h1] at h
  exact h.mono fun e w' hh => ⟨hh.1, drewN_below hh.2⟩

set_option maxHeartbeats 1600000 in
theorem example_any (w : World) : Calls Tryd.prog 4 #[] w fun e w' => e = .returned (.bool true) ∧ Below w.heap.size w w' := by
  have hbw := Below.refl w.heap.size w
  go_enter Tryd.func4, Tryd.ntmps4
  go_wp2_with ((first
    | (go_at_call 10; first | (with_reducible refine (ex_check1 _).mono ?_) | (with_reducible refine (ex_check2 _).mono ?_) | (with_reducible refine (ex_check3 _).mono ?_))
    | (go_at_call 5; with_reducible refine (ex_make _).mono ?_)
    | (go_at_call 7; first | (with_reducible refine (ex_parse1 _).mono ?_) | (with_reducible refine (ex_parse2 _).mono ?_) | (with_reducible refine (ex_parse3 _).mono ?_))
    | (go_at_call 9; first | (with_reducible refine (ex_valid1 _).mono ?_) | (with_reducible refine (ex_valid2 _).mono ?_))
    | (go_at_call 11; first | (with_reducible refine (ex_same1 _).mono ?_) | (with_reducible refine (ex_same2 _).mono ?_))); rintro e w' ⟨rfl, hb⟩; replace hbw := hbw.trans (hb.mono hbw.size); clear hb)
  go_ret
  exact ⟨rfl, hbw⟩

end Go.Proofs.YtidmikodihkapaaDoor
