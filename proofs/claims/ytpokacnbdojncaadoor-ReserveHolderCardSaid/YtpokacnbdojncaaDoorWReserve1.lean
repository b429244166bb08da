/-
  Walks: reservations are checked.
-/
import Derived.Test.YtpokacnbdojncaaDoorWIdent4
import Derived.Test.YtpokacnbdojncaaDoorPReserve
import Derived.Test.YtpokacnbdojncaaDoorSl
namespace Go.Proofs.YtpokacnbdojncaaDoor
open Go.RowKit Go.Lib Go.Joins
set_option linter.unusedVariables false

theorem validR_range {r : Resv} (h : r.id < 1 ∨ 2147483647 < r.id ∨ r.conn < 1 ∨ 32 < r.conn) : validR r = 2 := by unfold validR; rw [if_pos h]
theorem validR_name {r : Resv} (h : ¬ (r.id < 1 ∨ 2147483647 < r.id ∨ r.conn < 1 ∨ 32 < r.conn)) (hb : (!validL r.token.data.toList || (!r.group.toList.isEmpty && !validL r.group.data.toList)) = true) : validR r = 4 := by
  unfold validR; rw [if_neg h, if_pos hb]
theorem validR_time {r : Resv} (h : ¬ (r.id < 1 ∨ 2147483647 < r.id ∨ r.conn < 1 ∨ 32 < r.conn)) (hb : (!validL r.token.data.toList || (!r.group.toList.isEmpty && !validL r.group.data.toList)) = false) (ht : r.expiry < 0 ∨ 268435456 < r.expiry) : validR r = 2 := by
  unfold validR; rw [if_neg h, hb, if_neg (by simp), if_pos ht]
theorem validR_ok {r : Resv} (h : ¬ (r.id < 1 ∨ 2147483647 < r.id ∨ r.conn < 1 ∨ 32 < r.conn)) (hb : (!validL r.token.data.toList || (!r.group.toList.isEmpty && !validL r.group.data.toList)) = false) (ht : ¬ (r.expiry < 0 ∨ 268435456 < r.expiry)) : validR r = 0 := by
  unfold validR; rw [if_neg h, hb, if_neg (by simp), if_neg ht]

theorem name_f1 {r : Resv} (h : ¬ validL r.token.data.toList = true) : (!validL r.token.data.toList || (!r.group.toList.isEmpty && !validL r.group.data.toList)) = true := by simp [h]
theorem name_f2 {r : Resv} (h : ¬ r.group.toList = []) (h2 : (!validL r.group.data.toList) = true) : (!validL r.token.data.toList || (!r.group.toList.isEmpty && !validL r.group.data.toList)) = true := by
  have : r.group.toList.isEmpty = false := by simpa using h
  simp only [this, h2]; simp
theorem name_t1 {r : Resv} (h1 : validL r.token.data.toList = true) (h : r.group.toList = []) : (!validL r.token.data.toList || (!r.group.toList.isEmpty && !validL r.group.data.toList)) = false := by simp [h1, h]
theorem name_t2 {r : Resv} (h1 : validL r.token.data.toList = true) (h2 : (!validL r.group.data.toList) = false) : (!validL r.token.data.toList || (!r.group.toList.isEmpty && !validL r.group.data.toList)) = false := by simp only [h1, h2]; simp

theorem name_g {r : Resv} (h : ¬ r.group.toList = []) (h2 : (!r.group.toList.isEmpty) = false ∨ (!validL r.group.data.toList) = false) : (!validL r.group.data.toList) = false := by
  have : r.group.toList.isEmpty = false := by simpa using h
  simpa [this] using h2

set_option maxHeartbeats 1600000 in
theorem rvalid_any (r : Resv) (w : World) (hr : r.ok) :
    Calls Tryd.prog 16 #[.agg #[.int .i64 r.id, .int .i64 r.conn, .string r.token, .string r.group, .int .i64 r.expiry]] w fun e w' => e = .returned (.int .i64 (validR r)) ∧ Below w.heap.size w w' := by
  have hbw := Below.refl w.heap.size w
  obtain ⟨h1, h2⟩ := hr
  have h1 := small_max h1
  have h2 := small_max h2
  by_cases hrg : r.id < 1 ∨ 2147483647 < r.id ∨ r.conn < 1 ∨ 32 < r.conn
  · have HV := Lib.hid (validR_range hrg)
    go_enter Tryd.func16, Tryd.ntmps16
    go_wp2_with fail
    all_goals try (exfalso; omega)
    all_goals go_ret
    all_goals exact ⟨ret_int (by rw [HV.out]), below_alloc hbw _⟩
  · have i1 : 1 ≤ r.id := by omega
    have i2 : r.id ≤ 2147483647 := by omega
    have i3 : 1 ≤ r.conn := by omega
    have i4 : r.conn ≤ 32 := by omega
    have HRG := Lib.hid hrg
    clear hrg
    go_enter Tryd.func16, Tryd.ntmps16
    go_wp2_with (go_at_call 28; refine (valid_any _ _ (by assumption)).mono ?_; rintro e w' ⟨rfl, hb⟩; obtain ⟨hc, hf⟩ := bcell hb; have hz := hb.size; (try simp only [World.size_alloc, Nat.add_one_le_iff] at hz); (try (have hz0 : w.heap.size < w'.heap.size := by omega)); (try (have hz1 : w.heap.size + 1 < w'.heap.size := by omega)); (try (have hz2 : w.heap.size < w'.heap.size := by omega)); replace hbw := below_step (w := w) (by repeat (first | exact hbw | refine below_alloc ?_ _ | refine below_drew ?_ | refine below_drewN ?_ _ | (refine below_set ?_ ?_ _; rotate_left; (first | exact Nat.le_refl _ | (simp only [World.size_alloc]; omega) | omega)))) hb; clear hb)
    all_goals go_ret
    all_goals refine ⟨ret_int ?_, hbw⟩
    all_goals first
      | exact (validR_name HRG.out (name_f1 ‹_›)).symm
      | exact (validR_name HRG.out (name_f2 ‹_› (And.right ‹_›))).symm
      | exact (validR_time HRG.out (name_t1 ‹_› ‹_›) (by omega)).symm
      | exact (validR_ok HRG.out (name_t1 ‹_› ‹_›) (by omega)).symm
      | exact (validR_time HRG.out (name_t2 ‹_› (name_g ‹_› ‹_›)) (by omega)).symm
      | exact (validR_ok HRG.out (name_t2 ‹_› (name_g ‹_› ‹_›)) (by omega)).symm

end Go.Proofs.YtpokacnbdojncaaDoor
