/-
  Walks: tokens are checked; their status; long strings.
-/
import Derived.Test.YtcaicdjlfgpbfaaWIdent4
import Derived.Test.YtcaicdjlfgpbfaaPToken
import Derived.Test.YtcaicdjlfgpbfaaSl
import Derived.Test.YtcaicdjlfgpbfaaKept
import Derived.Test.YtcaicdjlfgpbfaaBox
namespace Go.Proofs.Ytcaicdjlfgpbfaa
open Go.RowKit Go.Lib Go.Joins
attribute [local go_sem] after_cell
set_option linter.unusedVariables false

theorem vt_id {t : Tok} (h : validL t.id.data.toList = false) : validT t = 4 := by simp [validT, h]
theorem vt_g {t : Tok} (h : nameBad t.group = true) : validT t = 4 := by simp [validT, h]
theorem vt_c {t : Tok} (h : nameBad t.contract = true) : validT t = 4 := by simp [validT, h]
theorem vt_n {t : Tok} (h : validL t.id.data.toList = true) (h2 : nameBad t.group = false) (h3 : nameBad t.contract = false) :
    validT t = if t.kind < 1 ∨ 3 < t.kind ∨ t.status < 1 ∨ 3 < t.status ∨ t.expiry < -1 ∨ 268435456 < t.expiry then 2 else 0 := by simp [validT, h, h2, h3]

theorem nb_empty {s : ByteArray} (h : s.toList = []) : nameBad s = false := by simp [nameBad, h]
theorem nb_full {s : ByteArray} {b : Bool} (h : ¬ s.toList = []) (h2 : validL s.data.toList = b) : nameBad s = !b := by
  have : s.toList.isEmpty = false := by simpa using h
  simp [nameBad, this, h2]
theorem em_t {s : ByteArray} (h : s.toList = []) : s.toList.isEmpty = true := by simp [h]
theorem em_f {s : ByteArray} (h : ¬ s.toList = []) : s.toList.isEmpty = false := by simpa using h

set_option maxHeartbeats 3200000 in
theorem tvalid_any (t : Tok) (w : World) (ht : t.fits) :
    Calls Try.prog 10 #[.agg #[.string t.id, .string t.group, .string t.contract, .int .i64 t.kind, .int .i64 t.status, .int .i64 t.expiry]] w fun e w' => e = .returned (.int .i64 (validT t)) ∧ Below w.heap.size w w' := by
  have hbw := Below.refl w.heap.size w
  obtain ⟨h1, h2, h3⟩ := ht
  cases hid : validL t.id.data.toList with
  | false =>
    have HV := Lib.hid (vt_id hid)
    go_enter Try.func10, Try.ntmps10
    go_wp2_with (go_at_call 25; refine (valid_any _ _ (by assumption)).mono ?_; rintro e w' ⟨rfl, hb⟩; obtain ⟨hc, hf⟩ := bcell hb; have hz := hb.size; (try simp only [World.size_alloc, Nat.add_one_le_iff] at hz); (try (have hz0 : w.heap.size < w'.heap.size := by omega)); (try (have hz1 : w.heap.size + 1 < w'.heap.size := by omega)); (try (have hz2 : w.heap.size < w'.heap.size := by omega)); replace hbw := below_step (w := w) (by repeat (first | exact hbw | refine below_alloc ?_ _ | refine below_drew ?_ | refine below_drewN ?_ _ | (refine below_set ?_ ?_ _; rotate_left; (first | exact Nat.le_refl _ | (simp only [World.size_alloc]; omega) | omega)))) hb; clear hb)
    all_goals go_ret
    all_goals exact ⟨ret_int (by rw [HV.out]), hbw⟩
  | true =>
    by_cases hge : t.group.toList = []
    · have hge2 := em_t hge
      by_cases hce : t.contract.toList = []
      · have hce2 := em_t hce
        have HV := Lib.hid (vt_n hid (nb_empty hge) (nb_empty hce))
        go_enter Try.func10, Try.ntmps10
        go_wp2_with (go_at_call 25; refine (valid_any _ _ (by assumption)).mono ?_; rintro e w' ⟨rfl, hb⟩; obtain ⟨hc, hf⟩ := bcell hb; have hz := hb.size; (try simp only [World.size_alloc, Nat.add_one_le_iff] at hz); (try (have hz0 : w.heap.size < w'.heap.size := by omega)); (try (have hz1 : w.heap.size + 1 < w'.heap.size := by omega)); (try (have hz2 : w.heap.size < w'.heap.size := by omega)); replace hbw := below_step (w := w) (by repeat (first | exact hbw | refine below_alloc ?_ _ | refine below_drew ?_ | refine below_drewN ?_ _ | (refine below_set ?_ ?_ _; rotate_left; (first | exact Nat.le_refl _ | (simp only [World.size_alloc]; omega) | omega)))) hb; clear hb)
        all_goals go_ret
        all_goals exact ⟨ret_int (by rw [HV.out]; split <;> omega), hbw⟩
      · have hce2 := em_f hce
        cases hcv : validL t.contract.data.toList with
        | false =>
          have HV := Lib.hid (vt_c (nb_full hce hcv))
          go_enter Try.func10, Try.ntmps10
          go_wp2_with (go_at_call 25; refine (valid_any _ _ (by assumption)).mono ?_; rintro e w' ⟨rfl, hb⟩; obtain ⟨hc, hf⟩ := bcell hb; have hz := hb.size; (try simp only [World.size_alloc, Nat.add_one_le_iff] at hz); (try (have hz0 : w.heap.size < w'.heap.size := by omega)); (try (have hz1 : w.heap.size + 1 < w'.heap.size := by omega)); (try (have hz2 : w.heap.size < w'.heap.size := by omega)); replace hbw := below_step (w := w) (by repeat (first | exact hbw | refine below_alloc ?_ _ | refine below_drew ?_ | refine below_drewN ?_ _ | (refine below_set ?_ ?_ _; rotate_left; (first | exact Nat.le_refl _ | (simp only [World.size_alloc]; omega) | omega)))) hb; clear hb)
          all_goals go_ret
          all_goals exact ⟨ret_int (by rw [HV.out]), hbw⟩
        | true =>
          have HV := Lib.hid (vt_n hid (nb_empty hge) (nb_full hce hcv))
          go_enter Try.func10, Try.ntmps10
          go_wp2_with (go_at_call 25; refine (valid_any _ _ (by assumption)).mono ?_; rintro e w' ⟨rfl, hb⟩; obtain ⟨hc, hf⟩ := bcell hb; have hz := hb.size; (try simp only [World.size_alloc, Nat.add_one_le_iff] at hz); (try (have hz0 : w.heap.size < w'.heap.size := by omega)); (try (have hz1 : w.heap.size + 1 < w'.heap.size := by omega)); (try (have hz2 : w.heap.size < w'.heap.size := by omega)); replace hbw := below_step (w := w) (by repeat (first | exact hbw | refine below_alloc ?_ _ | refine below_drew ?_ | refine below_drewN ?_ _ | (refine below_set ?_ ?_ _; rotate_left; (first | exact Nat.le_refl _ | (simp only [World.size_alloc]; omega) | omega)))) hb; clear hb)
          all_goals go_ret
          all_goals exact ⟨ret_int (by rw [HV.out]; split <;> omega), hbw⟩
    · have hge2 := em_f hge
      cases hgv : validL t.group.data.toList with
      | false =>
        have HV := Lib.hid (vt_g (nb_full hge hgv))
        go_enter Try.func10, Try.ntmps10
        go_wp2_with (go_at_call 25; refine (valid_any _ _ (by assumption)).mono ?_; rintro e w' ⟨rfl, hb⟩; obtain ⟨hc, hf⟩ := bcell hb; have hz := hb.size; (try simp only [World.size_alloc, Nat.add_one_le_iff] at hz); (try (have hz0 : w.heap.size < w'.heap.size := by omega)); (try (have hz1 : w.heap.size + 1 < w'.heap.size := by omega)); (try (have hz2 : w.heap.size < w'.heap.size := by omega)); replace hbw := below_step (w := w) (by repeat (first | exact hbw | refine below_alloc ?_ _ | refine below_drew ?_ | refine below_drewN ?_ _ | (refine below_set ?_ ?_ _; rotate_left; (first | exact Nat.le_refl _ | (simp only [World.size_alloc]; omega) | omega)))) hb; clear hb)
        all_goals go_ret
        all_goals exact ⟨ret_int (by rw [HV.out]), hbw⟩
      | true =>
        by_cases hce : t.contract.toList = []
        · have hce2 := em_t hce
          have HV := Lib.hid (vt_n hid (nb_full hge hgv) (nb_empty hce))
          go_enter Try.func10, Try.ntmps10
          go_wp2_with (go_at_call 25; refine (valid_any _ _ (by assumption)).mono ?_; rintro e w' ⟨rfl, hb⟩; obtain ⟨hc, hf⟩ := bcell hb; have hz := hb.size; (try simp only [World.size_alloc, Nat.add_one_le_iff] at hz); (try (have hz0 : w.heap.size < w'.heap.size := by omega)); (try (have hz1 : w.heap.size + 1 < w'.heap.size := by omega)); (try (have hz2 : w.heap.size < w'.heap.size := by omega)); replace hbw := below_step (w := w) (by repeat (first | exact hbw | refine below_alloc ?_ _ | refine below_drew ?_ | refine below_drewN ?_ _ | (refine below_set ?_ ?_ _; rotate_left; (first | exact Nat.le_refl _ | (simp only [World.size_alloc]; omega) | omega)))) hb; clear hb)
          all_goals go_ret
          all_goals exact ⟨ret_int (by rw [HV.out]; split <;> omega), hbw⟩
        · have hce2 := em_f hce
          cases hcv : validL t.contract.data.toList with
          | false =>
            have HV := Lib.hid (vt_c (nb_full hce hcv))
            go_enter Try.func10, Try.ntmps10
            go_wp2_with (go_at_call 25; refine (valid_any _ _ (by assumption)).mono ?_; rintro e w' ⟨rfl, hb⟩; obtain ⟨hc, hf⟩ := bcell hb; have hz := hb.size; (try simp only [World.size_alloc, Nat.add_one_le_iff] at hz); (try (have hz0 : w.heap.size < w'.heap.size := by omega)); (try (have hz1 : w.heap.size + 1 < w'.heap.size := by omega)); (try (have hz2 : w.heap.size < w'.heap.size := by omega)); replace hbw := below_step (w := w) (by repeat (first | exact hbw | refine below_alloc ?_ _ | refine below_drew ?_ | refine below_drewN ?_ _ | (refine below_set ?_ ?_ _; rotate_left; (first | exact Nat.le_refl _ | (simp only [World.size_alloc]; omega) | omega)))) hb; clear hb)
            all_goals go_ret
            all_goals exact ⟨ret_int (by rw [HV.out]), hbw⟩
          | true =>
            have HV := Lib.hid (vt_n hid (nb_full hge hgv) (nb_full hce hcv))
            go_enter Try.func10, Try.ntmps10
            go_wp2_with (go_at_call 25; refine (valid_any _ _ (by assumption)).mono ?_; rintro e w' ⟨rfl, hb⟩; obtain ⟨hc, hf⟩ := bcell hb; have hz := hb.size; (try simp only [World.size_alloc, Nat.add_one_le_iff] at hz); (try (have hz0 : w.heap.size < w'.heap.size := by omega)); (try (have hz1 : w.heap.size + 1 < w'.heap.size := by omega)); (try (have hz2 : w.heap.size < w'.heap.size := by omega)); replace hbw := below_step (w := w) (by repeat (first | exact hbw | refine below_alloc ?_ _ | refine below_drew ?_ | refine below_drewN ?_ _ | (refine below_set ?_ ?_ _; rotate_left; (first | exact Nat.le_refl _ | (simp only [World.size_alloc]; omega) | omega)))) hb; clear hb)
            all_goals go_ret
            all_goals exact ⟨ret_int (by rw [HV.out]; split <;> omega), hbw⟩

set_option maxHeartbeats 1600000 in
theorem status_any (t : Tok) (now : Int) (w : World) :
    Calls Try.prog 47 #[.agg #[.string t.id, .string t.group, .string t.contract, .int .i64 t.kind, .int .i64 t.status, .int .i64 t.expiry], .int .i64 now] w fun e w' => e = .returned (.int .i64 (statusT t now)) ∧ Below w.heap.size w w' := by
  have hbw := Below.refl w.heap.size w
  go_enter Try.func47, Try.ntmps47
  go_wp2_with fail
  all_goals go_ret
  all_goals exact ⟨ret_int (by unfold statusT; simp_all <;> omega), below_alloc hbw _⟩

end Go.Proofs.Ytcaicdjlfgpbfaa
