/-
  Walks: the leaves of package calendar.
-/
import Derived.Test.YtlpjniejbblcnaaDoorProg
import Derived.Test.YtlpjniejbblcnaaDoorPCal2
import Derived.Test.YtlpjniejbblcnaaDoorM1
import Derived.IntWalk
namespace Go.Proofs.YtlpjniejbblcnaaDoor
open Go.RowKit Go.Lib
set_option linter.unusedVariables false

/-- the lengths of the months -/
def lenT (k : Nat) : Int := if k = 1 then 28 else if k = 3 ∨ k = 5 ∨ k = 8 ∨ k = 10 then 30 else 31
/-- the table of the lengths lies in memory -/
def LenV (w : World) : Prop := 4 < w.heap.size ∧ ∀ k, k < 12 → w.cell? ⟨4, k, none⟩ = some (.int .i64 (lenT k))
theorem LenV.below {w w' : World} (h : LenV w) (hb : Below w.heap.size w w') : LenV w' := ⟨Nat.lt_of_lt_of_le h.1 hb.size, fun k hk => (hb.cell (p := ⟨4, k, none⟩) h.1).trans (h.2 k hk)⟩
theorem LenV.drewN {w : World} (h : LenV w) (n : Nat) : LenV (w.drewN n) := h
theorem LenV.alloc {w : World} (h : LenV w) (o : Obj) : LenV (w.alloc o) := h.below ((Below.refl _ _).alloc (Nat.le_refl _) _)
theorem lenT_dim (k : Nat) (hk : k < 12) (y : Int) : lenT k = dimF y (k + 1) - (if k = 1 then lp y else 0) := by
  unfold lenT dimF
  repeat' split
  all_goals omega

theorem quot_of {a b : Int} (h0 : 0 < b) : a / b = (if a.tmod b < 0 then a.tdiv b - 1 else a.tdiv b) ∧ a % b = (if a.tmod b < 0 then a.tmod b + b else a.tmod b) := by
  have h1 := Int.tmod_add_mul_tdiv a b
  have h2 := Int.tmod_lt_of_pos a h0
  have h3 : -b < a.tmod b := Int.lt_tmod_of_pos a h0
  by_cases h : a.tmod b < 0
  · rw [if_pos h, if_pos h]
    exact (Int.ediv_emod_unique h0).2 ⟨by rw [Int.mul_sub]; omega, by omega, by omega⟩
  · rw [if_neg h, if_neg h]
    exact (Int.ediv_emod_unique h0).2 ⟨by omega, by omega, by omega⟩
theorem quot_bd {a b : Int} (h0 : 0 < b) (h2 : -1000000000000 ≤ a) (h3 : a ≤ 1000000000000) : -1000000000000 ≤ a.tdiv b ∧ a.tdiv b ≤ 1000000000000 := by
  have := Int.natAbs_tdiv_le_natAbs a b
  omega
theorem rem_bd {a b : Int} (h0 : 0 < b) : -b < a.tmod b ∧ a.tmod b < b := by
  have h2 := Int.tmod_lt_of_pos a h0
  exact ⟨Int.lt_tmod_of_pos a h0, h2⟩

set_option maxRecDepth 100000 in
set_option maxHeartbeats 800000 in
theorem divide_any (a b : Int) (w : World) (h0 : 0 < b) (h1 : b ≤ 1000000) (h2 : -1000000000000 ≤ a) (h3 : a ≤ 1000000000000) :
    Calls Tryd.prog 106 #[.int .i64 a, .int .i64 b] w fun e w' => e = .returned (.tuple #[.int .i64 (a / b), .int .i64 (a % b)]) ∧ ∃ n, w' = w.drewN n := by
  have HQ := Lib.hid (quot_of (a := a) h0)
  obtain ⟨q1, q2⟩ := quot_bd h0 h2 h3
  obtain ⟨r1, r2⟩ := rem_bd (a := a) h0
  by_cases h : a.tmod b < 0
  all_goals
    go_enter Tryd.func106, Tryd.ntmps106
    go_wp2
    go_quiet (fail)
    go_wp2
    go_ret2
    exact ⟨ret_int2 (by rw [HQ.out.1]; first | rw [if_pos h] | rw [if_neg (Int.not_lt.2 h)]) (by rw [HQ.out.2]; first | rw [if_pos h] | rw [if_neg (Int.not_lt.2 h)]), _, rfl⟩

set_option maxHeartbeats 400000 in
theorem calTime_any (t : Int) (w : World) :
    Calls Tryd.prog 100 #[.int .i64 t] w fun e w' => e = .returned (.bool (timeB t)) ∧ w = w' := by
  go_enter Tryd.func100, Tryd.ntmps100
  go_wp2
  all_goals go_ret
  all_goals exact ⟨ret_bool (by rw [Bool.eq_iff_iff, timeB_iff]; simp; omega), rfl⟩

set_option maxHeartbeats 400000 in
theorem leap_any (y : Int) (w : World) (h0 : 0 ≤ y) (h1 : y ≤ 10000) :
    Calls Tryd.prog 113 #[.int .i64 y] w fun e w' => e = .returned (.bool (leapB y)) ∧ w = w' := by
  go_enter Tryd.func113, Tryd.ntmps113
  go_wp2
  all_goals go_ret
  all_goals exact ⟨ret_bool (by unfold leapB; simp [*]), rfl⟩

set_option maxRecDepth 100000 in
set_option maxHeartbeats 400000 in
theorem multiples_any (k n : Int) (w : World) (h0 : 0 < n) (h1 : n ≤ 1000) (h2 : -100000 ≤ k) (h3 : k ≤ 100000) :
    Calls Tryd.prog 112 #[.int .i64 k, .int .i64 n] w fun e w' => e = .returned (.int .i64 ((k + n - 1) / n)) ∧ ∃ n, w' = w.drewN n := by
  go_enter Tryd.func112, Tryd.ntmps112
  go_wp2_with (go_at_call 106; refine (divide_any _ _ _ (by omega) (by omega) (by omega) (by omega)).mono ?_; rintro e w' ⟨rfl, n', rfl⟩)
  go_ret
  exact ⟨rfl, _, rfl⟩

set_option maxRecDepth 100000 in
set_option maxHeartbeats 800000 in
theorem yearStart_any (y : Int) (w : World) (h0 : 1000 ≤ y) (h1 : y ≤ 10000) :
    Calls Tryd.prog 108 #[.int .i64 y] w fun e w' => e = .returned (.int .i64 (yst y)) ∧ ∃ n, w' = w.drewN n := by
  go_enter Tryd.func108, Tryd.ntmps108
  go_wp2_with (go_at_call 112; refine (multiples_any _ _ _ (by omega) (by omega) (by omega) (by omega)).mono ?_; rintro e w' ⟨rfl, n', rfl⟩)
  go_ret
  exact ⟨ret_int (by unfold yst; omega), _, rfl⟩

set_option maxRecDepth 100000 in
set_option maxHeartbeats 400000 in
theorem weekday_any (d : Int) (w : World) (h0 : -1000000 ≤ d) (h1 : d ≤ 1000000) :
    Calls Tryd.prog 110 #[.int .i64 d] w fun e w' => e = .returned (.int .i64 (wdF d)) ∧ ∃ n, w' = w.drewN n := by
  go_enter Tryd.func110, Tryd.ntmps110
  go_wp2_with (go_at_call 106; refine (divide_any _ _ _ (by omega) (by omega) (by omega) (by omega)).mono ?_; rintro e w' ⟨rfl, n', rfl⟩)
  go_ret
  exact ⟨ret_int (by unfold wdF; first | rfl | omega), _, rfl⟩

set_option maxRecDepth 100000 in
set_option maxHeartbeats 800000 in
theorem monthDays_any (y m : Int) (w : World) (hv : LenV w) (h0 : 0 ≤ y) (h1 : y ≤ 10000) (h2 : 1 ≤ m) (h3 : m ≤ 12) :
    Calls Tryd.prog 109 #[.int .i64 y, .int .i64 m] w fun e w' => e = .returned (.int .i64 (dimF y m)) ∧ w = w' := by
  obtain ⟨k, rfl⟩ : ∃ k : Nat, m = (k : Int) + 1 := ⟨(m - 1).toNat, by omega⟩
  have hk : k < 12 := by omega
  have h1c := hv.2 1 (by omega)
  have hkc := hv.2 k hk
  have hkd := Lib.hid (lenT_dim k hk y)
  have hlp := Lib.hid (show lp y = if leapB y then 1 else 0 from rfl)
  have hl := (show lenT 1 = 28 from rfl)
  rw [hl] at h1c
  generalize lenT k = L at *
  clear hv hl
  by_cases e1 : k = 1
  · subst e1
    cases e2 : leapB y
    all_goals
      go_enter Tryd.func109, Tryd.ntmps109
      go_wp2_with (go_at_call 113; refine (leap_any _ _ (by omega) (by omega)).mono ?_; rintro e w' ⟨rfl, rfl⟩; rw [e2])
      go_ret
      exact ⟨ret_int (by show (_ : Int) = dimF y 2; unfold dimF lp; simp [e2]), rfl⟩
  · have e3 : ((k : Int) + 1 == 2) = false := by simp; omega
    go_enter Tryd.func109, Tryd.ntmps109
    go_wp2
    go_ret
    exact ⟨ret_int (by have h9 := hkd.out; rw [if_neg e1] at h9; omega), rfl⟩

end Go.Proofs.YtlpjniejbblcnaaDoor
