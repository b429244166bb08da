/-
  Walks: slices.Index and slices.Contains of reservations.
-/
import Derived.Test.YtpokacnbdojncaaWReserve10
namespace Go.Proofs.Ytpokacnbdojncaa
open Go.RowKit Go.Lib Go.Joins
set_option linter.unusedVariables false

noncomputable def inL {α : Type} (a : List α) (x : α) : Bool := @decide (x ∈ a) (Classical.propDecidable _)
theorem inL_t {α : Type} {a : List α} {x : α} (h : x ∈ a) : inL a x = true := by unfold inL; simpa using h
theorem inL_f {α : Type} {a : List α} {x : α} (h : ¬ x ∈ a) : inL a x = false := by unfold inL; simpa using h

theorem in_at {α : Type} {a : List α} {x : α} {k : Nat} (hk : k < a.length) (h : x = a[k]) : x ∈ a := h ▸ List.getElem_mem hk
theorem in_step {α : Type} {a : List α} {x : α} {k : Nat} (h : ¬ x ∈ a.take k) (hk : k < a.length) (hn : ¬ x = a[k]) : ¬ x ∈ a.take (k + 1) := by
  rw [List.take_succ_eq_append_getElem hk, List.mem_append]
  simp [h, hn]
theorem in_all {α : Type} {a : List α} {x : α} {k : Nat} (h : ¬ x ∈ a.take k) (hk : ¬ k < a.length) : ¬ x ∈ a := by
  rw [List.take_of_length_le (by omega)] at h
  exact h

set_option maxHeartbeats 1600000 in
/-- the result: 0 or more where the list has it, -1 where not -/
theorem index_any (a : List Resv) (r : Resv) (u : Value) (w : World) (ha : a.length ≤ 1000000) (hu : IsSl w 5 u (a.map Resv.cells)) :
    Calls Try.prog 32 #[u, .agg #[.int .i64 r.id, .int .i64 r.conn, .string r.token, .string r.group, .int .i64 r.expiry]] w
      fun e w' => ∃ i : Int, e = .returned (.int .i64 i) ∧ decide (0 ≤ i) = inL a r ∧ Below w.heap.size w w' := by
  obtain ⟨A, c, rfl, hlc, hcm, hsl⟩ := islen hu
  clear hu
  obtain ⟨W0, hW0, hb0, hgl, hbx⟩ := box1 w #[.int .i64 r.id, .int .i64 r.conn, .string r.token, .string r.group, .int .i64 r.expiry] 23
  have hsl0 := hsl.below hb0
  go_enter Try.func32, Try.ntmps32
  go_wp2_with fail
  rw [← hW0]
  clear hW0
  go_loopw [5, 8] (fun p i wr => ∃ (k : Nat), k ≤ a.length ∧ i = .int .i64 k ∧ Below W0.heap.size W0 wr ∧ Hid (¬ r ∈ a.take k)) (fun _ i _ => a.length - (intOf i).toNat)
  case atStart => exact ⟨0, by omega, rfl, Below.refl _ _, by show ¬ _; simp⟩
  case round =>
    obtain ⟨k, hk, rfl, hbw, HT⟩ := hrel
    obtain ⟨hc, hf⟩ := bcell hbw
    by_cases hlt : k < a.length
    · have hki : (k : Int) < (a.length : Int) := by omega
      obtain ⟨g, off, rfl, hb, c0, c1, c2, c3, c4⟩ := resv_at (hsl0.below hbw) hlt
      have HS := Lib.hid (fun h => in_step HT.out hlt h)
      have HF := Lib.hid (fun h => in_at (x := r) hlt h)
      generalize hx : a[k] = x at *
      clear hx
      have hnq := eql_resv r x
      have heg := fun w => run_eqGuard_agg (P := Try.prog) w .eql 23 (.tmp 11) (.tmp 15) #[.int .i64 r.id, .int .i64 r.conn, .string r.token, .string r.group, .int .i64 r.expiry] #[.int .i64 x.id, .int .i64 x.conn, .string x.token, .string x.group, .int .i64 x.expiry] Try.eqGuardType23
      cases hq : eqX r x with
      | true =>
        have HE := Lib.hid (inL_t (HF.out ((eqX_iff r x).1 hq)))
        rw [hq] at hnq
        go_wp2_with fail
        go_quiet (fail)
        go_wp2_with fail
        go_ret
        exact ⟨_, rfl, by rw [HE.out]; simp, below_step hb0 (by repeat (first | exact hbw | refine below_alloc ?_ _ | refine below_drew ?_ | refine below_drewN ?_ _))⟩
      | false =>
        have HT2 := Lib.hid (HS.out (fun h => absurd ((eqX_iff r x).2 h) (by simp [hq])))
        rw [hq] at hnq
        go_wp2_with fail
        go_quiet (fail)
        go_wp2_with fail
        go_roundw
        case measure => simp [intOf]; omega
        case rel => exact ⟨k + 1, by omega, by go_num, (by repeat (first | exact hbw | refine below_alloc ?_ _ | refine below_drew ?_ | refine below_drewN ?_ _)), HT2⟩
    · have hkl : ¬ (k : Int) < (a.length : Int) := by omega
      have HE := Lib.hid (inL_f (in_all HT.out hlt))
      go_wp2_with fail
      go_ret
      exact ⟨_, rfl, by rw [HE.out]; decide, below_step hb0 hbw⟩

theorem contains_any (a : List Resv) (r : Resv) (u : Value) (w : World) (ha : a.length ≤ 1000000) (hu : IsSl w 5 u (a.map Resv.cells)) :
    Calls Try.prog 24 #[u, .agg #[.int .i64 r.id, .int .i64 r.conn, .string r.token, .string r.group, .int .i64 r.expiry]] w
      fun e w' => e = .returned (.bool (inL a r)) ∧ Below w.heap.size w w' := by
  obtain ⟨W0, hW0, hb0, hgl, hbx⟩ := box1 w #[.int .i64 r.id, .int .i64 r.conn, .string r.token, .string r.group, .int .i64 r.expiry] 23
  go_enter Try.func24, Try.ntmps24
  go_wp2_with fail
  rw [← hW0]
  refine (index_any a r u _ ha (hu.below hb0)).mono ?_
  rintro e w' ⟨i, rfl, hi, hb⟩
  go_wp2_with fail
  go_ret
  exact ⟨ret_bool rfl, below_step hb0 hb⟩

end Go.Proofs.Ytpokacnbdojncaa
