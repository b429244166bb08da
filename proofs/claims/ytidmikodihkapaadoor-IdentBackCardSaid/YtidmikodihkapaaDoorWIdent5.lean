/-
  Walks: Check, in package ident and in its reference.
-/
import Derived.Test.YtidmikodihkapaaDoorWIdent4
namespace Go.Proofs.YtidmikodihkapaaDoor
open Go.RowKit
set_option linter.unusedVariables false

theorem valid_ascii {s : ByteArray} (h : validL s.data.toList = true) (k : Nat) (hk : k < s.size) : s[k].toNat < 128 := by
  unfold validL at h
  simp only [Bool.and_eq_true, List.all_eq_true] at h
  have := h.2 s[k] (by show s.data[k] ∈ _; simp)
  by_cases hh : s[k].toNat < 128
  · exact hh
  · rw [okC_high _ (by omega)] at this; cases this
theorem valid_len {s : ByteArray} (h : validL s.data.toList = true) : 1 ≤ s.size ∧ s.size ≤ 36 := by
  have hll : s.data.toList.length = s.size := by simp
  unfold validL at h
  rw [hll] at h
  simp only [Bool.and_eq_true, decide_eq_true_eq] at h
  exact h.1
theorem check_bad {s : ByteArray} (h : validL s.data.toList = false) : checkC s.data.toList = 0 ∧ checkE s.data.toList = 4 := by simp [checkC, checkE, h]
theorem check_none {s : ByteArray} {P C : Int} (hs : sumL s.data.toList 36 0 = (P, C)) (h : decide (0 < C) = false) : checkC s.data.toList = 0 ∧ checkE s.data.toList = 4 := by
  simp only [decide_eq_false_iff_not] at h
  simp [checkC, checkE, hs, h]
theorem check_good {s : ByteArray} {P C : Int} (hv : validL s.data.toList = true) (hs : sumL s.data.toList 36 0 = (P, C)) (h : decide (0 < C) = true) : checkC s.data.toList = chrI ((37 - P) % 36) ∧ checkE s.data.toList = 0 := by
  simp only [decide_eq_true_eq] at h
  simp [checkC, checkE, hs, hv, h]

set_option maxHeartbeats 1600000 in
theorem check_any (s : ByteArray) (w : World) (hs : s.size ≤ maxLen) :
    Calls Tryd.prog 10 #[.string s] w fun e w' => e = .returned (.tuple #[.int .u8 (checkC s.data.toList), .int .i64 (checkE s.data.toList)]) ∧ Below w.heap.size w w' := by
  cases hv : validL s.data.toList with
  | false =>
    have HC := Lib.hid (check_bad hv)
    have HV := Lib.hid hv
    clear hv
    go_enter Tryd.func10, Tryd.ntmps10
    go_wp2_with fail
    refine (valid_any s _ hs).mono ?_
    rintro e w1 ⟨rfl, hb1⟩
    rw [HV.out]
    go_wp2_with fail
    go_ret2
    exact ⟨ret_int2 (by rw [HC.out.1]) (by rw [HC.out.2]), hb1⟩
  | true =>
    have hlen := valid_len hv
    have hasc := valid_ascii hv
    have HV := Lib.hid hv
    have HA := Lib.hid hasc
    clear hv hasc
    obtain ⟨hl1, hl2⟩ := hlen
    go_enter Tryd.func10, Tryd.ntmps10
    go_wp2_with fail
    refine (valid_any s _ hs).mono ?_
    rintro e w1 ⟨rfl, hb1⟩
    rw [HV.out]
    go_wp2_with fail
    go_loopw [4, 5, 8] (fun p f _ wr => ∃ (pos : Nat) (P C : Int) (F : Bool), pos ≤ s.size ∧ p = .int .i64 P ∧ f = .bool F ∧ 1 ≤ P ∧ P ≤ 36 ∧ 0 ≤ C ∧ wr.heap[w1.heap.size]? = some (.stringIter s pos) ∧ Below w.heap.size w wr ∧ Hid (sumL (s.data.toList.take pos) 36 0 = (P, C)) ∧ Hid (decide (0 < C) = F)) (fun _ _ _ wr => s.size - wr.iterPos w1.heap.size)
    case atStart => exact ⟨0, 36, 0, false, by omega, rfl, rfl, by omega, by omega, by omega, World.iter_heap w1 s 0, hb1.alloc hb1.size _, rfl, rfl⟩
    case round =>
      obtain ⟨pos, P, C, F, hpos, rfl, rfl, hP0, hP1, hC0, hit, hbw, H, HF⟩ := hrel
      have hpos0 := iterPos_of hit
      by_cases hp : pos < s.size
      · have ha := HA.out pos hp
        have hnx : ∀ ty, (Instr.next (.pointer (some ⟨w1.heap.size, 0, none⟩)) true ty).run Tryd.prog wr = _ := fun ty => Lib.run_next_ascii_at wr w1.heap.size s pos ty hit hp ha
        have hit2 := Lib.iterAt_heap wr w1.heap.size s pos (pos + 1) hit
        have hbw2 := Lib.below_iterAt hbw (k := w1.heap.size) hb1.size s (pos + 1)
        generalize wr.iterAt w1.heap.size s (pos + 1) = W1 at hnx hit2 hbw2
        obtain ⟨hb0, hb1'⟩ := byte_lt s pos hp
        have hv := valI_lt (s[pos].toNat : Int)
        have hsm := sumL_take s pos hp 36 0
        have hsr := sumStep_range P (valI (s[pos].toNat : Int))
        rw [H.out] at hsm
        have HS := Lib.hid hsm
        have HR := Lib.hid hsr
        clear hsm hsr hit hbw
        go_wp2_with (go_at_call 22; refine (value_any _ _ (by omega) (by omega)).mono ?_; rintro e w' ⟨rfl, rfl⟩)
        all_goals go_roundw
        all_goals try (case measure => rw [iterPos_of hit2, hpos0]; omega)
        · case rel => exact ⟨pos + 1, P, C, F, by omega, rfl, rfl, by omega, by omega, by omega, hit2, hbw2, by show _ = _; rw [HS.out, if_pos ‹_›], HF⟩
        · case rel => exact ⟨pos + 1, 35, C + 1, true, by omega, rfl, rfl, by omega, by omega, by omega, hit2, hbw2, by show _ = _; rw [HS.out, if_neg (by omega), sumStep_zero ‹_›], by show _ = _; simp; omega⟩
        · case rel =>
          have hst := sumStep_pos ‹((P + valI (s[pos].toNat : Int)) % 36 == 0) = false›
          have hr := HR.out
          rw [hst] at hr
          exact ⟨pos + 1, _, C + 1, true, by omega, rfl, rfl, hr.1, hr.2, by omega, hit2, hbw2, by show _ = _; rw [HS.out, if_neg (by omega), hst], by show _ = _; simp; omega⟩
      · have hnx : ∀ ty, (Instr.next (.pointer (some ⟨w1.heap.size, 0, none⟩)) true ty).run Tryd.prog wr = _ := fun ty => Lib.run_next_end_at wr w1.heap.size s pos ty hit hp
        have hall := H.out
        rw [sumL_full s pos hp] at hall
        have hF := HF.out
        cases F with
        | false =>
          have HC := Lib.hid (check_none hall hF)
          clear hall hF
          go_wp2
          go_ret2
          exact ⟨ret_int2 (by rw [HC.out.1]) (by rw [HC.out.2]), hbw⟩
        | true =>
          have HC := Lib.hid (check_good HV.out hall hF)
          clear hall hF
          go_wp2
          all_goals go_ret2
          all_goals exact ⟨ret_int2 (by rw [HC.out.1]; unfold chrI; split <;> omega) (by rw [HC.out.2]), hbw⟩

end Go.Proofs.YtidmikodihkapaaDoor
