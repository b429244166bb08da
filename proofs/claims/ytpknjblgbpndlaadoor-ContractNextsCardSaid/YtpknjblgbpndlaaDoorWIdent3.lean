/-
  Walks: check characters, in package ident and in its reference.
-/
import Derived.Test.YtpknjblgbpndlaaDoorWIdent2
namespace Go.Proofs.YtpknjblgbpndlaaDoor
open Go.RowKit
set_option linter.unusedVariables false

theorem byte_lt (s : ByteArray) (k : Nat) (h : k < s.size) : 0 ≤ (s[k].toNat : Int) ∧ (s[k].toNat : Int) ≤ 255 := by
  have := s[k].toNat_lt; omega

theorem okC_iff {r : Int} : okC r = true ↔ 0 ≤ valI r ∨ r = 45 ∨ r = 95 ∨ r = 46 ∨ r = 58 ∨ r = 42 := by
  simp [okC]; omega
theorem okC_last {r : Int} (h : ((((r != 45) = false ∨ (r != 95) = false) ∨ (r != 46) = false) ∨ (r != 58) = false) ∨ (r != 42) = false) : okC r = true := by
  simp at h; rw [okC_iff]; omega
theorem okC_none {r : Int} (hv : valI r < 0) (h : ((((r != 45) = true ∧ (r != 95) = true) ∧ (r != 46) = true) ∧ (r != 58) = true) ∧ (r != 42) = true) : okC r = false := by
  simp at h
  cases ho : okC r with
  | false => rfl
  | true => rw [okC_iff] at ho; omega

set_option maxHeartbeats 800000 in
theorem refIdV_any (s : ByteArray) (w : World) (hs : s.size ≤ maxLen) :
    Calls Tryd.prog 34 #[.string s] w fun e w' => e = .returned (.bool (validL s.data.toList)) ∧ ∃ n, w' = w.drewN n := by
  unfold maxLen at hs
  have hll : s.data.toList.length = s.size := by simp
  by_cases hlo : s.size < 1
  · have hv : validL s.data.toList = false := by unfold validL; rw [hll]; simp; omega
    have HV := Lib.hid hv
    clear hv hll
    go_enter Tryd.func34, Tryd.ntmps34
    go_wp2
    go_ret
    exact ⟨ret_bool (by rw [HV.out]), 0, rfl⟩
  · by_cases hhi : 36 < s.size
    · have hv : validL s.data.toList = false := by unfold validL; rw [hll]; simp; omega
      have HV := Lib.hid hv
      clear hv hll
      go_enter Tryd.func34, Tryd.ntmps34
      go_wp2
      go_ret
      exact ⟨ret_bool (by rw [HV.out]), 0, rfl⟩
    · have hv : validL s.data.toList = s.data.toList.all (fun b => okC b.toNat) := by
        unfold validL; rw [hll]; simp; intros; omega
      have HV := Lib.hid hv
      clear hv hll
      go_enter Tryd.func34, Tryd.ntmps34
      go_wp2
      go_loopw [3] (fun i wr => ∃ k : Nat, k ≤ s.size ∧ i = .int .i64 k ∧ Hid (∃ n, wr = w.drewN n) ∧ Hid ((s.data.toList.take k).all (fun b => okC b.toNat) = true)) (fun i _ => s.size - (intOf i).toNat)
      case atStart => exact ⟨0, by omega, rfl, ⟨0, rfl⟩, rfl⟩
      case round =>
        obtain ⟨k, hk, rfl, HW, H⟩ := hrel
        by_cases hlt : k < s.size
        · obtain ⟨hb0, hb1⟩ := byte_lt s k hlt
          go_wp2_with (go_at_call 51; refine (refValue_any _ _ (by omega) (by omega)).mono ?_; rintro e w' ⟨rfl, n', rfl⟩)
          all_goals try (
            have hk' : okC (s[k].toNat : Int) = true := by
              first
                | (rw [okC_iff]; omega)
                | exact okC_last ‹_›
            go_roundw
            case rel => exact ⟨k + 1, by omega, by go_num, drewN_more HW _, by show _ = true; rw [all_take_succ s k hlt, H.out, hk']; rfl⟩
            case measure => simp [intOf]; omega)
          have hb : okC (s[k].toNat : Int) = false := okC_none ‹valI (s[k].toNat : Int) < 0› ‹_›
          go_ret
          exact ⟨ret_bool (by rw [HV.out, all_false_at s k hlt _ hb]), drewN_more HW _⟩
        · have hall := H.out
          rw [all_full s _ k hlt] at hall
          have HA := Lib.hid hall
          clear hall
          go_wp2
          go_ret
          exact ⟨ret_bool (by rw [HV.out, HA.out]), HW.out⟩

theorem sumL_take (s : ByteArray) (k : Nat) (h : k < s.size) (p n : Int) : sumL (s.data.toList.take (k + 1)) p n = if valI (s[k].toNat : Int) < 0 then sumL (s.data.toList.take k) p n else (sumStep (sumL (s.data.toList.take k) p n).1 (valI (s[k].toNat : Int)), (sumL (s.data.toList.take k) p n).2 + 1) := by
  rw [bytes_at s k h, sumL_append]

theorem sumL_full (s : ByteArray) (k : Nat) (h : ¬ k < s.size) (p n : Int) : sumL (s.data.toList.take k) p n = sumL s.data.toList p n := by
  rw [List.take_of_length_le (by simp; omega)]

theorem sumStep_zero {p v : Int} (h : ((p + v) % 36 == 0) = true) : sumStep p v = 35 := by simp at h; unfold sumStep; rw [if_pos (by omega)]
theorem sumStep_pos {p v : Int} (h : ((p + v) % 36 == 0) = false) : sumStep p v = 2 * ((p + v) % 36) % 37 := by simp at h; unfold sumStep; rw [if_neg (by omega)]

end Go.Proofs.YtpknjblgbpndlaaDoor
