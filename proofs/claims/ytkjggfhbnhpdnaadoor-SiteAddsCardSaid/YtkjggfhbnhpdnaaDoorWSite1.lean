/-
  Walks: the leaves of package site: powers, feeders, names that are taken.
-/
import Derived.Test.YtkjggfhbnhpdnaaDoorPSite
import Derived.Test.YtkjggfhbnhpdnaaDoorMapB
import Derived.Test.YtkjggfhbnhpdnaaDoorWIdent2
import Derived.Test.YtkjggfhbnhpdnaaDoorAscCase
namespace Go.Proofs.YtkjggfhbnhpdnaaDoor
open Go.RowKit Go.Lib Go.Maps
set_option linter.unusedVariables false

theorem isPower_any (n : Int) (w : World) :
    Calls Tryd.prog 26 #[.int .i64 n] w fun e w' => e = .returned (.bool (powB n)) ∧ w = w' := by
  by_cases h0 : 0 ≤ n <;> by_cases h1 : n ≤ 1048576
  all_goals go_enter Tryd.func26, Tryd.ntmps26
  all_goals go_wp2
  all_goals go_ret
  all_goals exact ⟨ret_bool (by simp [powB, h0, h1]), rfl⟩

theorem in_any (x n : Int) (w : World) :
    Calls Tryd.prog 37 #[.int .i64 x, .int .i64 n] w fun e w' => e = .returned (.bool (decide (0 ≤ x) && decide (x ≤ n))) ∧ w = w' := by
  by_cases h0 : 0 ≤ x <;> by_cases h1 : x ≤ n
  all_goals go_enter Tryd.func37, Tryd.ntmps37
  all_goals go_wp2
  all_goals go_ret
  all_goals exact ⟨ret_bool (by simp [h0, h1]), rfl⟩

/-- the map of the names that are taken -/
def Names (w : World) (b : Nat) (ns : List (List UInt8)) : Prop := Taken Tryd.prog 9 4 w b ns
theorem zeroBool (w : World) : (zeroValue 4).run Tryd.prog w = .ok (.bool false) w := by kernel_rfl

theorem name_bad {ns : List (List UInt8)} {s : ByteArray} (h : (!validL s.data.toList) = true) : nameE ns s = 4 := by simp [nameE, h]
theorem name_old {ns : List (List UInt8)} {s : ByteArray} (h : (!validL s.data.toList) = false) (h2 : keyN s ∈ ns) : nameE ns s = 9 := by simp only [nameE, h]; simp [h2]
theorem name_new {ns : List (List UInt8)} {s : ByteArray} (h : (!validL s.data.toList) = false) (h2 : ¬ keyN s ∈ ns) : nameE ns s = 0 := by simp only [nameE, h]; simp [h2]
theorem key_cap (s : ByteArray) : (capS s).data.toList = keyN s := by simp [capS, keyN]
theorem cap_sizeN (s : ByteArray) : (capS s).size = s.size := by
  have h := congrArg List.length (key_cap s)
  simp [keyN, capL] at h
  exact h
theorem valid_len {s : ByteArray} (h : validL s.data.toList = true) : s.size ≤ 36 := by
  unfold validL at h
  simp only [Bool.and_eq_true, decide_eq_true_eq] at h
  simpa using h.1.2

set_option maxRecDepth 100000 in
set_option maxHeartbeats 1600000 in
theorem enter_any (b : Nat) (ns : List (List UInt8)) (s : ByteArray) (w : World) (hs : s.size ≤ maxLen) (hT : Names w b ns) (hn : ns.length ≤ 1000000) :
    Calls Tryd.prog 25 #[.map (some b), .string s] w
      fun e w' => e = .returned (.int .i64 (nameE ns s)) ∧ w.grownBy w' (some b) ∧ (nameE ns s = 0 → Names w' b (keyN s :: ns)) := by
  cases hv : (!validL s.data.toList) with
  | true =>
    have HE := Lib.hid (name_bad (ns := ns) hv)
    go_enter Tryd.func25, Tryd.ntmps25
    go_wp2_with fail
    refine (valid_any s _ hs).mono ?_
    rintro e w1 ⟨rfl, hb1⟩
    rw [show validL s.data.toList = false by simpa using hv]
    go_wp2_with fail
    go_ret
    exact ⟨ret_int (by rw [HE.out]), grown_of_below hb1 _, fun h => by rw [HE.out] at h; simp at h⟩
  | false =>
    have hv' : validL s.data.toList = true := by simpa using hv
    have hl := valid_len hv'
    have ha := valid_asc hv'
    by_cases hm : keyN s ∈ ns
    · have HE := Lib.hid (name_old hv hm)
      have hdm : decide ((capS s).data.toList ∈ ns) = true := by rw [key_cap]; simpa using hm
      go_enter Tryd.func25, Tryd.ntmps25
      go_wp2_with fail
      refine (valid_any s _ hs).mono ?_
      rintro e w1 ⟨rfl, hb1⟩
      rw [hv']
      go_wp2_with fail
      refine (upperA_any s _ (by omega) ha).mono ?_
      rintro e w2 ⟨rfl, hb2⟩
      have hT2 : Names w2 b ns := (hT.below hb1).below hb2
      go_wp2_with (at_lookup; refine wpList_lookup_taken _ rfl _ _ 54 rfl 9 4 Tryd.underlying9 Tryd.underlying54 Tryd.underlying4 zeroBool b ns rfl hT2 (capS s) rfl (by rw [cap_sizeN]; unfold maxLen; omega) ?_; rw [hdm])
      go_ret
      exact ⟨ret_int (by rw [HE.out]), (grown_of_below hb1 _).trans (grown_of_below hb2 _), fun h => by rw [HE.out] at h; simp at h⟩
    · have HE := Lib.hid (name_new hv hm)
      have hdm : decide ((capS s).data.toList ∈ ns) = false := by rw [key_cap]; simpa using hm
      go_enter Tryd.func25, Tryd.ntmps25
      go_wp2_with fail
      refine (valid_any s _ hs).mono ?_
      rintro e w1 ⟨rfl, hb1⟩
      rw [hv']
      go_wp2_with fail
      refine (upperA_any s _ (by omega) ha).mono ?_
      rintro e w2 ⟨rfl, hb2⟩
      have hT2 : Names w2 b ns := (hT.below hb1).below hb2
      have hg2 := (grown_of_below hb1 (some b)).trans (grown_of_below hb2 _)
      go_wp2_with (first
        | (at_lookup; refine wpList_lookup_taken _ rfl _ _ 54 rfl 9 4 Tryd.underlying9 Tryd.underlying54 Tryd.underlying4 zeroBool b ns rfl hT2 (capS s) rfl (by rw [cap_sizeN]; unfold maxLen; omega) ?_; rw [hdm])
        | (at_mapUpdate; refine wpList_update_taken _ rfl _ _ _ 54 rfl 9 4 Tryd.underlying9 Tryd.underlying54 Tryd.underlying4 b ns rfl hT2 (by unfold maxLen; omega) (capS s) rfl (by rw [cap_sizeN]; unfold maxLen; omega) rfl ?_; intro w3 hT3 hg3))
      go_ret
      exact ⟨ret_int (by rw [HE.out]), hg2.trans hg3, fun _ => by rw [← key_cap]; exact hT3⟩

end Go.Proofs.YtkjggfhbnhpdnaaDoor
