/-
  Walks: capitals and comparisons, in package ident and in its reference.
-/
import Derived.Test.YtkjggfhbnhpdnaaDoorWIdent3
namespace Go.Proofs.YtkjggfhbnhpdnaaDoor
open Go.RowKit
set_option linter.unusedVariables false

/-- a row of bytes of which the first k are capitals -/
def capRow (s : ByteArray) (k : Nat) (j : Nat) : Value := if j < k then .int .u8 (((capL s.data.toList).getD j 0).toNat : Int) else .int .u8 ((s.data.toList.getD j 0).toNat : Int)

theorem capRow_zero (s : ByteArray) : capRow s 0 = fun j => .int .u8 ((s.data.toList.getD j 0).toNat : Int) := by funext j; simp [capRow]
theorem capRow_at (s : ByteArray) (k : Nat) (h : k < s.size) : capRow s k k = .int .u8 (s[k].toNat : Int) := by
  have h' : k < s.data.size := h
  simp only [capRow, Nat.lt_irrefl, if_false, List.getD_eq_getElem?_getD]
  rw [List.getElem?_eq_getElem (by simpa using h)]; rfl
theorem capRow_succ (s : ByteArray) (k : Nat) (h : k < s.size) (j : Nat) (hj : j < s.size) : (if j = k then Value.int .u8 (capI (s[k].toNat : Int)) else capRow s k j) = capRow s (k + 1) j := by
  by_cases e : j = k
  · subst e
    have h' : j < s.data.size := h
    simp only [capRow, if_true, Nat.lt_succ_self, capL, List.getD_eq_getElem?_getD, List.getElem?_map]
    rw [List.getElem?_eq_getElem (by simpa using h)]
    simp only [Option.map_some, Option.getD_some]
    rw [capU_capI]; rfl
  · simp only [e, if_false, capRow]
    by_cases e2 : j < k
    · rw [if_pos e2, if_pos (by omega)]
    · rw [if_neg e2, if_neg (by omega)]
theorem capRow_full (s : ByteArray) (k : Nat) (h : ¬ k < s.size) (j : Nat) (hj : j < s.size) : capRow s k j = .int .u8 (((capL s.data.toList).getD j 0).toNat : Int) := by
  unfold capRow; rw [if_pos (by omega)]

set_option maxHeartbeats 800000 in
theorem refCapitals_any (s : ByteArray) (w : World) (hs : s.size ≤ maxLen) :
    Calls Tryd.prog 54 #[.string s] w fun e w' => e = .returned (.string (capS s)) ∧ Below w.heap.size w w' := by
  unfold maxLen at hs
  obtain ⟨c, w1, hcv, hb1, hz1, hrow⟩ := bytes_conv (P := Tryd.prog) w 9 70 5 s Tryd.underlying9 Tryd.underlying70 Tryd.underlying5
  have HZ := Lib.hid hz1
  clear hz1
  go_enter Tryd.func54, Tryd.ntmps54
  go_wp2
  go_loopw [4] (fun i wr => ∃ k : Nat, k ≤ s.size ∧ i = .int .i64 k ∧ Below w.heap.size w wr ∧ Row wr w.heap.size s.size (capRow s k)) (fun i _ => s.size - (intOf i).toNat)
  case atStart => exact ⟨0, by omega, rfl, hb1, by rw [capRow_zero]; exact hrow⟩
  case round =>
    obtain ⟨k, hk, rfl, hbw, hr⟩ := hrel
    clear hcv
    by_cases hlt : k < s.size
    · obtain ⟨hb0, hb1⟩ := byte_lt s k hlt
      have hc := hr.cell hlt
      rw [capRow_at s k hlt] at hc
      have hf := hr.frozen hlt
      go_wp2_with (go_at_call 45; refine (refCapital_any _ _ (by omega) (by omega)).mono ?_; rintro e w' ⟨rfl, rfl⟩)
      go_roundw
      case rel => exact ⟨k + 1, by omega, by go_num, hbw.setCell (Nat.le_refl _) _, (hr.set k _).congr (capRow_succ s k hlt)⟩
      case measure => simp [intOf]; omega
    · have hbk := bytes_back (P := Tryd.prog) wr 70 9 5 w.heap.size s.size c (capL s.data.toList) Tryd.underlying70 Tryd.underlying5 Tryd.underlying9 (by simp [capL]) _ hr (capRow_full s k hlt)
      go_wp2
      go_ret
      exact ⟨rfl, hbw⟩

/-- equal without regard to case -/
def sameS (a b : ByteArray) : Bool := decide (capL a.data.toList = capL b.data.toList)

theorem str_eq (a b : ByteArray) : (a.toList == b.toList) = decide (a.data.toList = b.data.toList) := by
  rw [Lib.toList_data, Lib.toList_data]
  by_cases h : a.data.toList = b.data.toList
  · simp [h]
  · have : (a.data.toList == b.data.toList) = false := by simpa using h
    rw [this]; simp [h]
theorem capS_data (s : ByteArray) : (capS s).data.toList = capL s.data.toList := by simp [capS]
theorem str_eq_cap (a b : ByteArray) : ((capS a).toList == (capS b).toList) = sameS a b := by rw [str_eq, capS_data, capS_data]; rfl

set_option maxHeartbeats 800000 in
theorem refSame_any (a b : ByteArray) (w : World) (ha : a.size ≤ maxLen) (hb : b.size ≤ maxLen) :
    Calls Tryd.prog 46 #[.string a, .string b] w fun e w' => e = .returned (.bool (sameS a b)) ∧ Below w.heap.size w w' := by
  go_enter Tryd.func46, Tryd.ntmps46
  go_wp2_with fail
  refine (refCapitals_any a _ ha).mono ?_
  rintro e w1 ⟨rfl, hb1⟩
  go_wp2_with fail
  refine (refCapitals_any b _ hb).mono ?_
  rintro e w2 ⟨rfl, hb2⟩
  go_wp2_with fail
  go_ret
  refine ⟨?_, hb1.trans (hb2.mono hb1.size)⟩
  exact ret_bool (str_eq_cap a b)

theorem same_len {a b : ByteArray} (h : ((a.size : Int) != b.size) = true) : sameS a b = false := by
  have h' : a.size ≠ b.size := by simp at h; omega
  unfold sameS
  simp
  intro e
  have := congrArg List.length e
  simp [capL] at this
  exact h' this
theorem same_at {a b : ByteArray} {k : Nat} (ha : k < a.size) (hb : k < b.size) (h : capI (a[k].toNat : Int) ≠ capI (b[k].toNat : Int)) : sameS a b = false := by
  unfold sameS
  simp
  intro e
  apply h
  have ha' : k < a.data.toList.length := by simpa using ha
  have hb' : k < b.data.toList.length := by simpa using hb
  have e1 : (capL a.data.toList)[k]? = (capL b.data.toList)[k]? := by rw [e]
  simp only [capL, List.getElem?_map, List.getElem?_eq_getElem ha', List.getElem?_eq_getElem hb', Option.map_some, Option.some.injEq] at e1
  have e2 : capU a[k] = capU b[k] := e1
  rw [← capU_capI, ← capU_capI, e2]
theorem same_all {a b : ByteArray} (hl : a.size = b.size) (h : ∀ k (ha : k < a.size) (hb : k < b.size), capI (a[k].toNat : Int) = capI (b[k].toNat : Int)) : sameS a b = true := by
  unfold sameS
  simp only [decide_eq_true_eq]
  apply List.ext_getElem
  · simpa [capL] using hl
  · intro k h1 h2
    simp only [capL, List.length_map, Array.length_toList] at h1 h2
    have := h k h1 h2
    rw [← capU_capI, ← capU_capI] at this
    simp only [capL, List.getElem_map]
    apply UInt8.toNat_inj.1
    have e1 : a[k] = a.data.toList[k] := rfl
    have e2 : b[k] = b.data.toList[k] := rfl
    rw [← e1, ← e2]
    omega

theorem small_max {n : Nat} (h : n ≤ 4096) : n ≤ maxLen := by unfold maxLen; omega
theorem drewN_below {w w' : World} (h : ∃ n, w' = w.drewN n) : Below w.heap.size w w' := by
  obtain ⟨n, rfl⟩ := h
  exact below_drewN (Below.refl _ _) n

end Go.Proofs.YtkjggfhbnhpdnaaDoor
