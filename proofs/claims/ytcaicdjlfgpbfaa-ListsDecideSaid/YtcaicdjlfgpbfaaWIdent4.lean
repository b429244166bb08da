/-
  Walks: capitals and comparisons, in package ident and in its reference.
-/
import Derived.Test.YtcaicdjlfgpbfaaWIdent3
namespace Go.Proofs.Ytcaicdjlfgpbfaa
open Go.RowKit
set_option linter.unusedVariables false

/-- a row of bytes of which the first k are capitals -/
def capRow (s : ByteArray) (k : Nat) (j : Nat) : Value := if j < k then .int .u8 (((capL s.data.toList).getD j 0).toNat : Int) else .int .u8 ((s.data.toList.getD j 0).toNat : Int)

theorem capRow_zero (s : ByteArray) : capRow s 0 = fun j => .int .u8 ((s.data.toList.getD j 0).toNat : Int) := by funext j; simp [capRow]
theorem capRow_at (s : ByteArray) (k : Nat) (h : k < s.size) : capRow s k k = .int .u8 (s[k].toNat : Int) := by
  have h' : k < s.data.size := h
  simp only [capRow, Nat.lt_irrefl, if_false, List.getD_eq_getElem?_getD]
  rw [List.getElem?_eq_getElem (by simpa using h)]; rfl
theorem capRow_succ (s : ByteArray) (k : Nat) (h : k < s.size) (j : Nat) (hj : j < s.size) : (if j = k then Value.int .u8 (capI (s[k].toNat : Int)) else capRow s k j) = capRow s (k + 1) j := by
  by_cases e : j = k
  · subst e
    have h' : j < s.data.size := h
    simp only [capRow, if_true, Nat.lt_succ_self, capL, List.getD_eq_getElem?_getD, List.getElem?_map]
    rw [List.getElem?_eq_getElem (by simpa using h)]
    simp only [Option.map_some, Option.getD_some]
    rw [capU_capI]; rfl
  · simp only [e, if_false, capRow]
    by_cases e2 : j < k
    · rw [if_pos e2, if_pos (by omega)]
    · rw [if_neg e2, if_neg (by omega)]
theorem capRow_full (s : ByteArray) (k : Nat) (h : ¬ k < s.size) (j : Nat) (hj : j < s.size) : capRow s k j = .int .u8 (((capL s.data.toList).getD j 0).toNat : Int) := by
  unfold capRow; rw [if_pos (by omega)]

theorem str_eq (a b : ByteArray) : (a.toList == b.toList) = decide (a.data.toList = b.data.toList) := by
  rw [Lib.toList_data, Lib.toList_data]
  by_cases h : a.data.toList = b.data.toList
  · simp [h]
  · have : (a.data.toList == b.data.toList) = false := by simpa using h
    rw [this]; simp [h]
theorem capS_data (s : ByteArray) : (capS s).data.toList = capL s.data.toList := by simp [capS]
theorem str_eq_cap (a b : ByteArray) : ((capS a).toList == (capS b).toList) = sameS a b := by rw [str_eq, capS_data, capS_data]; rfl

theorem same_len {a b : ByteArray} (h : ((a.size : Int) != b.size) = true) : sameS a b = false := by
  have h' : a.size ≠ b.size := by simp at h; omega
  unfold sameS
  simp
  intro e
  have := congrArg List.length e
  simp [capL] at this
  exact h' this
theorem same_at {a b : ByteArray} {k : Nat} (ha : k < a.size) (hb : k < b.size) (h : capI (a[k].toNat : Int) ≠ capI (b[k].toNat : Int)) : sameS a b = false := by
  unfold sameS
  simp
  intro e
  apply h
  have ha' : k < a.data.toList.length := by simpa using ha
  have hb' : k < b.data.toList.length := by simpa using hb
  have e1 : (capL a.data.toList)[k]? = (capL b.data.toList)[k]? := by rw [e]
  simp only [capL, List.getElem?_map, List.getElem?_eq_getElem ha', List.getElem?_eq_getElem hb', Option.map_some, Option.some.injEq] at e1
  have e2 : capU a[k] = capU b[k] := e1
  rw [← capU_capI, ← capU_capI, e2]
theorem same_all {a b : ByteArray} (hl : a.size = b.size) (h : ∀ k (ha : k < a.size) (hb : k < b.size), capI (a[k].toNat : Int) = capI (b[k].toNat : Int)) : sameS a b = true := by
  unfold sameS
  simp only [decide_eq_true_eq]
  apply List.ext_getElem
  · simpa [capL] using hl
  · intro k h1 h2
    simp only [capL, List.length_map, Array.length_toList] at h1 h2
    have := h k h1 h2
    rw [← capU_capI, ← capU_capI] at this
    simp only [capL, List.getElem_map]
    apply UInt8.toNat_inj.1
    have e1 : a[k] = a.data.toList[k] := rfl
    have e2 : b[k] = b.data.toList[k] := rfl
    rw [← e1, ← e2]
    omega

set_option maxHeartbeats 800000 in
theorem same_any (a b : ByteArray) (w : World) (ha : a.size ≤ maxLen) :
    Calls Try.prog 26 #[.string a, .string b] w fun e w' => e = .returned (.bool (sameS a b)) ∧ ∃ n, w' = w.drewN n := by
  unfold maxLen at ha
  cases hn : ((a.size : Int) != b.size) with
  | true =>
    have HV := Lib.hid (same_len hn)
    go_enter Try.func26, Try.ntmps26
    go_wp2
    go_ret
    exact ⟨ret_bool (by rw [HV.out]), 0, rfl⟩
  | false =>
    have hl : a.size = b.size := by simp at hn; omega
    have HL := Lib.hid hl
    have hle : a.size ≤ b.size := by omega
    clear hl
    go_enter Try.func26, Try.ntmps26
    go_wp2
    go_loopw [13] (fun i wr => ∃ k : Nat, k ≤ a.size ∧ i = .int .i64 k ∧ Hid (∃ n, wr = w.drewN n) ∧ Hid (∀ j (ha : j < a.size) (hb : j < b.size), j < k → capI (a[j].toNat : Int) = capI (b[j].toNat : Int))) (fun i _ => a.size - (intOf i).toNat)
    case atStart => exact ⟨0, by omega, rfl, ⟨0, rfl⟩, fun j _ _ h => by omega⟩
    case round =>
      obtain ⟨k, hk, rfl, HW, H⟩ := hrel
      by_cases hlt : k < a.size
      · have hlb : k < b.size := by omega
        obtain ⟨hb0, hb1⟩ := byte_lt a k hlt
        obtain ⟨hb2, hb3⟩ := byte_lt b k hlb
        cases he : (capI (a[k].toNat : Int) != capI (b[k].toNat : Int)) with
        | true =>
          have hs := same_at hlt hlb (by simpa using he)
          have HS := Lib.hid hs
          clear hs
          go_wp2
          go_quiet (first | (go_at_call 34; first | exact quiet_left (capital_any _ _ hb0 hb1) | exact quiet_left (capital_any _ _ hb2 hb3)))
          go_wp2
          go_ret
          exact ⟨ret_bool (by rw [HS.out]), drewN_more HW _⟩
        | false =>
          have HE := Lib.hid he
          go_wp2
          go_quiet (first | (go_at_call 34; first | exact quiet_left (capital_any _ _ hb0 hb1) | exact quiet_left (capital_any _ _ hb2 hb3)))
          go_wp2
          go_roundw
          case rel => exact ⟨k + 1, by omega, by go_num, drewN_more HW _, fun j hj1 hj2 hj => by
            by_cases e : j = k
            · subst e; have := HE.out; simpa using this
            · exact H.out j hj1 hj2 (by omega)⟩
          case measure => simp [intOf]; omega
      · have hs := same_all HL.out (fun j h1 h2 => H.out j h1 h2 (by omega))
        have HS := Lib.hid hs
        clear hs
        go_wp2
        go_ret
        exact ⟨ret_bool (by rw [HS.out]), HW.out⟩

theorem small_max {n : Nat} (h : n ≤ 4096) : n ≤ maxLen := by unfold maxLen; omega
theorem drewN_below {w w' : World} (h : ∃ n, w' = w.drewN n) : Below w.heap.size w w' := by
  obtain ⟨n, rfl⟩ := h
  exact below_drewN (Below.refl _ _) n

end Go.Proofs.Ytcaicdjlfgpbfaa
