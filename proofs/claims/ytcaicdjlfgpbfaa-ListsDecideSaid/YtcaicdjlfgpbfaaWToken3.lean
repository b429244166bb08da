/-
  Walks: the key of a token; Find.
-/
import Derived.Test.YtcaicdjlfgpbfaaWToken2
namespace Go.Proofs.Ytcaicdjlfgpbfaa
open Go.RowKit Go.Lib Go.Joins
attribute [local go_sem] after_cell
set_option linter.unusedVariables false

theorem capRow_same (s : ByteArray) (k : Nat) (h : k < s.size) (hc : capI (s[k].toNat : Int) = (s[k].toNat : Int)) (j : Nat) (hj : j < s.size) : capRow s k j = capRow s (k + 1) j := by
  rw [← capRow_succ s k h j hj]
  split
  · rename_i e; subst e; rw [capRow_at s j h, hc]
  · rfl

set_option maxHeartbeats 800000 in
theorem key_any (s : ByteArray) (w : World) (hs : s.size ≤ maxLen) :
    Calls Try.prog 12 #[.string s] w fun e w' => e = .returned (.string (capS s)) ∧ Below w.heap.size w w' := by
  unfold maxLen at hs
  obtain ⟨c, w1, hcv, hb1, hz1, hrow⟩ := bytes_conv (P := Try.prog) w 9 58 5 s Try.underlying9 Try.underlying58 Try.underlying5
  have HZ := Lib.hid hz1
  clear hz1
  go_enter Try.func12, Try.ntmps12
  go_wp2_with fail
  go_loopw [10] (fun i wr => ∃ k : Nat, k ≤ s.size ∧ i = .int .i64 k ∧ Below w.heap.size w wr ∧ Row wr w.heap.size s.size (capRow s k)) (fun i _ => s.size - (intOf i).toNat)
  case atStart => exact ⟨0, by omega, rfl, hb1, by rw [capRow_zero]; exact hrow⟩
  case round =>
    obtain ⟨k, hk, rfl, hbw, hr⟩ := hrel
    clear hcv
    by_cases hlt : k < s.size
    · obtain ⟨hb0, hb1⟩ := byte_lt s k hlt
      have hc := hr.cell hlt
      rw [capRow_at s k hlt] at hc
      have hf := hr.frozen hlt
      have HS := Lib.hid (capRow_succ s k hlt)
      have HM := Lib.hid (capRow_same s k hlt)
      generalize hx : (s[k].toNat : Int) = x at *
      clear hx
      by_cases hin : 97 ≤ x ∧ x ≤ 122
      · obtain ⟨g1, g2⟩ := hin
        have HC : Hid (capI x = x - 97 + 65) := by unfold Hid capI; rw [if_pos ⟨g1, g2⟩]; omega
        go_wp2_with fail
        go_roundw
        case rel => exact ⟨k + 1, by omega, by go_num, hbw.setCell (Nat.le_refl _) _, (hr.set k _).congr (by rw [← HC.out]; exact HS.out)⟩
        case measure => simp [intOf]; omega
      · have HC : Hid (capI x = x) := by unfold Hid capI; rw [if_neg hin]
        have hin' : decide (97 ≤ x) = false ∨ decide (x ≤ 122) = false := by simp; omega
        by_cases g1 : 97 ≤ x
        · have g2 : 122 < x := by omega
          clear hin hin'
          go_wp2_with fail
          go_roundw
          case rel => exact ⟨k + 1, by omega, by go_num, hbw, hr.congr (HM.out HC.out)⟩
          case measure => simp [intOf]; omega
        · have g2 : x < 97 := by omega
          clear hin hin' g1
          go_wp2_with fail
          go_roundw
          case rel => exact ⟨k + 1, by omega, by go_num, hbw, hr.congr (HM.out HC.out)⟩
          case measure => simp [intOf]; omega
    · have hbk := bytes_back (P := Try.prog) wr 58 9 5 w.heap.size s.size c (capL s.data.toList) Try.underlying58 Try.underlying5 Try.underlying9 (by simp [capL]) _ hr (capRow_full s k hlt)
      go_wp2_with fail
      go_ret
      exact ⟨rfl, hbw⟩

theorem find_some {l : List Tok} {id : ByteArray} {k : Nat} (h : idxT l id = some k) (hk : k < l.length) : findT l id = l[k] ∧ foundT l id = true := by
  unfold findT foundT
  rw [h]
  exact ⟨by simp [List.getD_eq_getElem?_getD, List.getElem?_eq_getElem hk], rfl⟩
theorem find_none {l : List Tok} {id : ByteArray} (h : idxT l id = none) : findT l id = zeroT ∧ foundT l id = false := by
  unfold findT foundT
  rw [h]
  exact ⟨rfl, rfl⟩

theorem box1f (w : World) (cs : Array Value) (T : TypeId) : ∃ W0, W0 = w.alloc (.cells cs T) ∧ Below w.heap.size w W0 ∧ w.heap.size < W0.heap.size ∧ (∀ j, W0.cell? ⟨w.heap.size, j, none⟩ = cs[j]?) ∧ (∀ j, W0.frozen? ⟨w.heap.size, j, none⟩ = false) :=
  ⟨_, rfl, below_alloc (Below.refl _ _) _, by simp, fun j => World.cell?_alloc_mark w cs T (0, 0) j, fun j => by rw [World.frozen?_alloc_mark w cs T 0 0 j]; rfl⟩

end Go.Proofs.Ytcaicdjlfgpbfaa
