/-
  Walks: At and check of package curtail.
-/
import Derived.Test.YtlpjniejbblcnaaDoorProg
import Derived.Test.YtlpjniejbblcnaaDoorCurAt
import Derived.Test.YtlpjniejbblcnaaDoorM1
namespace Go.Proofs.YtlpjniejbblcnaaDoor
open Go.RowKit Go.Lib Go.Maps
set_option linter.unusedVariables false

theorem minW {n x m : Int} (h : m = min n x) : Value.int .i64 (if x < n then x else n) = .int .i64 m := by rw [h, show (if x < n then x else n) = min n x by omega]

set_option maxRecDepth 100000 in
set_option maxHeartbeats 6400000 in
theorem curAt_any (l : List CurR) (v : Value) (f t : Int) (w : World) (hL : IsSl w 7 v (l.map CurR.cells)) :
    Calls Tryd.prog 69 #[v, .int .i64 f, .int .i64 t] w fun e w' => e = .returned (.int .i64 (uAt l f t)) ∧ Below w.heap.size w w' := by
  obtain ⟨A, c, rfl, hlc, hcm, hsl⟩ := hL
  rw [List.length_map] at hlc
  unfold maxLen at hcm
  simp only [List.length_map]
  go_enter Tryd.func69, Tryd.ntmps69
  go_wp2_with fail
  go_loopw [7, 12] (fun n i wr => ∃ k : Nat, k ≤ l.length ∧ n = .int .i64 (uAt (l.take k) f t) ∧ i = .int .i64 k ∧ Below w.heap.size w wr) (fun _ i _ => l.length - (intOf i).toNat)
  case atStart => exact ⟨0, by omega, rfl, rfl, Below.refl _ _⟩
  case round =>
    obtain ⟨k, hk, rfl, rfl, hbw⟩ := hrel
    by_cases hlt : k < l.length
    · have hki : (k : Int) < (l.length : Int) := by omega
      obtain ⟨b, off, rfl, hb, c0, c1, c2, c3, c4, c5, c6⟩ := cur_at (hsl.below hbw) hlt
      have HT := Lib.hid (uAt_take hlt f t)
      generalize l[k] = x at *
      generalize uAt (l.take k) f t = n at *
      by_cases k1 : x.fd = f
      · cases k2 : x.off with
        | true =>
          have H : Hid (uAt (l.take (k + 1)) f t = n) := by unfold Hid; rw [HT.out, uStep_f (fun h => by rw [h.2.1] at k2; cases k2)]
          rw [k2] at c6
          go_wp2_with fail
          go_roundw
          case measure => simp [intOf]; omega
          case rel => exact ⟨k + 1, by omega, by rw [H.out], by go_num, below_alloc hbw _⟩
        | false =>
          rw [k2] at c6
          by_cases k3 : x.fr ≤ t
          · by_cases k4 : t < x.to
            · have H : Hid (uAt (l.take (k + 1)) f t = min n x.tot) := by unfold Hid; rw [HT.out, uStep_t ⟨k1, k2, k3, k4⟩]
              go_wp2_with fail
              go_roundw
              case measure => simp [intOf]; omega
              case rel => exact ⟨k + 1, by omega, by first | exact minW H.out | rw [H.out], by go_num, below_alloc hbw _⟩
            · have H : Hid (uAt (l.take (k + 1)) f t = n) := by unfold Hid; rw [HT.out, uStep_f (fun h => k4 h.2.2.2)]
              go_wp2_with fail
              go_roundw
              case measure => simp [intOf]; omega
              case rel => exact ⟨k + 1, by omega, by rw [H.out], by go_num, below_alloc hbw _⟩
          · have H : Hid (uAt (l.take (k + 1)) f t = n) := by unfold Hid; rw [HT.out, uStep_f (fun h => k3 h.2.2.1)]
            go_wp2_with fail
            go_roundw
            case measure => simp [intOf]; omega
            case rel => exact ⟨k + 1, by omega, by rw [H.out], by go_num, below_alloc hbw _⟩
      · have H : Hid (uAt (l.take (k + 1)) f t = n) := by unfold Hid; rw [HT.out, uStep_f (fun h => k1 h.1)]
        go_wp2_with fail
        go_roundw
        case measure => simp [intOf]; omega
        case rel => exact ⟨k + 1, by omega, by rw [H.out], by go_num, below_alloc hbw _⟩
    · have hki : ¬ (k : Int) < (l.length : Int) := by omega
      have H : Hid (uAt l f t = uAt (l.take k) f t) := by unfold Hid; rw [List.take_of_length_le (by omega)]
      go_wp2_with fail
      go_ret
      exact ⟨ret_int H.out.symm, hbw⟩

set_option maxRecDepth 100000 in
set_option maxHeartbeats 6400000 in
theorem curCheck_any (x : CurR) (n : Nat) (w : World) (hn : x.nm.size ≤ maxLen) :
    Calls Tryd.prog 56 #[.agg #[.string x.nm, .int .i64 x.ver, .int .i64 x.fd, .int .i64 x.fr, .int .i64 x.to, .int .i64 x.tot, .bool x.off], .int .i64 n] w
      fun e w' => e = .returned (.int .i64 (curE x n)) ∧ Below w.heap.size w w' := by
  obtain ⟨W0, hW0, hb0, hg0, hx0⟩ := box1 w #[.string x.nm, .int .i64 x.ver, .int .i64 x.fd, .int .i64 x.fr, .int .i64 x.to, .int .i64 x.tot, .bool x.off] 90
  cases hv : validL x.nm.data.toList with
  | false =>
    have HE := Lib.hid (curE_name (n := n) hv)
    have HV := Lib.hid hv
    clear hv
    go_enter Tryd.func56, Tryd.ntmps56
    go_wp2_with fail
    rw [← hW0]
    clear hW0
    refine (valid_any x.nm _ hn).mono ?_
    rintro e w1 ⟨rfl, hb1⟩
    rw [HV.out]
    go_wp2_with fail
    go_ret
    exact ⟨ret_int HE.out.symm, below_step hb0 hb1⟩
  | true =>
    have HV := Lib.hid hv
    have hcase : (x.ver < 1 ∨ (¬ x.ver < 1 ∧ x.fd < 0) ∨ (¬ x.ver < 1 ∧ ¬ x.fd < 0 ∧ (n : Int) ≤ x.fd) ∨ (¬ x.ver < 1 ∧ ¬ x.fd < 0 ∧ ¬ (n : Int) ≤ x.fd ∧ x.tot < 0) ∨ (¬ x.ver < 1 ∧ ¬ x.fd < 0 ∧ ¬ (n : Int) ≤ x.fd ∧ ¬ x.tot < 0 ∧ 1073741824 < x.tot) ∨
        (¬ x.ver < 1 ∧ ¬ x.fd < 0 ∧ ¬ (n : Int) ≤ x.fd ∧ ¬ x.tot < 0 ∧ ¬ 1073741824 < x.tot ∧ x.fr < 0) ∨ (¬ x.ver < 1 ∧ ¬ x.fd < 0 ∧ ¬ (n : Int) ≤ x.fd ∧ ¬ x.tot < 0 ∧ ¬ 1073741824 < x.tot ∧ ¬ x.fr < 0 ∧ x.to < x.fr) ∨ (¬ x.ver < 1 ∧ ¬ x.fd < 0 ∧ ¬ (n : Int) ≤ x.fd ∧ ¬ x.tot < 0 ∧ ¬ 1073741824 < x.tot ∧ ¬ x.fr < 0 ∧ ¬ x.to < x.fr ∧ 268435456 < x.to)) ∨
        (¬ x.ver < 1 ∧ ¬ x.fd < 0 ∧ ¬ (n : Int) ≤ x.fd ∧ ¬ x.tot < 0 ∧ ¬ 1073741824 < x.tot ∧ ¬ x.fr < 0 ∧ ¬ x.to < x.fr ∧ ¬ 268435456 < x.to) := by omega
    rcases hcase with hbad | ⟨k1, k2, k3, k4, k5, k6, k7, k8⟩
    · have HE := Lib.hid (curE_range (n := n) hv (by omega))
      clear hv
      go_enter Tryd.func56, Tryd.ntmps56
      go_wp2_with fail
      rw [← hW0]
      clear hW0
      refine (valid_any x.nm _ hn).mono ?_
      rintro e w1 ⟨rfl, hb1⟩
      rw [HV.out]
      obtain ⟨hc, hf⟩ := bcell hb1
      rcases hbad with k1 | ⟨k1, k2⟩ | ⟨k1, k2, k3⟩ | ⟨k1, k2, k3, k4⟩ | ⟨k1, k2, k3, k4, k5⟩ | ⟨k1, k2, k3, k4, k5, k6⟩ | ⟨k1, k2, k3, k4, k5, k6, k7⟩ | ⟨k1, k2, k3, k4, k5, k6, k7, k8⟩
      all_goals
        go_wp2_with fail
        go_ret
        exact ⟨ret_int HE.out.symm, below_step hb0 hb1⟩
    · have HE := Lib.hid (curE_ok (n := n) hv (by omega))
      clear hv
      go_enter Tryd.func56, Tryd.ntmps56
      go_wp2_with fail
      rw [← hW0]
      clear hW0
      refine (valid_any x.nm _ hn).mono ?_
      rintro e w1 ⟨rfl, hb1⟩
      rw [HV.out]
      obtain ⟨hc, hf⟩ := bcell hb1
      go_wp2_with fail
      go_ret
      exact ⟨ret_int HE.out.symm, below_step hb0 hb1⟩

end Go.Proofs.YtlpjniejbblcnaaDoor
