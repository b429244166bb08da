/-
  Walks: Valid of contracts, of the program and of the reference; two equal lists of steps; the examples.
-/
import Derived.Test.YtlpjniejbblcnaaDoorWCon1K
import Derived.Test.YtlpjniejbblcnaaDoorM2
import Derived.Test.YtlpjniejbblcnaaDoorPConE
namespace Go.Proofs.YtlpjniejbblcnaaDoor
open Go.RowKit Go.Lib Go.Maps
set_option linter.unusedVariables false

theorem drewN_belowC {w w' : World} (h : ∃ n, w' = w.drewN n) : Below w.heap.size w w' := by
  obtain ⟨n, rfl⟩ := h
  exact below_drewN (Below.refl _ _) n

set_option maxRecDepth 100000 in
set_option maxHeartbeats 6400000 in
theorem conValid_any (x : ConR) (s : ByteArray) (A B : Option Addr) (n c m d : Nat) (w : World) (hn : x.nm.size ≤ maxLen) (hm : n ≤ maxLen) :
    Calls Tryd.prog 36 #[.agg #[.string x.nm, .int .i64 x.fd, .int .i64 x.w.dy, .int .i64 x.w.st, .int .i64 x.w.en, .int .i64 x.w.fr, .int .i64 x.w.to, .int .i64 x.tot], .agg #[.string s, .slice A n c, .slice B m d]] w
      fun e w' => e = .returned (.int .i64 (conE x n)) ∧ Below w.heap.size w w' := by
  obtain ⟨W0, hW0, hb0, hg1, hg0, hx0, hy0⟩ := box2 w #[.string x.nm, .int .i64 x.fd, .int .i64 x.w.dy, .int .i64 x.w.st, .int .i64 x.w.en, .int .i64 x.w.fr, .int .i64 x.w.to, .int .i64 x.tot] 84 #[.string s, .slice A n c, .slice B m d] 30
  unfold maxLen at hm
  cases hv : validL x.nm.data.toList with
  | false =>
    have HE := Lib.hid (conE_name (n := n) hv)
    have HV := Lib.hid hv
    clear hv
    go_enter Tryd.func36, Tryd.ntmps36
    go_wp2_with fail
    rw [← hW0]
    clear hW0
    refine (valid_any x.nm _ hn).mono ?_
    rintro e w1 ⟨rfl, hb1⟩
    rw [HV.out]
    go_wp2_with fail
    go_ret
    exact ⟨ret_int HE.out.symm, below_step hb0 hb1⟩
  | true =>
    have HV := Lib.hid hv
    have hcase : (x.fd < 0 ∨ (¬ x.fd < 0 ∧ (n : Int) ≤ x.fd) ∨ (¬ x.fd < 0 ∧ ¬ (n : Int) ≤ x.fd ∧ x.tot < 0) ∨ (¬ x.fd < 0 ∧ ¬ (n : Int) ≤ x.fd ∧ ¬ x.tot < 0 ∧ 1073741824 < x.tot)) ∨ (¬ x.fd < 0 ∧ ¬ (n : Int) ≤ x.fd ∧ ¬ x.tot < 0 ∧ ¬ 1073741824 < x.tot) := by omega
    rcases hcase with hbad | ⟨k1, k2, k3, k4⟩
    · have HE := Lib.hid (conE_range (n := n) hv (by omega))
      clear hv
      go_enter Tryd.func36, Tryd.ntmps36
      go_wp2_with fail
      rw [← hW0]
      clear hW0
      refine (valid_any x.nm _ hn).mono ?_
      rintro e w1 ⟨rfl, hb1⟩
      rw [HV.out]
      obtain ⟨hc, hf⟩ := bcell hb1
      rcases hbad with k1 | ⟨k1, k2⟩ | ⟨k1, k2, k3⟩ | ⟨k1, k2, k3, k4⟩
      all_goals
        go_wp2_with fail
        go_ret
        exact ⟨ret_int HE.out.symm, below_step hb0 hb1⟩
    · have HE := Lib.hid (conE_ok (n := n) hv (by omega))
      clear hv
      go_enter Tryd.func36, Tryd.ntmps36
      go_wp2_with fail
      rw [← hW0]
      clear hW0
      refine (valid_any x.nm _ hn).mono ?_
      rintro e w1 ⟨rfl, hb1⟩
      rw [HV.out]
      obtain ⟨hc, hf⟩ := bcell hb1
      go_wp2_with fail
      refine (winValid_any x.w _).mono ?_
      rintro e w2 ⟨rfl, hb2⟩
      go_wp2_with fail
      go_ret
      exact ⟨ret_int HE.out.symm, below_step hb0 (below_step hb1 hb2)⟩

end Go.Proofs.YtlpjniejbblcnaaDoor
