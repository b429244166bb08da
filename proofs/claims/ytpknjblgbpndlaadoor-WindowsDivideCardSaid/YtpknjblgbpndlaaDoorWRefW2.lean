/-
  Walks: the reference's windows: candidates.
-/
import Derived.Test.YtpknjblgbpndlaaDoorWRefW1
import Derived.Test.YtpknjblgbpndlaaDoorPWin2
import Derived.Test.YtpknjblgbpndlaaDoorKept
import Derived.Test.YtpknjblgbpndlaaDoorBox
namespace Go.Proofs.YtpknjblgbpndlaaDoor
open Go.RowKit Go.Lib
attribute [local go_sem] after_cell
set_option linter.unusedVariables false

set_option maxHeartbeats 400000 in
theorem wait_any (a m : Int) (w : World) (h0 : 0 ≤ a) (h1 : a < 1440) (h2 : 0 ≤ m) (h3 : m < 1440) :
    Calls Tryd.prog 84 #[.int .i64 a, .int .i64 m] w fun e w' => e = .returned (.int .i64 (waitF a m)) ∧ w = w' := by
  have HW : Hid (waitF a m = if a < m then m - a else m - a + 1440) := rfl
  go_enter Tryd.func84, Tryd.ntmps84
  go_wp2
  all_goals go_ret
  all_goals exact ⟨ret_int (by rw [HW.out]; omega), rfl⟩

@[local go_sem] theorem run_min_int4 {P : Program} {w : World} (ts : Array TypeId) (t : TypeId) (x y z u : Int) : (Builtin.min_ ts t #[.int .i64 x, .int .i64 y, .int .i64 z, .int .i64 u]).run P w = .ok (.int .i64 (min (min (min x y) z) u)) w := by
  simp [Builtin.min_, Builtin.min2]
  omega

set_option maxRecDepth 100000 in
set_option maxHeartbeats 3200000 in
theorem candidate_any (W : WinR) (z : ZoneR) (t : Int) (w : World) (hW : winB W = true) (hz : zoneB z = true) (h0 : 0 ≤ t) (h1 : t ≤ 268435456) :
    Calls Tryd.prog 72 #[.agg #[.int .i64 W.dy, .int .i64 W.st, .int .i64 W.en, .int .i64 W.fr, .int .i64 W.to], .agg #[.int .i64 z.off, .bool z.sum], .int .i64 t] w
      fun e w' => e = .returned (.int .i64 (candF W z t)) ∧ Below w.heap.size w w' := by
  obtain ⟨d0, d1, s0, s1, e0, e1, f0, f1, ht2⟩ := winB_iff.1 hW
  have HC : Hid (candF W z t = (if t < W.to then min (if t < W.fr then min (t + min (min (min (waitF ((t + offF z t) % 1440) W.st) (waitF ((t + offF z t) % 1440) W.en)) (waitF ((t + offF z t) % 1440) 0)) (waitF (t % 1440) 60)) W.fr else t + min (min (min (waitF ((t + offF z t) % 1440) W.st) (waitF ((t + offF z t) % 1440) W.en)) (waitF ((t + offF z t) % 1440) 0)) (waitF (t % 1440) 60)) W.to else (if t < W.fr then min (t + min (min (min (waitF ((t + offF z t) % 1440) W.st) (waitF ((t + offF z t) % 1440) W.en)) (waitF ((t + offF z t) % 1440) 0)) (waitF (t % 1440) 60)) W.fr else t + min (min (min (waitF ((t + offF z t) % 1440) W.st) (waitF ((t + offF z t) % 1440) W.en)) (waitF ((t + offF z t) % 1440) 0)) (waitF (t % 1440) 60)))) := rfl
  have HL := Lib.hid (fun (w : World) => refLocal_any z t w hz h0 h1)
  have hm0 : 0 ≤ (t + offF z t) % 1440 := by omega
  have hm1 : (t + offF z t) % 1440 < 1440 := by omega
  have hk0 : 0 ≤ t % 1440 := by omega
  have hk1 : t % 1440 < 1440 := by omega
  generalize wdF ((t + offF z t) / 1440) = wd at *
  generalize (t + offF z t) % 1440 = m at *
  have hwb := waitF_le (t % 1440) 60 hk0 hk1 (by omega)
  have hwp := waitF_pos (t % 1440) 60 hk1 (by omega)
  have hwp1 := waitF_pos m W.st hm1 s0
  have hwp2 := waitF_pos m W.en hm1 e0
  have hwp3 := waitF_pos m 0 hm1 (by omega)
  obtain ⟨W0, hW0, hb0, hg0, hg1, hx0, hy0⟩ := box2 w #[.int .i64 W.dy, .int .i64 W.st, .int .i64 W.en, .int .i64 W.fr, .int .i64 W.to] 24 #[.int .i64 z.off, .bool z.sum] 26
  go_enter Tryd.func72, Tryd.ntmps72
  go_wp2_with fail
  rw [← hW0]
  clear hW0
  refine (HL.out _).mono ?_
  rintro e w1 ⟨⟨y, mo, d, rfl⟩, hb1⟩
  obtain ⟨W2, hW2, hb2, hg2, hx2⟩ := box1 w1 #[.int .i64 y, .int .i64 mo, .int .i64 d, .int .i64 wd, .int .i64 m] 85
  go_wp2_with fail
  rw [← hW2]
  have hb02 := below_step hb1 hb2
  have hxw : ∀ j, W2.cell? ⟨w.heap.size, j, none⟩ = (#[.int .i64 W.dy, .int .i64 W.st, .int .i64 W.en, .int .i64 W.fr, .int .i64 W.to] : Array Value)[j]? := fun j => ((bcell hb02).1 _ _ hg1).trans (hx0 j)
  have hs2 : w.heap.size < W2.heap.size := Nat.lt_of_lt_of_le hg1 hb02.size
  have hbr := Below.refl W2.heap.size W2
  clear hW2 hx0 hy0 hb1 hb2 hg0 hg1
  (refine wp_region_kept W2 (by kernel_rfl) (by kernel_rfl) (by assumption) ?_; (repeat (go_big_quiet_step ((first | (go_at_call 84; exact kept_same (wait_any _ _ _ (by omega) (by omega) (by omega) (by omega))))))); refine wpQuiet_nil ?_; intro _ hw'; obtain ⟨x9, hw''⟩ := hw'; subst hw''; have hk9 := after_kept x9; generalize after x9 = w9 at *)
  obtain ⟨hc9, hf9⟩ := bcell hk9.2
  have hNN : (min (min (min (waitF m W.st) (waitF m W.en)) (waitF m 0)) (waitF (t % 1440) 60)) = (min (waitF m W.st) (min (waitF m W.en) (min (waitF m 0) (waitF (t % 1440) 60)))) := by omega
  rw [hNN] at HC
  clear hNN
  have hn1 : 1 ≤ (min (waitF m W.st) (min (waitF m W.en) (min (waitF m 0) (waitF (t % 1440) 60)))) := by omega
  have hn2 : (min (waitF m W.st) (min (waitF m W.en) (min (waitF m 0) (waitF (t % 1440) 60)))) ≤ 1440 := by omega
  generalize (min (waitF m W.st) (min (waitF m W.en) (min (waitF m 0) (waitF (t % 1440) 60)))) = n at *
  clear hwb hwp hwp1 hwp2 hwp3
  by_cases c1 : t < W.fr
  all_goals by_cases c2 : t < W.to
  all_goals
    (try rw [if_pos c2] at HC)
    (try rw [if_neg c2] at HC)
    (try rw [if_pos c1] at HC)
    (try rw [if_neg c1] at HC)
    go_wp2_with fail
    all_goals go_ret
    all_goals exact ⟨ret_int (by rw [HC.out] <;> omega), below_step hb0 (below_step hb02 hk9.2)⟩

end Go.Proofs.YtpknjblgbpndlaaDoor
