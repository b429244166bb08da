/-
  Walks: the laws WindowValid, WindowHolds, WindowNext.
-/
import Derived.Test.YtneoaakichcegaaDoorWLaw5a
namespace Go.Proofs.YtneoaakichcegaaDoor
open Go.RowKit Go.Lib Go.Maps
attribute [local go_sem] after_cell
set_option linter.unusedVariables false

set_option maxRecDepth 100000 in
set_option maxHeartbeats 1600000 in
theorem lawWinValid (W : WinR) (w : World) (hv : LenV w) : Calls Tryd.prog 4 #[.agg #[.int .i64 W.dy, .int .i64 W.st, .int .i64 W.en, .int .i64 W.fr, .int .i64 W.to]] w fun e w' => e = .returned (.bool true) ∧ Below w.heap.size w w' := by
  obtain ⟨W0, hW0, hb0, hg0, hx0⟩ := box1 w #[.int .i64 W.dy, .int .i64 W.st, .int .i64 W.en, .int .i64 W.fr, .int .i64 W.to] 24
  have HV := Lib.hid (hv.below hb0)
  have hbr := Below.refl W0.heap.size W0
  go_enter Tryd.func4, Tryd.ntmps4
  go_wp2_with fail
  rw [← hW0]
  clear hW0 hv
  (refine wp_region_kept W0 (by kernel_rfl) (by kernel_rfl) (by assumption) ?_; (repeat (go_big_quiet_step ((first | (go_at_call 12; exact kept_call (winValid_any W _)) | (go_at_call 17; exact kept_call (refValid_any W _)) | (go_at_call 18; exact kept_call (ex5_any _ (HV.out.below (after_kept _).2))))))); refine wpQuiet_nil ?_; intro _ hw'; obtain ⟨x9, hw''⟩ := hw'; subst hw''; have hk9 := after_kept x9; generalize after x9 = w9 at *)
  go_wp2_with fail
  go_ret
  exact ⟨rfl, below_step hb0 hk9.2⟩

set_option maxRecDepth 100000 in
set_option maxHeartbeats 1600000 in
theorem lawWinHolds (W : WinR) (z : ZoneR) (t : Int) (w : World) (hv : LenV w) :
    Calls Tryd.prog 5 #[.agg #[.int .i64 W.dy, .int .i64 W.st, .int .i64 W.en, .int .i64 W.fr, .int .i64 W.to], .agg #[.int .i64 z.off, .bool z.sum], .int .i64 t] w fun e w' => e = .returned (.bool true) ∧ Below w.heap.size w w' := by
  obtain ⟨W0, hW0, hb0, hg0, hg1, hx0, hy0⟩ := box2 w #[.int .i64 W.dy, .int .i64 W.st, .int .i64 W.en, .int .i64 W.fr, .int .i64 W.to] 24 #[.int .i64 z.off, .bool z.sum] 26
  have HV := Lib.hid (hv.below hb0)
  have hbr := Below.refl W0.heap.size W0
  go_enter Tryd.func5, Tryd.ntmps5
  go_wp2_with fail
  rw [← hW0]
  clear hW0 hv
  (refine wp_region_kept W0 (by kernel_rfl) (by kernel_rfl) (by assumption) ?_; (repeat (go_big_quiet_step ((first | (go_at_call 15; exact kept_call (holdsT_any W z t _ (HV.out.below (after_kept _).2))) | (go_at_call 19; exact kept_call (refHolds_any W z t _)) | (go_at_call 18; exact kept_call (ex5_any _ (HV.out.below (after_kept _).2))))))); refine wpQuiet_nil ?_; intro _ hw'; obtain ⟨x9, hw''⟩ := hw'; subst hw''; have hk9 := after_kept x9; generalize after x9 = w9 at *)
  go_wp2_with fail
  go_ret
  exact ⟨rfl, below_step hb0 hk9.2⟩

set_option maxRecDepth 100000 in
set_option maxHeartbeats 1600000 in
theorem lawWinNext (W : WinR) (z : ZoneR) (t : Int) (w : World) (hv : LenV w) :
    Calls Tryd.prog 6 #[.agg #[.int .i64 W.dy, .int .i64 W.st, .int .i64 W.en, .int .i64 W.fr, .int .i64 W.to], .agg #[.int .i64 z.off, .bool z.sum], .int .i64 t] w fun e w' => e = .returned (.bool true) ∧ Below w.heap.size w w' := by
  obtain ⟨W0, hW0, hb0, hg0, hg1, hx0, hy0⟩ := box2 w #[.int .i64 W.dy, .int .i64 W.st, .int .i64 W.en, .int .i64 W.fr, .int .i64 W.to] 24 #[.int .i64 z.off, .bool z.sum] 26
  have HV := Lib.hid (hv.below hb0)
  have hbr := Below.refl W0.heap.size W0
  go_enter Tryd.func6, Tryd.ntmps6
  go_wp2_with fail
  rw [← hW0]
  clear hW0 hv
  (refine wp_region_kept W0 (by kernel_rfl) (by kernel_rfl) (by assumption) ?_; (repeat (go_big_quiet_step ((first | (go_at_call 20; exact kept_call (winNext_any W z t _ (HV.out.below (after_kept _).2))) | (go_at_call 21; exact kept_call (refNext_any W z t _)) | (go_at_call 18; exact kept_call (ex5_any _ (HV.out.below (after_kept _).2))))))); refine wpQuiet_nil ?_; intro _ hw'; obtain ⟨x9, hw''⟩ := hw'; subst hw''; have hk9 := after_kept x9; generalize after x9 = w9 at *)
  go_wp2_with fail
  go_ret
  exact ⟨rfl, below_step hb0 hk9.2⟩

end Go.Proofs.YtneoaakichcegaaDoor
