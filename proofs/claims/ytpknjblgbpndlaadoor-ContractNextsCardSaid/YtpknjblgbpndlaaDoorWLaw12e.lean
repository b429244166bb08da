/-
  Walks: the law ContractNexts.
-/
import Derived.Test.YtpknjblgbpndlaaDoorWCon14
namespace Go.Proofs.YtpknjblgbpndlaaDoor
open Go.RowKit Go.Lib Go.Maps
attribute [local go_sem] after_cell
set_option linter.unusedVariables false

set_option maxRecDepth 100000 in
set_option maxHeartbeats 3200000 in
theorem lawConNexts (l : List ConR) (v : Value) (z : ZoneR) (t : Int) (w : World) (hv : LenV w) (hL : IsSl w 8 v (l.map ConR.cells)) (hfit : ∀ c ∈ l, c.fits) :
    Calls Tryd.prog 6 #[v, .agg #[.int .i64 z.off, .bool z.sum], .int .i64 t] w fun e w' => e = .returned (.bool true) ∧ Below w.heap.size w w' := by
  obtain ⟨W0, hW0, hb0, hg0, hx0⟩ := box1 w #[.int .i64 z.off, .bool z.sum] 26
  have HV := Lib.hid (hv.below hb0)
  have HL := Lib.hid (hL.below hb0)
  have HF := Lib.hid hfit
  have hbr := Below.refl W0.heap.size W0
  clear hv hfit
  obtain ⟨A, c, rfl, hlc, hcm, hsl⟩ := hL
  simp only [List.length_map] at HL ⊢
  by_cases h8 : (6 : Int) < (l.length : Int)
  · go_enter Tryd.func6, Tryd.ntmps6
    go_wp2_with fail
    rw [← hW0]
    clear hW0
    refine (awake12_any _ HV.out).mono ?_
    rintro e w2 ⟨rfl, hb2⟩
    go_wp2_with fail
    go_ret
    exact ⟨rfl, below_step hb0 hb2⟩
  · have hl : l.length ≤ 1000 := by omega
    go_enter Tryd.func6, Tryd.ntmps6
    go_wp2_with fail
    rw [← hW0]
    clear hW0
    (refine wp_region_kept W0 (by kernel_rfl) (by kernel_rfl) (by assumption) ?_; (repeat (go_big_quiet_step ((first | (go_at_call 21; exact kept_call (conNext_any l _ z t _ (HV.out.below (after_kept _).2) (HL.out.below (after_kept _).2) HF.out hl)) | (go_at_call 22; exact kept_call (refConNext_any l _ z t _ (HL.out.below (after_kept _).2) hl)) | (go_at_call 16; exact kept_call (awake12_any _ (HV.out.below (after_kept _).2))))))); refine wpQuiet_nil ?_; intro _ hw'; obtain ⟨x9, hw''⟩ := hw'; subst hw''; have hk9 := after_kept x9; generalize after x9 = w9 at *)
    go_wp2_with fail
    go_ret
    exact ⟨rfl, below_step hb0 hk9.2⟩

end Go.Proofs.YtpknjblgbpndlaaDoor
