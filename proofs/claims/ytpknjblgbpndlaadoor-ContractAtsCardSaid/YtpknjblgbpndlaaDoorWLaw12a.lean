/-
  Walks: the laws ContractValids and ContractAts.
-/
import Derived.Test.YtpknjblgbpndlaaDoorWConB
namespace Go.Proofs.YtpknjblgbpndlaaDoor
open Go.RowKit Go.Lib Go.Maps
attribute [local go_sem] after_cell
set_option linter.unusedVariables false

set_option maxRecDepth 100000 in
set_option maxHeartbeats 3200000 in
theorem lawConValids (x : ConR) (s : ByteArray) (A B : Option Addr) (n c m d : Nat) (w : World) (hv : LenV w) (hn : x.nm.size ≤ maxLen) (hm : n ≤ maxLen) :
    Calls Tryd.prog 4 #[.agg #[.string x.nm, .int .i64 x.fd, .int .i64 x.w.dy, .int .i64 x.w.st, .int .i64 x.w.en, .int .i64 x.w.fr, .int .i64 x.w.to, .int .i64 x.tot], .agg #[.string s, .slice A n c, .slice B m d]] w fun e w' => e = .returned (.bool true) ∧ Below w.heap.size w w' := by
  obtain ⟨W0, hW0, hb0, hg1, hg0, hx0, hy0⟩ := box2 w #[.string x.nm, .int .i64 x.fd, .int .i64 x.w.dy, .int .i64 x.w.st, .int .i64 x.w.en, .int .i64 x.w.fr, .int .i64 x.w.to, .int .i64 x.tot] 43 #[.string s, .slice A n c, .slice B m d] 47
  have HV := Lib.hid (hv.below hb0)
  have HN := Lib.hid hn
  have HM := Lib.hid hm
  have hbr := Below.refl W0.heap.size W0
  clear hv hn hm
  by_cases h50 : (50 : Int) < (x.nm.size : Int)
  · go_enter Tryd.func4, Tryd.ntmps4
    go_wp2_with fail
    rw [← hW0]
    clear hW0
    refine (awake12_any _ HV.out).mono ?_
    rintro e w2 ⟨rfl, hb2⟩
    go_wp2_with fail
    go_ret
    exact ⟨rfl, below_step hb0 hb2⟩
  · go_enter Tryd.func4, Tryd.ntmps4
    go_wp2_with fail
    rw [← hW0]
    clear hW0
    (refine wp_region_kept W0 (by kernel_rfl) (by kernel_rfl) (by assumption) ?_; (repeat (go_big_quiet_step ((first | (go_at_call 17; exact kept_call (conValid_any x s A B n c m d _ HN.out HM.out)) | (go_at_call 18; exact kept_call (refConV_any x s A B n c m d _ HN.out HM.out)) | (go_at_call 16; exact kept_call (awake12_any _ (HV.out.below (after_kept _).2))))))); refine wpQuiet_nil ?_; intro _ hw'; obtain ⟨x9, hw''⟩ := hw'; subst hw''; have hk9 := after_kept x9; generalize after x9 = w9 at *)
    go_wp2_with fail
    go_ret
    exact ⟨rfl, below_step hb0 hk9.2⟩

set_option maxRecDepth 100000 in
set_option maxHeartbeats 3200000 in
theorem lawConAts (l : List ConR) (v : Value) (z : ZoneR) (f t : Int) (w : World) (hv : LenV w) (hL : IsSl w 8 v (l.map ConR.cells)) :
    Calls Tryd.prog 5 #[v, .agg #[.int .i64 z.off, .bool z.sum], .int .i64 f, .int .i64 t] w fun e w' => e = .returned (.bool true) ∧ Below w.heap.size w w' := by
  obtain ⟨W0, hW0, hb0, hg0, hx0⟩ := box1 w #[.int .i64 z.off, .bool z.sum] 26
  have HV := Lib.hid (hv.below hb0)
  have HL := Lib.hid (hL.below hb0)
  have hbr := Below.refl W0.heap.size W0
  clear hv
  obtain ⟨A, c, rfl, hlc, hcm, hsl⟩ := hL
  simp only [List.length_map] at HL ⊢
  by_cases h8 : (8 : Int) < (l.length : Int)
  · go_enter Tryd.func5, Tryd.ntmps5
    go_wp2_with fail
    rw [← hW0]
    clear hW0
    refine (awake12_any _ HV.out).mono ?_
    rintro e w2 ⟨rfl, hb2⟩
    go_wp2_with fail
    go_ret
    exact ⟨rfl, below_step hb0 hb2⟩
  · go_enter Tryd.func5, Tryd.ntmps5
    go_wp2_with fail
    rw [← hW0]
    clear hW0
    (refine wp_region_kept W0 (by kernel_rfl) (by kernel_rfl) (by assumption) ?_; (repeat (go_big_quiet_step ((first | (go_at_call 19; exact kept_call (conAt_any l _ z f t _ (HV.out.below (after_kept _).2) (HL.out.below (after_kept _).2))) | (go_at_call 20; exact kept_call (refConAt_any l _ z f t _ (HL.out.below (after_kept _).2))) | (go_at_call 16; exact kept_call (awake12_any _ (HV.out.below (after_kept _).2))))))); refine wpQuiet_nil ?_; intro _ hw'; obtain ⟨x9, hw''⟩ := hw'; subst hw''; have hk9 := after_kept x9; generalize after x9 = w9 at *)
    go_wp2_with fail
    go_ret
    exact ⟨rfl, below_step hb0 hk9.2⟩

end Go.Proofs.YtpknjblgbpndlaaDoor
