/-
  Walks: the laws LimitsValid, LimitsAt, LimitsNext, LimitsPaths.
-/
import Derived.Test.YtmappmeojmdekaaGreatDoorM15
namespace Go.Proofs.YtmappmeojmdekaaGreatDoor
open Go.RowKit Go.Lib Go.Maps
attribute [local go_sem] after_cell
set_option linter.unusedVariables false

set_option maxRecDepth 100000 in
set_option maxHeartbeats 6400000 in
theorem lawLimValid (r : RulR) (fv pv cv uv : Value) (w : World) (hv : LenV w) (hI : LimIn w r fv pv cv uv) :
    Calls Tryz.prog 3 #[.agg #[.string r.S.name, fv, pv, .int .i64 r.z.off, .bool r.z.sum, cv, uv]] w fun e w' => e = .returned (.bool true) ∧ Below w.heap.size w w' := by
  have HI := Lib.hid hI
  obtain ⟨A, B, C, D, a, b, c, d, rfl, rfl, rfl, rfl, hA⟩ := hI.ad
  obtain ⟨W0, hW0, hb0, hg0, hx0⟩ := box1 w #[.string r.S.name, .slice A r.S.F.length a, .slice B r.S.P.length b, .int .i64 r.z.off, .bool r.z.sum, .slice C r.C.length c, .slice D r.U.length d] 31
  have HI0 := Lib.hid (HI.out.below hb0)
  have HV0 := Lib.hid (hv.below hb0)
  clear hA hI hv
  go_enter Tryz.func3, Tryz.ntmps3
  go_wp2_with fail
  rw [← hW0]
  clear hW0
  refine (limSmall_any r _ _ _ _ W0 HI0.out).mono ?_
  rintro e w1 ⟨b1, rfl, hb1⟩
  have y0 : ∀ j, w1.cell? ⟨w.heap.size, j, none⟩ = _ := fun j => (hb1.cell (p := ⟨w.heap.size, j, none⟩) hg0).trans (hx0 j)
  have y1 : w.heap.size < w1.heap.size := Nat.lt_of_lt_of_le hg0 hb1.size
  have HI1 := Lib.hid (HI0.out.below hb1)
  have HV1 := Lib.hid (HV0.out.below hb1)
  have hb01 := below_step hb0 hb1
  cases b1 with
  | false =>
    go_wp2_with fail
    refine (limEx_any _ HV1.out).mono ?_
    rintro e w2 ⟨rfl, hb2⟩
    go_wp2_with fail
    go_ret
    exact ⟨rfl, below_step hb01 hb2⟩
  | true =>
    have hbr := Below.refl w1.heap.size w1
    clear hx0 hg0 hb1 HI0 HV0
    go_wp2_with fail
    (refine wp_region_kept w1 (by kernel_rfl) (by kernel_rfl) (by assumption) ?_; (repeat (go_big_quiet_step ((first | (go_at_call 12; exact kept_call (limValid_any r _ _ _ _ _ (HI1.out.below (after_kept _).2))) | (go_at_call 13; exact kept_call (refLimValid_any r _ _ _ _ _ (HI1.out.below (after_kept _).2))) | (go_at_call 11; exact kept_call (limEx_any _ (HV1.out.below (after_kept _).2))))))); refine wpQuiet_nil ?_; intro _ hw'; obtain ⟨x9, hw''⟩ := hw'; subst hw''; have hk9 := after_kept x9; generalize after x9 = w9 at *)
    obtain ⟨hc9, hb9⟩ := hk9
    go_wp2_with fail
    go_ret
    exact ⟨rfl, below_step hb01 hb9⟩

set_option maxRecDepth 100000 in
set_option maxHeartbeats 6400000 in
theorem lawLimAt (r : RulR) (fv pv cv uv : Value) (t : Int) (w : World) (hv : LenV w) (hI : LimIn w r fv pv cv uv) :
    Calls Tryz.prog 4 #[.agg #[.string r.S.name, fv, pv, .int .i64 r.z.off, .bool r.z.sum, cv, uv], .int .i64 t] w fun e w' => e = .returned (.bool true) ∧ Below w.heap.size w w' := by
  have HI := Lib.hid hI
  obtain ⟨A, B, C, D, a, b, c, d, rfl, rfl, rfl, rfl, hA⟩ := hI.ad
  obtain ⟨W0, hW0, hb0, hg0, hx0⟩ := box1 w #[.string r.S.name, .slice A r.S.F.length a, .slice B r.S.P.length b, .int .i64 r.z.off, .bool r.z.sum, .slice C r.C.length c, .slice D r.U.length d] 31
  have HI0 := Lib.hid (HI.out.below hb0)
  have HV0 := Lib.hid (hv.below hb0)
  have hfm := Nat.le_trans hA.lF.1 hA.lF.2
  unfold maxLen at hfm
  clear hA hI hv
  go_enter Tryz.func4, Tryz.ntmps4
  go_wp2_with fail
  rw [← hW0]
  clear hW0
  refine (limSmall_any r _ _ _ _ W0 HI0.out).mono ?_
  rintro e w1 ⟨b1, rfl, hb1⟩
  have y0 : ∀ j, w1.cell? ⟨w.heap.size, j, none⟩ = _ := fun j => (hb1.cell (p := ⟨w.heap.size, j, none⟩) hg0).trans (hx0 j)
  have y1 : w.heap.size < w1.heap.size := Nat.lt_of_lt_of_le hg0 hb1.size
  have HI1 := Lib.hid (HI0.out.below hb1)
  have HV1 := Lib.hid (HV0.out.below hb1)
  have hb01 := below_step hb0 hb1
  cases b1 with
  | false =>
    go_wp2_with fail
    refine (limEx_any _ HV1.out).mono ?_
    rintro e w2 ⟨rfl, hb2⟩
    go_wp2_with fail
    go_ret
    exact ⟨rfl, below_step hb01 hb2⟩
  | true =>
    have HLL : Hid ((atL r t).length ≤ 1000000) := by
      unfold Hid atL
      split
      · rename_i h
        have : limE r = 0 := by
          unfold atE at h
          split at h
          · rename_i g; exact absurd h g
          · rename_i g; exact Classical.not_not.1 g
        have := (LimOk.of this).lens.1
        rw [capsL_len]; omega
      · simp
    clear hx0 hg0 hb1 HI0 HV0
    go_wp2_with fail
    refine (limAt_any r _ _ _ _ t w1 HV1.out HI1.out).mono ?_
    rintro e w2 ⟨v2, rfl, hs2, hb2⟩
    have z0 : ∀ j, w2.cell? ⟨w.heap.size, j, none⟩ = _ := fun j => (hb2.cell (p := ⟨w.heap.size, j, none⟩) y1).trans (y0 j)
    have z1 : w.heap.size < w2.heap.size := Nat.lt_of_lt_of_le y1 hb2.size
    have HS2 := Lib.hid hs2
    have hb02 := below_step hb01 hb2
    clear hs2
    go_wp2_with fail
    refine (refLimAt_any r _ _ _ _ t w2 (HI1.out.below hb2)).mono ?_
    rintro e w3 ⟨v3, rfl, hs3, hb3⟩
    have HS3 := Lib.hid hs3
    have hb03 := below_step hb02 hb3
    have HSM := Lib.hid (refSameCaps_any _ _ _ _ w3 HLL.out HLL.out (HS2.out.below hb3) hs3)
    rw [eqL_t rfl] at HSM
    clear hs3
    go_wp2_with fail
    refine HSM.out.mono ?_
    rintro e w4 ⟨rfl, hb4⟩
    go_wp2_with fail
    refine (limEx_any _ (HV1.out.below (below_step (below_step hb2 hb3) hb4))).mono ?_
    rintro e w5 ⟨rfl, hb5⟩
    go_wp2_with fail
    go_ret
    exact ⟨rfl, below_step (below_step hb03 hb4) hb5⟩

set_option maxRecDepth 100000 in
set_option maxHeartbeats 6400000 in
theorem lawLimNext (r : RulR) (fv pv cv uv : Value) (t : Int) (w : World) (hv : LenV w) (hI : LimIn w r fv pv cv uv) :
    Calls Tryz.prog 5 #[.agg #[.string r.S.name, fv, pv, .int .i64 r.z.off, .bool r.z.sum, cv, uv], .int .i64 t] w fun e w' => e = .returned (.bool true) ∧ Below w.heap.size w w' := by
  have HI := Lib.hid hI
  obtain ⟨A, B, C, D, a, b, c, d, rfl, rfl, rfl, rfl, hA⟩ := hI.ad
  obtain ⟨W0, hW0, hb0, hg0, hx0⟩ := box1 w #[.string r.S.name, .slice A r.S.F.length a, .slice B r.S.P.length b, .int .i64 r.z.off, .bool r.z.sum, .slice C r.C.length c, .slice D r.U.length d] 31
  have HI0 := Lib.hid (HI.out.below hb0)
  have HV0 := Lib.hid (hv.below hb0)
  clear hA hI hv
  go_enter Tryz.func5, Tryz.ntmps5
  go_wp2_with fail
  rw [← hW0]
  clear hW0
  refine (limLight_any r _ _ _ _ t W0 HI0.out).mono ?_
  rintro e w1 ⟨b1, rfl, hb1⟩
  have y0 : ∀ j, w1.cell? ⟨w.heap.size, j, none⟩ = _ := fun j => (hb1.cell (p := ⟨w.heap.size, j, none⟩) hg0).trans (hx0 j)
  have y1 : w.heap.size < w1.heap.size := Nat.lt_of_lt_of_le hg0 hb1.size
  have HI1 := Lib.hid (HI0.out.below hb1)
  have HV1 := Lib.hid (HV0.out.below hb1)
  have hb01 := below_step hb0 hb1
  cases b1 with
  | false =>
    go_wp2_with fail
    refine (limEx_any _ HV1.out).mono ?_
    rintro e w2 ⟨rfl, hb2⟩
    go_wp2_with fail
    go_ret
    exact ⟨rfl, below_step hb01 hb2⟩
  | true =>
    have hbr := Below.refl w1.heap.size w1
    clear hx0 hg0 hb1 HI0 HV0
    go_wp2_with fail
    (refine wp_region_kept w1 (by kernel_rfl) (by kernel_rfl) (by assumption) ?_; (repeat (go_big_quiet_step ((first | (go_at_call 18; exact kept_call (limNext_any r _ _ _ _ t _ (HV1.out.below (after_kept _).2) (HI1.out.below (after_kept _).2))) | (go_at_call 19; exact kept_call (refLimNext_any r _ _ _ _ t _ (HI1.out.below (after_kept _).2))) | (go_at_call 11; exact kept_call (limEx_any _ (HV1.out.below (after_kept _).2))))))); refine wpQuiet_nil ?_; intro _ hw'; obtain ⟨x9, hw''⟩ := hw'; subst hw''; have hk9 := after_kept x9; generalize after x9 = w9 at *)
    obtain ⟨hc9, hb9⟩ := hk9
    go_wp2_with fail
    go_ret
    exact ⟨rfl, below_step hb01 hb9⟩

set_option maxRecDepth 100000 in
set_option maxHeartbeats 6400000 in
theorem lawLimPaths (r : RulR) (fv pv cv uv : Value) (f t : Int) (w : World) (hv : LenV w) (hI : LimIn w r fv pv cv uv) :
    Calls Tryz.prog 6 #[.agg #[.string r.S.name, fv, pv, .int .i64 r.z.off, .bool r.z.sum, cv, uv], .int .i64 f, .int .i64 t] w fun e w' => e = .returned (.bool true) ∧ Below w.heap.size w w' := by
  have HI := Lib.hid hI
  obtain ⟨A, B, C, D, a, b, c, d, rfl, rfl, rfl, rfl, hA⟩ := hI.ad
  obtain ⟨W0, hW0, hb0, hg0, hx0⟩ := box1 w #[.string r.S.name, .slice A r.S.F.length a, .slice B r.S.P.length b, .int .i64 r.z.off, .bool r.z.sum, .slice C r.C.length c, .slice D r.U.length d] 31
  have HI0 := Lib.hid (HI.out.below hb0)
  have HV0 := Lib.hid (hv.below hb0)
  clear hA hI hv
  go_enter Tryz.func6, Tryz.ntmps6
  go_wp2_with fail
  rw [← hW0]
  clear hW0
  refine (limSmall_any r _ _ _ _ W0 HI0.out).mono ?_
  rintro e w1 ⟨b1, rfl, hb1⟩
  have y0 : ∀ j, w1.cell? ⟨w.heap.size, j, none⟩ = _ := fun j => (hb1.cell (p := ⟨w.heap.size, j, none⟩) hg0).trans (hx0 j)
  have y1 : w.heap.size < w1.heap.size := Nat.lt_of_lt_of_le hg0 hb1.size
  have HI1 := Lib.hid (HI0.out.below hb1)
  have HV1 := Lib.hid (HV0.out.below hb1)
  have hb01 := below_step hb0 hb1
  cases b1 with
  | false =>
    go_wp2_with fail
    refine (limEx_any _ HV1.out).mono ?_
    rintro e w2 ⟨rfl, hb2⟩
    go_wp2_with fail
    go_ret
    exact ⟨rfl, below_step hb01 hb2⟩
  | true =>
    have hbr := Below.refl w1.heap.size w1
    clear hx0 hg0 hb1 HI0 HV0
    go_wp2_with fail
    (refine wp_region_kept w1 (by kernel_rfl) (by kernel_rfl) (by assumption) ?_; (repeat (go_big_quiet_step ((first | (go_at_call 20; exact kept_call (limPath_any r _ _ _ _ f t _ (HV1.out.below (after_kept _).2) (HI1.out.below (after_kept _).2))) | (go_at_call 21; exact kept_call (refLimPath_any r _ _ _ _ f t _ (HI1.out.below (after_kept _).2))) | (go_at_call 11; exact kept_call (limEx_any _ (HV1.out.below (after_kept _).2))))))); refine wpQuiet_nil ?_; intro _ hw'; obtain ⟨x9, hw''⟩ := hw'; subst hw''; have hk9 := after_kept x9; generalize after x9 = w9 at *)
    obtain ⟨hc9, hb9⟩ := hk9
    go_wp2_with fail
    go_ret
    exact ⟨rfl, below_step hb01 hb9⟩

end Go.Proofs.YtmappmeojmdekaaGreatDoor
