/-
  Walks: the laws SiteValid, SitePaths, SiteOver, SiteFits.
-/
import Derived.Test.YtkjggfhbnhpdnaaDoorOSite
namespace Go.Proofs.YtkjggfhbnhpdnaaDoor
open Go.RowKit Go.Lib Go.Maps
attribute [local go_sem] after_cell
set_option linter.unusedVariables false

set_option maxRecDepth 100000 in
set_option maxHeartbeats 6400000 in
theorem lawValid (a : SiteV) (w : World) (ha : SiteIn w a) : Calls Tryd.prog 3 #[.agg #[.string a.S.name, a.fv, a.pv]] w fun e w' => e = .returned (.bool true) ∧ Below w.heap.size w w' := by
  obtain ⟨S, fv, pv⟩ := a
  obtain ⟨hF, hP, hn, fF, fP⟩ := ha
  simp only at hF hP hn fF fP ⊢
  obtain ⟨A, c, rfl, hlc, hcm, _⟩ := islen' hF
  obtain ⟨B, d, rfl, hld, hdm, _⟩ := islen' hP
  obtain ⟨W0, hW0, hb0, hg0, hx0⟩ := box1 w #[.string S.name, .slice A S.F.length c, .slice B S.P.length d] 25
  have HF := Lib.hid (hF.below hb0)
  have HP := Lib.hid (hP.below hb0)
  have HSM := Lib.hid (fun w => small_any S.name A B none none none S.F.length c S.P.length d 0 0 0 0 0 0 w (by unfold maxLen at *; omega))
  clear hF hP hlc hld
  cases hs : smallB S.F.length S.P.length 0 0 0 with
  | false =>
    go_enter Tryd.func3, Tryd.ntmps3
    go_wp2_with fail
    rw [← hW0]
    clear hW0
    refine (HSM.out _).mono ?_
    rintro e w1 ⟨rfl, hb1⟩
    rw [hs]
    go_wp2_with fail
    refine (siteHolds_any _).mono ?_
    rintro e w2 ⟨rfl, hb2⟩
    go_wp2_with fail
    go_ret
    exact ⟨rfl, below_step hb0 (below_step hb1 hb2)⟩
  | true =>
    go_enter Tryd.func3, Tryd.ntmps3
    go_wp2_with fail
    rw [← hW0]
    clear hW0
    refine (HSM.out _).mono ?_
    rintro e w1 ⟨rfl, hb1⟩
    rw [hs]
    clear hs HSM
    have hg1 : w.heap.size < w1.heap.size := Nat.lt_of_lt_of_le hg0 hb1.size
    have hx1 : ∀ j, w1.cell? ⟨w.heap.size, j, none⟩ = (#[.string S.name, .slice A S.F.length c, .slice B S.P.length d] : Array Value)[j]? := fun j => (hb1.cell (p := ⟨w.heap.size, j, none⟩) hg0).trans (hx0 j)
    have HF1 := Lib.hid (HF.out.below hb1)
    have HP1 := Lib.hid (HP.out.below hb1)
    have hb01 := below_step hb0 hb1
    have hbw := Below.refl w1.heap.size w1
    have HNF := Lib.hid (And.intro hn (And.intro fF fP))
    clear hx0 hb0 hb1 hg0 HF HP hn fF fP
    go_wp2_with fail
    (refine wp_region_kept w1 (by kernel_rfl) (by kernel_rfl) (by assumption) ?_; (repeat (go_big_quiet_step ((first | (go_at_call 12; exact kept_call (siteValid_any S _ _ _ (HF1.out.below (after_kept _).2) (HP1.out.below (after_kept _).2) HNF.out.1 HNF.out.2.1 HNF.out.2.2)) | (go_at_call 13; exact kept_call (refSiteValid_any S _ _ _ (HF1.out.below (after_kept _).2) (HP1.out.below (after_kept _).2) HNF.out.1 HNF.out.2.1 HNF.out.2.2)) | (go_at_call 11; exact kept_call (siteHolds_any _)))))); refine wpQuiet_nil ?_; intro _ hw'; obtain ⟨x9, hw''⟩ := hw'; subst hw''; have hk9 := after_kept x9; generalize after x9 = w9 at *)
    go_wp2_with fail
    go_ret
    exact ⟨rfl, below_step hb01 hk9.2⟩

set_option maxRecDepth 100000 in
set_option maxHeartbeats 6400000 in
theorem lawOver (C L : List CapR) (cv lv : Value) (w : World) (hC : IsSl w 4 cv (C.map CapR.cells)) (hL : IsSl w 4 lv (L.map CapR.cells)) : Calls Tryd.prog 5 #[cv, lv] w fun e w' => e = .returned (.bool true) ∧ Below w.heap.size w w' := by
  have HC := Lib.hid hC
  have HL := Lib.hid hL
  obtain ⟨A, c, rfl, hlc, hcm, _⟩ := islen' hC
  obtain ⟨B, d, rfl, hld, hdm, _⟩ := islen' hL
  unfold maxLen at hcm hdm
  have m1 : C.length ≤ 9223372036854775807 := by omega
  have m2 : L.length ≤ 9223372036854775807 := by omega
  clear hC hL hlc hcm hld hdm
  by_cases h1 : 1000 < C.length
  · skip
    go_enter Tryd.func5, Tryd.ntmps5
    go_wp2_with fail
    refine (siteHolds_any _).mono ?_
    rintro e w2 ⟨rfl, hb2⟩
    go_wp2_with fail
    go_ret
    exact ⟨rfl, hb2⟩
  by_cases h2 : 1000 < L.length
  · skip
    go_enter Tryd.func5, Tryd.ntmps5
    go_wp2_with fail
    refine (siteHolds_any _).mono ?_
    rintro e w2 ⟨rfl, hb2⟩
    go_wp2_with fail
    go_ret
    exact ⟨rfl, hb2⟩
  clear m1 m2
  have hol : (overL C L).length ≤ 1000 := by
    rw [← overU_all]
    exact Nat.le_trans (overU_len _ _ _) (by omega)
  go_enter Tryd.func5, Tryd.ntmps5
  go_wp2_with fail
  refine (over_any C L _ _ _ HC.out HL.out (by omega) (by omega)).mono ?_
  rintro e w1 ⟨v1, rfl, hv1, hb1⟩
  go_wp2_with fail
  refine (refOver_any C L _ _ _ (HC.out.below hb1) (HL.out.below hb1) (by omega) (by omega)).mono ?_
  rintro e w2 ⟨v2, rfl, hv2, hb2⟩
  go_wp2_with fail
  replace hv1 := hv1.below hb2
  rw [map_encN] at hv1 hv2
  refine (ints_any _ _ v1 v2 _ (by simp; omega) (by simp; omega) hv1 hv2).mono ?_
  rintro e w3 ⟨rfl, hb3⟩
  rw [eqL_t rfl]
  go_wp2_with fail
  refine (siteHolds_any _).mono ?_
  rintro e w4 ⟨rfl, hb4⟩
  go_wp2_with fail
  go_ret
  exact ⟨rfl, below_step hb1 (below_step hb2 (below_step hb3 hb4))⟩

end Go.Proofs.YtkjggfhbnhpdnaaDoor
