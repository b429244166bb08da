/-
  Walks: the laws SitePaths, SiteFits.
-/
import Derived.Test.YtkjggfhbnhpdnaaDoorWSite17
namespace Go.Proofs.YtkjggfhbnhpdnaaDoor
open Go.RowKit Go.Lib Go.Maps
attribute [local go_sem] after_cell
set_option linter.unusedVariables false

set_option maxRecDepth 100000 in
set_option maxHeartbeats 6400000 in
theorem lawPaths (a : SiteV) (i : Int) (w : World) (ha : SiteIn w a) : Calls Tryd.prog 4 #[.agg #[.string a.S.name, a.fv, a.pv], .int .i64 i] w fun e w' => e = .returned (.bool true) ∧ Below w.heap.size w w' := by
  obtain ⟨S, fv, pv⟩ := a
  obtain ⟨hF, hP, hn, fF, fP⟩ := ha
  simp only at hF hP hn fF fP ⊢
  obtain ⟨A, c, rfl, hlc, hcm, _⟩ := islen' hF
  obtain ⟨B, d, rfl, hld, hdm, _⟩ := islen' hP
  obtain ⟨W0, hW0, hb0, hg0, hx0⟩ := box1 w #[.string S.name, .slice A S.F.length c, .slice B S.P.length d] 25
  have HF := Lib.hid (hF.below hb0)
  have HSM := Lib.hid (fun w => small_any S.name A B none none none S.F.length c S.P.length d 0 0 0 0 0 0 w (by unfold maxLen at *; omega))
  clear hF hP hlc hld
  cases hs : smallB S.F.length S.P.length 0 0 0 with
  | false =>
    go_enter Tryd.func4, Tryd.ntmps4
    go_wp2_with fail
    rw [← hW0]
    clear hW0
    refine (HSM.out _).mono ?_
    rintro e w1 ⟨rfl, hb1⟩
    rw [hs]
    go_wp2_with fail
    refine (siteHolds_any _).mono ?_
    rintro e w2 ⟨rfl, hb2⟩
    go_wp2_with fail
    go_ret
    exact ⟨rfl, below_step hb0 (below_step hb1 hb2)⟩
  | true =>
    have hl40 := (small_t hs).1
    go_enter Tryd.func4, Tryd.ntmps4
    go_wp2_with fail
    rw [← hW0]
    clear hW0
    refine (HSM.out _).mono ?_
    rintro e w1 ⟨rfl, hb1⟩
    rw [hs]
    clear hs HSM
    have hg1 : w.heap.size < w1.heap.size := Nat.lt_of_lt_of_le hg0 hb1.size
    have hx1 : ∀ j, w1.cell? ⟨w.heap.size, j, none⟩ = (#[.string S.name, .slice A S.F.length c, .slice B S.P.length d] : Array Value)[j]? := fun j => (hb1.cell (p := ⟨w.heap.size, j, none⟩) hg0).trans (hx0 j)
    have HF1 := Lib.hid (HF.out.below hb1)
    have hb01 := below_step hb0 hb1
    have hbw := Below.refl w1.heap.size w1
    have hpl : (pathL S.F S.F.length i).length ≤ 1000000 := Nat.le_trans (pathL_short pathL_desc pathL_lt) (by omega)
    generalize hPL : pathL S.F S.F.length i = PL at *
    have HPL := Lib.hid hPL
    clear hx0 hb0 hb1 hg0 HF hn fF fP hPL
    go_wp2_with fail
    go_region_held3 (fun w' => (∀ b o, b < w1.heap.size → w'.cell? ⟨b, o, none⟩ = w1.cell? ⟨b, o, none⟩) ∧ Below w1.heap.size w1 w') (first | exact ⟨(bcell (W := w1) (by assumption)).1, by assumption⟩ | exact ⟨(bcell (W := w1) (Below.drew (by assumption))).1, Below.drew (by assumption)⟩) ((first | (go_at_call 15; refine (path_any S.name S.F _ B S.P.length d i _ (HF1.out.below (And.right (by assumption))) (by omega)).mono ?_; rintro e w4 ⟨v4, rfl, hv4, hb4⟩; rw [HPL.out, map_encN] at hv4; have hb4' := below_step (w := w1) (And.right (by assumption)) hb4) | (go_at_call 16; refine (refPath_any S.name S.F _ B S.P.length d i _ (HF1.out.below (And.right (by assumption))) (by omega)).mono ?_; rintro e w5 ⟨v5, rfl, hv5, hb5, _⟩; rw [HPL.out, map_encN] at hv5; have hb5' := below_step (w := w1) (And.right (by assumption)) hb5) | (go_at_call 14; refine (ints_any _ _ v4 v5 _ (by simp; omega) (by simp; omega) (hv4.below hb5) hv5).mono ?_; rintro e w6 ⟨rfl, hb6⟩; rw [eqL_t rfl]; have hb6' := below_step (w := w1) (And.right (by assumption)) hb6) | (go_at_call 11; refine (siteHolds_any _).mono ?_; rintro e w7 ⟨rfl, hb7⟩; have hb7' := below_step (w := w1) (And.right (by assumption)) hb7)))
    all_goals
      go_wp2_with fail
      go_ret
      exact ⟨rfl, below_step hb01 (by first | assumption | exact below_drew (by assumption))⟩

set_option maxRecDepth 100000 in
set_option maxHeartbeats 6400000 in
theorem lawFits (a : CaseV) (w : World) (ha : CaseIn w a) : Calls Tryd.prog 6 #[.agg #[.string a.s.S.name, a.s.fv, a.s.pv, a.cv, a.wv, a.zv]] w fun e w' => e = .returned (.bool true) ∧ Below w.heap.size w w' := by
  obtain ⟨⟨S, fv, pv⟩, C, W, Z, cv, wv, zv⟩ := a
  obtain ⟨⟨hF, hP, hn, fF, fP⟩, hC, hW, hZ, fW⟩ := ha
  simp only at hF hP hn fF fP hC hW hZ fW ⊢
  obtain ⟨A, c, rfl, hlc, hcm, _⟩ := islen' hF
  obtain ⟨B, d, rfl, hld, hdm, _⟩ := islen' hP
  obtain ⟨C', c', rfl, hlc', hcm', _⟩ := islen' hC
  obtain ⟨D, d', rfl, hld', hdm', _⟩ := islen' hW
  obtain ⟨E, e', rfl, hle', hem', _⟩ := islen' hZ
  obtain ⟨W0, hW0, hb0, hg0, hx0⟩ := box1 w #[.string S.name, .slice A S.F.length c, .slice B S.P.length d, .slice C' C.length c', .slice D W.length d', .slice E Z.length e'] 31
  have HF := Lib.hid (hF.below hb0)
  have HP := Lib.hid (hP.below hb0)
  have HC := Lib.hid (hC.below hb0)
  have HW := Lib.hid (hW.below hb0)
  have HZ := Lib.hid (hZ.below hb0)
  have HSM := Lib.hid (fun w => small_any S.name A B C' D E S.F.length c S.P.length d C.length c' W.length d' Z.length e' w (by unfold maxLen at *; omega))
  clear hF hP hC hW hZ hlc hld hlc' hld' hle'
  cases hs : smallB S.F.length S.P.length W.length Z.length C.length with
  | false =>
    go_enter Tryd.func6, Tryd.ntmps6
    go_wp2_with fail
    rw [← hW0]
    clear hW0
    refine (HSM.out _).mono ?_
    rintro e w1 ⟨rfl, hb1⟩
    rw [hs]
    go_wp2_with fail
    refine (siteHolds_any _).mono ?_
    rintro e w2 ⟨rfl, hb2⟩
    go_wp2_with fail
    go_ret
    exact ⟨rfl, below_step hb0 (below_step hb1 hb2)⟩
  | true =>
    obtain ⟨l1, l2, l3, l4, l5⟩ := small_t hs
    go_enter Tryd.func6, Tryd.ntmps6
    go_wp2_with fail
    rw [← hW0]
    clear hW0
    refine (HSM.out _).mono ?_
    rintro e w1 ⟨rfl, hb1⟩
    rw [hs]
    clear hs HSM
    have hg1 : w.heap.size < w1.heap.size := Nat.lt_of_lt_of_le hg0 hb1.size
    have hx1 : ∀ j, w1.cell? ⟨w.heap.size, j, none⟩ = (#[.string S.name, .slice A S.F.length c, .slice B S.P.length d, .slice C' C.length c', .slice D W.length d', .slice E Z.length e'] : Array Value)[j]? := fun j => (hb1.cell (p := ⟨w.heap.size, j, none⟩) hg0).trans (hx0 j)
    have HF1 := Lib.hid (HF.out.below hb1)
    have HP1 := Lib.hid (HP.out.below hb1)
    have HC1 := Lib.hid (HC.out.below hb1)
    have HW1 := Lib.hid (HW.out.below hb1)
    have HZ1 := Lib.hid (HZ.out.below hb1)
    have hb01 := below_step hb0 hb1
    have hbw := Below.refl w1.heap.size w1
    have HNF := Lib.hid (And.intro hn (And.intro fF (And.intro fP fW)))
    clear hx0 hb0 hb1 hg0 HF HP HC HW HZ hn fF fP fW
    go_wp2_with fail
    (refine wp_region_kept w1 (by kernel_rfl) (by kernel_rfl) (by assumption) ?_; (repeat (go_big_quiet_step ((first | (go_at_call 19; exact kept_call (fits_any S C W Z _ _ _ _ _ _ (HF1.out.below (after_kept _).2) (HP1.out.below (after_kept _).2) (HC1.out.below (after_kept _).2) (HW1.out.below (after_kept _).2) (HZ1.out.below (after_kept _).2) HNF.out.1 HNF.out.2.1 HNF.out.2.2.1 HNF.out.2.2.2 (by omega) (by omega) (by omega))) | (go_at_call 20; exact kept_call (refFits_any S C W Z _ _ _ _ _ _ (HF1.out.below (after_kept _).2) (HP1.out.below (after_kept _).2) (HC1.out.below (after_kept _).2) (HW1.out.below (after_kept _).2) (HZ1.out.below (after_kept _).2) HNF.out.1 HNF.out.2.1 HNF.out.2.2.1 (by omega) (by omega) (by omega))) | (go_at_call 11; exact kept_call (siteHolds_any _)))))); refine wpQuiet_nil ?_; intro _ hw'; obtain ⟨x9, hw''⟩ := hw'; subst hw''; have hk9 := after_kept x9; generalize after x9 = w9 at *)
    go_wp2_with fail
    go_ret
    exact ⟨rfl, below_step hb01 hk9.2⟩

end Go.Proofs.YtkjggfhbnhpdnaaDoor
