/-
  Walks: Valid of the reference of package site.
-/
import Derived.Test.YtkjggfhbnhpdnaaDoorWSite5
namespace Go.Proofs.YtkjggfhbnhpdnaaDoor
open Go.RowKit Go.Lib Go.Maps
set_option linter.unusedVariables false

set_option maxRecDepth 100000 in
set_option maxHeartbeats 6400000 in
theorem refSiteValid_any (S : SiteR) (fv pv : Value) (w : World) (hF : IsSl w 5 fv (S.F.map Feed.cells)) (hP : IsSl w 5 pv (S.P.map Pnt.cells)) (hn : S.name.size ≤ maxLen) (hfF : ∀ f ∈ S.F, f.fits) (hfP : ∀ p ∈ S.P, p.fits) :
    Calls Tryd.prog 13 #[.agg #[.string S.name, fv, pv]] w fun e w' => e = .returned (.int .i64 (siteE S)) ∧ Below w.heap.size w w' := by
  have HIF := Lib.hid hF
  have HIP := Lib.hid hP
  obtain ⟨A, c, rfl, hlc, hcm, hsl⟩ := islen' hF
  obtain ⟨B, d, rfl, hld, hdm, hsp⟩ := islen' hP
  obtain ⟨W0, hW0, hb0, hg0, hx0⟩ := box1 w #[.string S.name, .slice A S.F.length c, .slice B S.P.length d] 25
  have HFF := Lib.hid hfF
  have HFP := Lib.hid hfP
  clear hF hP hsl hsp hfF hfP hlc hld hcm hdm
  cases hv : (!validL S.name.data.toList) with
  | true =>
    have HE := Lib.hid (site_name hv)
    go_enter Tryd.func13, Tryd.ntmps13
    go_wp2_with fail
    rw [← hW0]
    clear hW0
    refine (refValid_any S.name _ hn).mono ?_
    rintro e w1 ⟨rfl, hd1⟩
    rw [show validL S.name.data.toList = false by simpa using hv]
    go_wp2_with fail
    go_ret
    exact ⟨ret_int (by rw [HE.out]), below_step hb0 (drewN_below hd1)⟩
  | false =>
  have hv' : validL S.name.data.toList = true := by simpa using hv
  by_cases hl : 32 < S.F.length ∨ 32 < S.P.length
  · have HE := Lib.hid (site_limit hv hl)
    by_cases hl1 : 32 < S.F.length
    rotate_left 1
    have hl2 : 32 < S.P.length := by omega
    all_goals
      go_enter Tryd.func13, Tryd.ntmps13
      go_wp2_with fail
      rw [← hW0]
      clear hW0
      refine (refValid_any S.name _ hn).mono ?_
      rintro e w1 ⟨rfl, hd1⟩
      rw [hv']
      have hb1 := drewN_below hd1
      obtain ⟨hc, hf⟩ := bcell hb1
      go_wp2_with fail
      go_ret
      exact ⟨ret_int (by rw [HE.out]), below_step hb0 hb1⟩
  have hl1 : S.F.length ≤ 32 := by omega
  have hl2 : S.P.length ≤ 32 := by omega
  have HSF := Lib.hid (fun (k : Nat) (hk : k < S.F.length) (h0 : firstE (feedAt S.F) k = 0) (he : feedAt S.F k ≠ 0) => site_feed hv hl hk h0 he)
  have HSQ := Lib.hid (fun (hF : firstE (feedAt S.F) S.F.length = 0) (k : Nat) (hk : k < S.P.length) (h0 : firstE (pntAt S.F S.P) k = 0) (he : pntAt S.F S.P k ≠ 0) => site_pnt hv hl hF hk h0 he)
  have HSO := Lib.hid (fun (hF : firstE (feedAt S.F) S.F.length = 0) (hP : firstE (pntAt S.F S.P) S.P.length = 0) => site_ok hv hl hF hP)
  clear hl hv
  go_enter Tryd.func13, Tryd.ntmps13
  go_wp2_with fail
  rw [← hW0]
  clear hW0
  refine (refValid_any S.name _ hn).mono ?_
  rintro e w1 ⟨rfl, hd1⟩
  rw [hv']
  have hb1 := drewN_below hd1
  clear hd1
  obtain ⟨hc, hf⟩ := bcell hb1
  go_wp2_with fail
  clear hc hf
  go_loopw [3] (fun i wr => ∃ k : Nat, k ≤ S.F.length ∧ i = .int .i64 k ∧ Below W0.heap.size W0 wr ∧ Hid (firstE (feedAt S.F) k = 0)) (fun i _ => S.F.length - (intOf i).toNat)
  case atStart => exact ⟨0, by omega, rfl, hb1, rfl⟩
  case round =>
    obtain ⟨k, hk, rfl, hbw, HZ⟩ := hrel
    obtain ⟨hc, hf⟩ := bcell hbw
    by_cases hlt : k < S.F.length
    · have hki : (k : Int) < (S.F.length : Int) := by omega
      have hb0w := below_step hb0 hbw
      go_wp2_with fail
      refine (refFeeder_any S _ _ k _ (HIF.out.below hb0w) (HIP.out.below hb0w) hlt (by omega) (by omega) HFF.out HFP.out).mono ?_
      rintro e w3 ⟨rfl, hb3⟩
      have hbw3 := hbw.trans (hb3.mono hbw.size)
      cases hne : (feedAt S.F k != 0) with
      | true =>
        have HE := Lib.hid (HSF.out k hlt HZ.out (by simpa using hne))
        go_wp2_with fail
        go_ret
        exact ⟨ret_int (by rw [HE.out]), below_step hb0 hbw3⟩
      | false =>
        have HZ2 := Lib.hid (firstE_go HZ.out (by simpa using hne))
        go_wp2_with fail
        go_roundw
        case measure => simp [intOf]; omega
        case rel => exact ⟨k + 1, by omega, by go_num, hbw3, HZ2.out⟩
    · have hkF : k = S.F.length := by omega
      subst hkF
      have HQ := Lib.hid (HSQ.out HZ.out)
      have HO := Lib.hid (HSO.out HZ.out)
      clear HSF HSQ HSO
      go_wp2_with fail
      clear hc hf
      go_loopw [5] (fun i wr => ∃ q : Nat, q ≤ S.P.length ∧ i = .int .i64 q ∧ Below W0.heap.size W0 wr ∧ Hid (firstE (pntAt S.F S.P) q = 0)) (fun i _ => S.P.length - (intOf i).toNat)
      case atStart => exact ⟨0, by omega, rfl, hbw, rfl⟩
      case round =>
      clear hbw
      obtain ⟨q, hq, rfl, hbw, HY⟩ := hrel
      obtain ⟨hc, hf⟩ := bcell hbw
      by_cases hlt2 : q < S.P.length
      · have hki : (q : Int) < (S.P.length : Int) := by omega
        have hb0w := below_step hb0 hbw
        go_wp2_with fail
        refine (refPoint_any S _ _ q _ (HIF.out.below hb0w) (HIP.out.below hb0w) hlt2 (by omega) (by omega) HFF.out HFP.out).mono ?_
        rintro e w3 ⟨rfl, hb3⟩
        have hbw3 := hbw.trans (hb3.mono hbw.size)
        cases hne : (pntAt S.F S.P q != 0) with
        | true =>
          have HE := Lib.hid (HQ.out q hlt2 HY.out (by simpa using hne))
          go_wp2_with fail
          go_ret
          exact ⟨ret_int (by rw [HE.out]), below_step hb0 hbw3⟩
        | false =>
          have HY2 := Lib.hid (firstE_go HY.out (by simpa using hne))
          go_wp2_with fail
          go_roundw
          case measure => simp [intOf]; omega
          case rel => exact ⟨q + 1, by omega, by go_num, hbw3, HY2.out⟩
      · have hqP : q = S.P.length := by omega
        subst hqP
        have HE := Lib.hid (HO.out HY.out)
        go_wp2_with fail
        go_ret
        exact ⟨ret_int (by rw [HE.out]), below_step hb0 hbw⟩

end Go.Proofs.YtkjggfhbnhpdnaaDoor
