/-
  Walks: Fits, of package site and of its reference.
-/
import Derived.Test.YtkjggfhbnhpdnaaDoorWSite13
namespace Go.Proofs.YtkjggfhbnhpdnaaDoor
open Go.RowKit Go.Lib Go.Maps
set_option linter.unusedVariables false

theorem fits_e {S : SiteR} {C : List CapR} {W : List WantR} {pw : List Int} (h : loadE S W pw ≠ 0) : fitsB S C W pw = false := by unfold fitsB; simp [h]
theorem fits_c {S : SiteR} {C : List CapR} {W : List WantR} {pw : List Int} (h : C.length ≠ S.F.length) : fitsB S C W pw = false := by unfold fitsB; simp [h]
theorem fits_o {S : SiteR} {C : List CapR} {W : List WantR} {pw : List Int} (h : (overL C (loadsOf S W pw)).length ≠ 0) : fitsB S C W pw = false := by
  unfold fitsB
  rw [show decide ((overL C (loadsOf S W pw)).length = 0) = false by simpa using h]
  simp
theorem fits_h {S : SiteR} {C : List CapR} {W : List WantR} {pw : List Int} (h : (W.zip pw).any (highB S.P) = true) : fitsB S C W pw = false := by unfold fitsB; rw [h]; simp
theorem fits_y {S : SiteR} {C : List CapR} {W : List WantR} {pw : List Int} (h1 : loadE S W pw = 0) (h2 : C.length = S.F.length) (h3 : (overL C (loadsOf S W pw)).length = 0) (h : (W.zip pw).any (highB S.P) = false) : fitsB S C W pw = true := by
  unfold fitsB
  rw [h]
  rw [show decide ((overL C (loadsOf S W pw)).length = 0) = true by simpa using h3, show decide (loadE S W pw = 0) = true by simpa using h1, show decide (C.length = S.F.length) = true by simpa using h2]
  rfl
theorem any_take {α : Type} (l : List α) (p : α → Bool) {k : Nat} (h : k < l.length) : (l.take (k + 1)).any p = ((l.take k).any p || p l[k]) := by
  rw [List.take_succ_eq_append_getElem h, List.any_append]; simp
theorem any_true {α : Type} (l : List α) (p : α → Bool) {k : Nat} (h : k < l.length) (hp : p l[k] = true) : l.any p = true := by
  rw [List.any_eq_true]; exact ⟨l[k], List.getElem_mem h, hp⟩
theorem high_at {P : List Pnt} {x : WantR × Int} {j : Nat} (hj : j < P.length) (e : x.1.point = j) : highB P x = (decide (x.1.top < x.2) || decide (P[j].rated < x.2)) := by
  unfold highB
  rw [e, Int.toNat_natCast, List.getElem?_eq_getElem hj]

/-- the facts of a round -/
structure FitsRound (S : SiteR) (C : List CapR) (W : List WantR) (pw : List Int) (x : WantR) (q : Int) (k : Nat) : Prop where
  right : Right S.P (x, q)
  high : highB S.P (x, q) = true → fitsB S C W pw = false
  low : highB S.P (x, q) = false → ((W.zip pw).take k).any (highB S.P) = false → ((W.zip pw).take (k + 1)).any (highB S.P) = false
theorem FitsRound.mk' {S : SiteR} {C : List CapR} {W : List WantR} {pw : List Int} {k : Nat} (h1 : k < W.length) (h2 : k < pw.length) (hall : (W.zip pw).all (wantB S.P) = true) : FitsRound S C W pw W[k] pw[k] k := by
  have hk : k < (W.zip pw).length := by simp; omega
  have hg : (W.zip pw)[k] = (W[k], pw[k]) := by simp
  refine ⟨wantB_iff.1 (List.all_eq_true.1 hall _ (hg ▸ List.getElem_mem hk)), fun h => fits_h (any_true _ _ hk (by rw [hg]; exact h)), fun h h3 => ?_⟩
  rw [any_take _ _ hk, h3, hg, h]; rfl

set_option maxRecDepth 100000 in
set_option maxHeartbeats 12800000 in
theorem fits_any (S : SiteR) (C : List CapR) (W : List WantR) (pw : List Int) (fv pv cv wv zv : Value) (w : World) (hF : IsSl w 5 fv (S.F.map Feed.cells)) (hP : IsSl w 5 pv (S.P.map Pnt.cells)) (hC : IsSl w 4 cv (C.map CapR.cells)) (hW : IsSl w 3 wv (W.map WantR.cells)) (hZ : IsSl w 1 zv (pw.map encZ))
    (hn : S.name.size ≤ maxLen) (hfF : ∀ f ∈ S.F, f.fits) (hfP : ∀ p ∈ S.P, p.fits) (hfW : ∀ x ∈ W, I64 x.phases) (hlC : C.length ≤ 1000) (hlW : W.length ≤ 1000) (hlZ : pw.length ≤ 1000) :
    Calls Tryd.prog 19 #[.agg #[.string S.name, fv, pv], cv, wv, zv] w fun e w' => e = .returned (.bool (fitsB S C W pw)) ∧ Below w.heap.size w w' := by
  have HIF := Lib.hid hF
  have HIP := Lib.hid hP
  have HIC := Lib.hid hC
  have HIW := Lib.hid hW
  have HIZ := Lib.hid hZ
  have HNM := Lib.hid hn
  have HFF := Lib.hid hfF
  have HFP := Lib.hid hfP
  have HFW := Lib.hid hfW
  obtain ⟨A, c, rfl, hlc, hcm, hsl⟩ := islen' hF
  obtain ⟨B, d, rfl, hld, hdm, hsp⟩ := islen' hP
  obtain ⟨C', c', rfl, hlc', hcm', hsc⟩ := islen' hC
  obtain ⟨D, d', rfl, hld', hdm', hsw⟩ := islen' hW
  obtain ⟨E, e', rfl, hle', hem', hsz⟩ := islen' hZ
  obtain ⟨W0, hW0, hb0, hg0, hx0⟩ := box1 w #[.string S.name, .slice A S.F.length c, .slice B S.P.length d] 25
  have HSP := Lib.hid (hsp.below hb0)
  have HSW := Lib.hid (hsw.below hb0)
  have HSZ := Lib.hid (hsz.below hb0)
  have HV := Lib.hid (load_any S W pw _ _ _ _ W0 (hF.below hb0) (hP.below hb0) (hW.below hb0) (hZ.below hb0) hn hfF hfP hfW hlW hlZ)
  clear hF hP hC hW hZ hsl hsp hsc hsw hsz hfF hfP hfW hlc hld hlc' hld' hcm hdm hcm' hdm' hn hle' hem'
  cases hv : (loadE S W pw != 0) with
  | true =>
    have HE := Lib.hid (fits_e (C := C) (by simpa using hv : loadE S W pw ≠ 0))
    go_enter Tryd.func19, Tryd.ntmps19
    go_wp2_with fail
    rw [← hW0]
    clear hW0
    refine HV.out.mono ?_
    rintro e w1 ⟨v1, rfl, hv1, hb1⟩
    go_wp2_with fail
    go_ret
    exact ⟨ret_bool (by rw [HE.out]), below_step hb0 hb1⟩
  | false =>
  have h0 : loadE S W pw = 0 := by simpa using hv
  obtain ⟨hs0, hl, hall⟩ := loadE_zero h0
  have hlF := (siteE_ok hs0).lF
  have hlP := (siteE_ok hs0).lP
  by_cases hcl : C.length = S.F.length
  rotate_left 1
  · have hne : ((C.length : Int) != (S.F.length : Int)) = true := by simp; omega
    have HE := Lib.hid (fits_c (W := W) (pw := pw) hcl)
    clear h0 hcl hs0 hl hall
    go_enter Tryd.func19, Tryd.ntmps19
    go_wp2_with fail
    rw [← hW0]
    clear hW0
    refine HV.out.mono ?_
    rintro e w1 ⟨v1, rfl, hv1, hb1⟩
    obtain ⟨hc, hf⟩ := bcell hb1
    go_wp2_with fail
    go_ret
    exact ⟨ret_bool (by rw [HE.out]), below_step hb0 hb1⟩
  have hne : ((C.length : Int) != (S.F.length : Int)) = false := by simp; omega
  have hLL : (loadsOf S W pw).length ≤ 1000 := by rw [loadsOf_ok h0, loadL_len]; omega
  have HR := Lib.hid (fun (k : Nat) (h1 : k < W.length) (h2 : k < pw.length) => FitsRound.mk' (C := C) h1 h2 hall)
  have HY := Lib.hid (fits_y (C := C) h0 hcl)
  have HL := Lib.hid hl
  have HZL : Hid ((W.zip pw).length = W.length) := by unfold Hid; simp; omega
  clear hcl h0 hs0 hl hall
  by_cases ho : (overL C (loadsOf S W pw)).length = 0
  rotate_left 1
  · have HE := Lib.hid (fits_o ho)
    have ho2 : 0 < (overL C (loadsOf S W pw)).length := by omega
    clear ho
    go_enter Tryd.func19, Tryd.ntmps19
    go_wp2_with fail
    rw [← hW0]
    clear hW0
    refine HV.out.mono ?_
    rintro e w1 ⟨v1, rfl, hv1, hb1⟩
    obtain ⟨hc, hf⟩ := bcell hb1
    go_wp2_with fail
    refine (over_any C _ _ v1 _ ((HIC.out.below hb0).below hb1) hv1 (by omega) (by omega)).mono ?_
    rintro e w2 ⟨v2, rfl, hv2, hb2⟩
    obtain ⟨A2, c2, rfl, _, _, _⟩ := islen' hv2
    generalize (overL C (loadsOf S W pw)).length = n at *
    go_wp2_with fail
    go_ret
    exact ⟨ret_bool (by rw [HE.out]), below_step hb0 (below_step hb1 hb2)⟩
  have HO := Lib.hid ho
  clear ho
  go_enter Tryd.func19, Tryd.ntmps19
  go_wp2_with fail
  rw [← hW0]
  clear hW0
  refine HV.out.mono ?_
  rintro e w1 ⟨v1, rfl, hv1, hb1⟩
  obtain ⟨hc, hf⟩ := bcell hb1
  go_wp2_with fail
  refine (over_any C _ _ v1 _ ((HIC.out.below hb0).below hb1) hv1 (by omega) (by omega)).mono ?_
  rintro e w2 ⟨v2, rfl, hv2, hb2⟩
  obtain ⟨A2, c2, rfl, _, _, _⟩ := islen' hv2
  rw [HO.out]
  have hb12 := below_step hb1 hb2
  have hgx : w.heap.size < w2.heap.size := Nat.lt_of_lt_of_le hg0 hb12.size
  have hx2 : ∀ j, w2.cell? ⟨w.heap.size, j, none⟩ = (#[.string S.name, .slice A S.F.length c, .slice B S.P.length d] : Array Value)[j]? := fun j => (hb12.cell (p := ⟨w.heap.size, j, none⟩) hg0).trans (hx0 j)
  have HSP2 := Lib.hid (HSP.out.below hb12)
  have HSW2 := Lib.hid (HSW.out.below hb12)
  have HSZ2 := Lib.hid (HSZ.out.below hb12)
  have hb02 := below_step hb0 hb12
  clear hc hf hx0 hv1 hv2 HV HSP HSW HSZ hb12 hb1 hb2 hb0 hg0
  go_wp2_with fail
  go_loopw [39] (fun i wr => ∃ k : Nat, k ≤ W.length ∧ i = .int .i64 k ∧ Below w2.heap.size w2 wr ∧ Hid (((W.zip pw).take k).any (highB S.P) = false)) (fun i _ => W.length - (intOf i).toNat)
  case atStart => exact ⟨0, by omega, rfl, Below.refl _ _, by simp [Hid]⟩
  case round =>
    obtain ⟨k, hk, rfl, hbw, HG⟩ := hrel
    obtain ⟨hc, hf⟩ := bcell hbw
    by_cases hlt : k < W.length
    · have hki : (k : Int) < (W.length : Int) := by omega
      have hlt2 : k < pw.length := by have := HL.out; omega
      have hki2 : (k : Int) < (pw.length : Int) := by omega
      have HFR := Lib.hid (HR.out k hlt hlt2)
      obtain ⟨bw, offw, rfl, hbb, c0, c1, c2⟩ := want_at HSW2.out hlt
      obtain ⟨bz, offz, rfl, hbz, d0⟩ := int_at HSZ2.out hlt2
      generalize W[k] = x at *
      generalize pw[k] = q at *
      obtain ⟨j, hj⟩ : ∃ j : Nat, x.point = j := ⟨x.point.toNat, by have := HFR.out.right.p0; simp at this; omega⟩
      have hjl : j < S.P.length := by have := HFR.out.right.p1; simp at this; omega
      have hjli : (j : Int) < (S.P.length : Int) := by omega
      have HH := Lib.hid (high_at (x := (x, q)) hjl hj)
      obtain ⟨bp, offp, rfl, hbp, y0, y1, y2, y3, y4⟩ := pnt_at HSP2.out hjl
      clear y0 y1 y2 y4
      generalize S.P[j].rated = yr at *
      rw [hj] at c0
      clear hj
      have hzw := hbw.size
      have g1 : w.heap.size < wr.heap.size := by omega
      have g2 : bw < wr.heap.size := by omega
      have g3 : bz < wr.heap.size := by omega
      have g4 : bp < wr.heap.size := by omega
      obtain ⟨W2, hW2, hb2, hg2, hxx⟩ := box1 wr #[.int .i64 j, .int .i64 x.phases, .int .i64 x.top] 61
      have hbw2 := hbw.trans (hb2.mono hbw.size)
      by_cases h1 : x.top < q
      · have e0 : decide (x.top < q) = true := by simpa using h1
        have HE := Lib.hid (HFR.out.high (by rw [HH.out]; simp only [e0, Bool.true_or]))
        clear h1
        go_wp2_with fail
        rw [← hW2]
        clear hW2 hc hf
        obtain ⟨hc, hf⟩ := bcell hbw2
        go_quiet (fail)
        go_wp2_with fail
        go_ret
        exact ⟨ret_bool (by rw [HE.out]), below_step hb02 (below_drewN hbw2 _)⟩
      · have e0 : decide (x.top < q) = false := by simpa using h1
        by_cases h2 : yr < q
        · have e1 : decide (yr < q) = true := by simpa using h2
          have HE := Lib.hid (HFR.out.high (by rw [HH.out]; simp only [e0, e1, Bool.false_or]))
          clear h1 h2
          go_wp2_with fail
          rw [← hW2]
          clear hW2 hc hf
          obtain ⟨hc, hf⟩ := bcell hbw2
          go_quiet (fail)
          go_wp2_with fail
          go_ret
          exact ⟨ret_bool (by rw [HE.out]), below_step hb02 (below_drewN hbw2 _)⟩
        · have e1 : decide (yr < q) = false := by simpa using h2
          have HE := Lib.hid (HFR.out.low (by rw [HH.out]; simp only [e0, e1, Bool.false_or]) HG.out)
          clear h1 h2
          go_wp2_with fail
          rw [← hW2]
          clear hW2 hc hf
          obtain ⟨hc, hf⟩ := bcell hbw2
          go_quiet (fail)
          go_wp2_with fail
          go_roundw
          case measure => simp [intOf]; omega
          case rel => exact ⟨k + 1, by omega, by go_num, below_drewN hbw2 _, HE.out⟩
    · have HG' := HG.out
      rw [List.take_of_length_le (by have := HZL.out; omega)] at HG'
      have HE := Lib.hid (HY.out HO.out HG')
      clear HG' HG
      go_wp2_with fail
      go_ret
      exact ⟨ret_bool (by rw [HE.out]), below_step hb02 hbw⟩

end Go.Proofs.YtkjggfhbnhpdnaaDoor
