/-
  Walks: Load of the reference.
-/
import Derived.Test.YtkjggfhbnhpdnaaDoorWSite12
namespace Go.Proofs.YtkjggfhbnhpdnaaDoor
open Go.RowKit Go.Lib Go.Maps
attribute [local go_sem] after_cell
set_option linter.unusedVariables false

theorem want_bad1 {P : List Pnt} {x : WantR × Int} (h : x.1.phases < 1 ∨ 7 < x.1.phases) : wantB P x = false := by
  cases hb : wantB P x with
  | false => rfl
  | true => have := wantB_iff.1 hb; have h1 := this.h1; have h7 := this.h7; omega
theorem want_bad2 {P : List Pnt} {x : WantR × Int} {k : Nat} (hk : k < P.length) (e : x.1.point = k) (h : maskB x.1.phases P[k].phases = false) : wantB P x = false := by
  unfold wantB
  rw [e, Int.toNat_natCast, List.getElem?_eq_getElem hk]
  simp [h]
theorem want_bad3 {P : List Pnt} {x : WantR × Int} (h : powB x.2 = false) : wantB P x = false := by
  unfold wantB
  split
  · simp [h]
  · rfl
theorem want_good {P : List Pnt} {x : WantR × Int} {k : Nat} (hk : k < P.length) (e : x.1.point = k) (h1 : ¬ x.1.phases < 1) (h7 : ¬ 7 < x.1.phases) (hm : maskB x.1.phases P[k].phases = true) (hp : powB x.2 = true) : wantB P x = true := by
  unfold wantB
  rw [e, Int.toNat_natCast, List.getElem?_eq_getElem hk]
  simp [hm, hp]
  omega

theorem in_pow {b : Bool} (q : Int) (w : World) (h : powB q = b) : Calls Tryd.prog 37 #[.int .i64 q, .int .i64 1048576] w fun e w' => e = .returned (.bool b) ∧ w = w' := by
  have := in_any q 1048576 w
  rw [show (decide (0 ≤ q) && decide (q ≤ 1048576)) = b from h] at this
  exact this

set_option maxRecDepth 100000 in
set_option maxHeartbeats 12800000 in
theorem refLoad_any (S : SiteR) (W : List WantR) (pw : List Int) (fv pv wv zv : Value) (w : World) (hF : IsSl w 5 fv (S.F.map Feed.cells)) (hP : IsSl w 5 pv (S.P.map Pnt.cells)) (hW : IsSl w 3 wv (W.map WantR.cells)) (hZ : IsSl w 1 zv (pw.map encZ))
    (hn : S.name.size ≤ maxLen) (hfF : ∀ f ∈ S.F, f.fits) (hfP : ∀ p ∈ S.P, p.fits) (hlW : W.length ≤ 1000) (hlZ : pw.length ≤ 1000) :
    Calls Tryd.prog 31 #[.agg #[.string S.name, fv, pv], wv, zv] w
      fun e w' => ∃ v, e = .returned (.tuple #[v, .int .i64 (loadE S W pw)]) ∧ IsSl w' 4 v ((loadsOf S W pw).map CapR.cells) ∧ Below w.heap.size w w' := by
  have HIF := Lib.hid hF
  have HIP := Lib.hid hP
  have HIW := Lib.hid hW
  have HIZ := Lib.hid hZ
  obtain ⟨A, c, rfl, hlc, hcm, hsl⟩ := islen' hF
  obtain ⟨B, d, rfl, hld, hdm, hsp⟩ := islen' hP
  obtain ⟨C, c', rfl, hlc', hcm', hsw⟩ := islen' hW
  obtain ⟨D, d', rfl, hld', hdm', hsz⟩ := islen' hZ
  obtain ⟨W0, hW0, hb0, hg0, hx0⟩ := box1 w #[.string S.name, .slice A S.F.length c, .slice B S.P.length d] 25
  have HV := Lib.hid (refSiteValid_any S _ _ W0 (HIF.out.below hb0) (HIP.out.below hb0) hn hfF hfP)
  have HSP := Lib.hid (hsp.below hb0)
  have HSW := Lib.hid (hsw.below hb0)
  have HSZ := Lib.hid (hsz.below hb0)
  clear hF hP hW hZ hsl hsp hsw hsz hfF hfP hlc hld hlc' hld' hcm hdm hcm' hdm' hn
  cases hv : (siteE S != 0) with
  | true =>
    have h0 : siteE S ≠ 0 := by simpa using hv
    have HE := Lib.hid (loadE_site (W := W) (pw := pw) h0)
    have HN := Lib.hid (loadsOf_no (S := S) (W := W) (pw := pw) (by rw [HE.out]; exact h0))
    clear h0
    go_enter Tryd.func31, Tryd.ntmps31
    go_wp2_with fail
    rw [← hW0]
    clear hW0
    refine HV.out.mono ?_
    rintro e w1 ⟨rfl, hb1⟩
    go_wp2_with fail
    go_ret2
    exact ⟨.slice none 0 0, ret_vint rfl (by rw [HE.out]), by rw [HN.out]; exact IsSl.nil _ _, below_step hb0 hb1⟩
  | false =>
  have h0 : siteE S = 0 := by simpa using hv
  by_cases hl : W.length = pw.length
  rotate_left 1
  · have hne : ((W.length : Int) != (pw.length : Int)) = true := by simp; omega
    have HE := Lib.hid (loadE_len (W := W) (pw := pw) h0 hl)
    have HN := Lib.hid (loadsOf_no (S := S) (W := W) (pw := pw) (by rw [HE.out]; simp))
    clear h0 hl
    go_enter Tryd.func31, Tryd.ntmps31
    go_wp2_with fail
    rw [← hW0]
    clear hW0
    refine HV.out.mono ?_
    rintro e w1 ⟨rfl, hb1⟩
    go_wp2_with fail
    go_ret2
    exact ⟨.slice none 0 0, ret_vint rfl (by rw [HE.out]), by rw [HN.out]; exact IsSl.nil _ _, below_step hb0 hb1⟩
  have hne : ((W.length : Int) != (pw.length : Int)) = false := by simp; omega
  have HOK := Lib.hid (siteE_ok h0)
  have HBAD : Hid ((W.zip pw).all (wantB S.P) = false → loadE S W pw = 1 ∧ loadsOf S W pw = []) := fun h => ⟨loadE_bad h0 hl h, loadsOf_no (by rw [loadE_bad h0 hl h]; simp)⟩
  have HGOOD : Hid ((W.zip pw).all (wantB S.P) = true → loadE S W pw = 0 ∧ loadsOf S W pw = loadL S.F S.P (W.zip pw)) := fun h => ⟨loadE_ok h0 hl h, loadsOf_ok (loadE_ok h0 hl h)⟩
  have HZL : Hid ((W.zip pw).length = W.length) := by unfold Hid; simp; omega
  have HL := Lib.hid hl
  have HR := Lib.hid (fun (k : Nat) (h1 : k < W.length) (h2 : k < pw.length) => LoadRound.mk' (S := S) h1 h2)
  have HSUM := Lib.hid (fun (w : World) hF hP hW hZ hall => sums_any S W pw (.slice A S.F.length c) (.slice B S.P.length d) (.slice C W.length c') (.slice D pw.length d') w hF hP hW hZ HOK.out hl hall hlW)
  generalize W.zip pw = Z at *
  have hlF := HOK.out.lF
  have hlP := HOK.out.lP
  clear h0 hl
  go_enter Tryd.func31, Tryd.ntmps31
  go_wp2_with fail
  rw [← hW0]
  clear hW0
  refine HV.out.mono ?_
  rintro e w1 ⟨rfl, hb1⟩
  obtain ⟨hc, hf⟩ := bcell hb1
  have hb01 := below_step hb0 hb1
  have hgx : w.heap.size < w1.heap.size := Nat.lt_of_lt_of_le hg0 hb1.size
  have hx1 : ∀ j, w1.cell? ⟨w.heap.size, j, none⟩ = (#[.string S.name, .slice A S.F.length c, .slice B S.P.length d] : Array Value)[j]? := fun j => (hc _ _ hg0).trans (hx0 j)
  clear hc hf hx0
  go_wp2_with fail
  have HSP1 := Lib.hid (HSP.out.below hb1)
  have HSW1 := Lib.hid (HSW.out.below hb1)
  have HSZ1 := Lib.hid (HSZ.out.below hb1)
  clear HSP HSW HSZ HV hb0 hb1 hg0
  go_loopw [9] (fun i wr => ∃ k : Nat, k ≤ W.length ∧ i = .int .i64 k ∧ Below w1.heap.size w1 wr ∧ Hid ((Z.take k).all (wantB S.P) = true)) (fun i _ => W.length - (intOf i).toNat)
  case atStart => exact ⟨0, by omega, rfl, Below.refl _ _, by simp [Hid]⟩
  case round =>
    obtain ⟨k, hk, rfl, hbw, HG⟩ := hrel
    obtain ⟨hc, hf⟩ := bcell hbw
    by_cases hlt : k < W.length
    · have hki : (k : Int) < (W.length : Int) := by omega
      have hlt2 : k < pw.length := by have := HL.out; omega
      have hki2 : (k : Int) < (pw.length : Int) := by omega
      have HLR := Lib.hid (HR.out k hlt hlt2)
      obtain ⟨bw, offw, rfl, hbb, c0, c1, c2⟩ := want_at HSW1.out hlt
      obtain ⟨bz, offz, rfl, hbz, d0⟩ := int_at HSZ1.out hlt2
      generalize W[k] = x at *
      generalize pw[k] = q at *
      have hzw := hbw.size
      have g1 : w.heap.size < wr.heap.size := by omega
      have g2 : bw < wr.heap.size := by omega
      have g3 : bz < wr.heap.size := by omega
      by_cases hp : x.point < 0 ∨ (S.P.length : Int) ≤ x.point
      · obtain ⟨HE, HN⟩ := HBAD.out (HLR.out.bad (want_out hp))
        replace HE := Lib.hid HE
        replace HN := Lib.hid HN
        by_cases hp0 : x.point < 0
        · have e0 : decide (x.point < 0) = true := by simpa using hp0
          clear hp hp0
          obtain ⟨W2, hW2, hb2, hg2, hx2⟩ := box1 wr #[.int .i64 x.point, .int .i64 x.phases, .int .i64 x.top] 61
          go_wp2_with fail
          rw [← hW2]
          clear hW2 hc hf
          obtain ⟨hc, hf⟩ := bcell (hbw.trans (hb2.mono hbw.size))
          go_quiet (fail)
          go_wp2_with fail
          go_ret2
          exact ⟨.slice none 0 0, ret_vint rfl (by rw [HE.out]), by rw [HN.out]; exact IsSl.nil _ _, below_step hb01 (below_drewN (below_step hbw hb2) _)⟩
        · have e1 : decide ((S.P.length : Int) ≤ x.point) = true := by simp; omega
          have e0 : decide (x.point < 0) = false := by simpa using hp0
          clear hp hp0
          obtain ⟨W2, hW2, hb2, hg2, hx2⟩ := box1 wr #[.int .i64 x.point, .int .i64 x.phases, .int .i64 x.top] 61
          go_wp2_with fail
          rw [← hW2]
          clear hW2 hc hf
          obtain ⟨hc, hf⟩ := bcell (hbw.trans (hb2.mono hbw.size))
          go_quiet (fail)
          go_wp2_with fail
          go_ret2
          exact ⟨.slice none 0 0, ret_vint rfl (by rw [HE.out]), by rw [HN.out]; exact IsSl.nil _ _, below_step hb01 (below_drewN (below_step hbw hb2) _)⟩
      · obtain ⟨j, hj⟩ : ∃ j : Nat, x.point = j := ⟨x.point.toNat, by omega⟩
        have hjl : j < S.P.length := by omega
        have hjli : (j : Int) < (S.P.length : Int) := by omega
        have HB1 := Lib.hid (want_bad1 (P := S.P) (x := (x, q)))
        have HB2 := Lib.hid (want_bad2 (x := (x, q)) hjl hj)
        have HB3 := Lib.hid (want_bad3 (P := S.P) (x := (x, q)))
        have HGD := Lib.hid (want_good (x := (x, q)) hjl hj)
        obtain ⟨bp, offp, rfl, hbp, y0, y1, y2, y3, y4⟩ := pnt_at HSP1.out hjl
        have g4 : bp < wr.heap.size := by omega
        clear y0 y1 y3 y4
        generalize S.P[j].phases = yp at *
        rw [hj] at c0
        have HJ := Lib.hid hj
        clear hj hp
        have e0 : decide ((j : Int) < 0) = false := by simp
        have e1 : decide (S.P.length ≤ j) = false := by simp; omega
        by_cases h1 : x.phases < 1
        · have e2 : decide (x.phases < 1) = true := by simpa using h1
          obtain ⟨HE, HN⟩ := HBAD.out (HLR.out.bad (HB1.out (.inl h1)))
          replace HE := Lib.hid HE
          replace HN := Lib.hid HN
          clear h1
          obtain ⟨W2, hW2, hb2, hg2, hx2⟩ := box1 wr #[.int .i64 j, .int .i64 x.phases, .int .i64 x.top] 61
          go_wp2_with fail
          rw [← hW2]
          clear hW2 hc hf
          obtain ⟨hc, hf⟩ := bcell (hbw.trans (hb2.mono hbw.size))
          go_quiet (fail)
          go_wp2_with fail
          go_ret2
          exact ⟨.slice none 0 0, ret_vint rfl (by rw [HE.out]), by rw [HN.out]; exact IsSl.nil _ _, below_step hb01 (below_drewN (below_step hbw hb2) _)⟩
        have e2 : decide (x.phases < 1) = false := by simpa using h1
        by_cases h7 : 7 < x.phases
        · have e3 : decide (7 < x.phases) = true := by simpa using h7
          obtain ⟨HE, HN⟩ := HBAD.out (HLR.out.bad (HB1.out (.inr h7)))
          replace HE := Lib.hid HE
          replace HN := Lib.hid HN
          clear h1 h7
          obtain ⟨W2, hW2, hb2, hg2, hx2⟩ := box1 wr #[.int .i64 j, .int .i64 x.phases, .int .i64 x.top] 61
          go_wp2_with fail
          rw [← hW2]
          clear hW2 hc hf
          obtain ⟨hc, hf⟩ := bcell (hbw.trans (hb2.mono hbw.size))
          go_quiet (fail)
          go_wp2_with fail
          go_ret2
          exact ⟨.slice none 0 0, ret_vint rfl (by rw [HE.out]), by rw [HN.out]; exact IsSl.nil _ _, below_step hb01 (below_drewN (below_step hbw hb2) _)⟩
        have e3 : decide (7 < x.phases) = false := by simpa using h7
        cases hm : maskB x.phases yp with
        | false =>
          have e4 : (bits .andNot .i64 x.phases yp != 0) = true := by unfold maskB at hm; simpa using hm
          obtain ⟨HE, HN⟩ := HBAD.out (HLR.out.bad (HB2.out hm))
          replace HE := Lib.hid HE
          replace HN := Lib.hid HN
          clear h1 h7 hm
          obtain ⟨W2, hW2, hb2, hg2, hx2⟩ := box1 wr #[.int .i64 j, .int .i64 x.phases, .int .i64 x.top] 61
          go_wp2_with fail
          rw [← hW2]
          clear hW2 hc hf
          obtain ⟨hc, hf⟩ := bcell (hbw.trans (hb2.mono hbw.size))
          go_quiet (fail)
          go_wp2_with fail
          go_ret2
          exact ⟨.slice none 0 0, ret_vint rfl (by rw [HE.out]), by rw [HN.out]; exact IsSl.nil _ _, below_step hb01 (below_drewN (below_step hbw hb2) _)⟩
        | true =>
          have e4 : (bits .andNot .i64 x.phases yp != 0) = false := by unfold maskB at hm; simpa using hm
          cases hpw : powB q with
          | false =>
            have hin := fun w => in_pow (b := false) q w hpw
            obtain ⟨HE, HN⟩ := HBAD.out (HLR.out.bad (HB3.out hpw))
            replace HE := Lib.hid HE
            replace HN := Lib.hid HN
            clear h1 h7 hm hpw
            obtain ⟨W2, hW2, hb2, hg2, hx2⟩ := box1 wr #[.int .i64 j, .int .i64 x.phases, .int .i64 x.top] 61
            go_wp2_with fail
            rw [← hW2]
            clear hW2 hc hf
            obtain ⟨hc, hf⟩ := bcell (hbw.trans (hb2.mono hbw.size))
            go_quiet (((go_at_call 37; exact quiet_left (hin _))))
            go_wp2_with fail
            go_ret2
            exact ⟨.slice none 0 0, ret_vint rfl (by rw [HE.out]), by rw [HN.out]; exact IsSl.nil _ _, below_step hb01 (below_drewN (below_step hbw hb2) _)⟩
          | true =>
            have hin := fun w => in_pow (b := true) q w hpw
            have HG2 := Lib.hid (HLR.out.good (HGD.out h1 h7 hm hpw) HG.out)
            clear h1 h7 hm hpw
            obtain ⟨W2, hW2, hb2, hg2, hx2⟩ := box1 wr #[.int .i64 j, .int .i64 x.phases, .int .i64 x.top] 61
            go_wp2_with fail
            rw [← hW2]
            clear hW2 hc hf
            obtain ⟨hc, hf⟩ := bcell (hbw.trans (hb2.mono hbw.size))
            go_quiet (((go_at_call 37; exact quiet_left (hin _))))
            go_wp2_with fail
            go_roundw
            case measure => simp [intOf]; omega
            case rel => exact ⟨k + 1, by omega, by go_num, below_drewN (below_step hbw hb2) _, HG2.out⟩
    · have hall : Z.take k = Z := List.take_of_length_le (by have := HZL.out; omega)
      have HG' := HG.out
      rw [hall] at HG'
      obtain ⟨HE, HN⟩ := HGOOD.out HG'
      replace HE := Lib.hid HE
      replace HN := Lib.hid HN
      have HG2 := Lib.hid HG'
      clear hall HG' HG
      have hb0w := below_step hb01 hbw
      go_wp2_with fail
      refine (HSUM.out _ (HIF.out.below hb0w) (HIP.out.below hb0w) (HIW.out.below hb0w) (HIZ.out.below hb0w) HG2.out).mono ?_
      rintro e w9 ⟨v9, rfl, hv9, hb9⟩
      go_wp2_with fail
      go_ret2
      exact ⟨v9, ret_vint rfl (by rw [HE.out]), by rw [HN.out]; exact hv9, below_step hb0w hb9⟩

end Go.Proofs.YtkjggfhbnhpdnaaDoor
