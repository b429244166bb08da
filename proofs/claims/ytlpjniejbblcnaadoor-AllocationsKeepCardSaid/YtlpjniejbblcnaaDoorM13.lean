/-
  Walks: Fits, of package site and of its reference.
  Walks: Raise of package allocate.
  Plain functions: fair filling under a total: what a division of the total gives.
  Plain facts: points on one phase of one feeder share its power fairly.
  The examples of the chapter on the allocation of power, reckoned. No program is named here.
-/
import Derived.Test.YtlpjniejbblcnaaDoorM9
import Derived.Test.YtlpjniejbblcnaaDoorM6
import Derived.Test.YtlpjniejbblcnaaDoorM3
import Derived.Test.YtlpjniejbblcnaaDoorShelf
import Derived.Test.YtlpjniejbblcnaaDoorM11

namespace Go.Proofs.YtlpjniejbblcnaaDoor
open Go.RowKit Go.Lib Go.Maps
set_option linter.unusedVariables false

theorem fits_e {S : SiteR} {C : List CapR} {W : List WantR} {pw : List Int} (h : loadE S W pw ≠ 0) : fitsB S C W pw = false := by unfold fitsB; simp [h]
theorem fits_c {S : SiteR} {C : List CapR} {W : List WantR} {pw : List Int} (h : C.length ≠ S.F.length) : fitsB S C W pw = false := by unfold fitsB; simp [h]
theorem fits_o {S : SiteR} {C : List CapR} {W : List WantR} {pw : List Int} (h : (overL C (loadsOf S W pw)).length ≠ 0) : fitsB S C W pw = false := by
  unfold fitsB
  rw [show decide ((overL C (loadsOf S W pw)).length = 0) = false by simpa using h]
  simp
theorem fits_h {S : SiteR} {C : List CapR} {W : List WantR} {pw : List Int} (h : (W.zip pw).any (highB S.P) = true) : fitsB S C W pw = false := by unfold fitsB; rw [h]; simp
theorem fits_y {S : SiteR} {C : List CapR} {W : List WantR} {pw : List Int} (h1 : loadE S W pw = 0) (h2 : C.length = S.F.length) (h3 : (overL C (loadsOf S W pw)).length = 0) (h : (W.zip pw).any (highB S.P) = false) : fitsB S C W pw = true := by
  unfold fitsB
  rw [h]
  rw [show decide ((overL C (loadsOf S W pw)).length = 0) = true by simpa using h3, show decide (loadE S W pw = 0) = true by simpa using h1, show decide (C.length = S.F.length) = true by simpa using h2]
  rfl
theorem any_take {α : Type} (l : List α) (p : α → Bool) {k : Nat} (h : k < l.length) : (l.take (k + 1)).any p = ((l.take k).any p || p l[k]) := by
  rw [List.take_succ_eq_append_getElem h, List.any_append]; simp
theorem any_true {α : Type} (l : List α) (p : α → Bool) {k : Nat} (h : k < l.length) (hp : p l[k] = true) : l.any p = true := by
  rw [List.any_eq_true]; exact ⟨l[k], List.getElem_mem h, hp⟩
theorem high_at {P : List Pnt} {x : WantR × Int} {j : Nat} (hj : j < P.length) (e : x.1.point = j) : highB P x = (decide (x.1.top < x.2) || decide (P[j].rated < x.2)) := by
  unfold highB
  rw [e, Int.toNat_natCast, List.getElem?_eq_getElem hj]

/-- the facts of a round -/
structure FitsRound (S : SiteR) (C : List CapR) (W : List WantR) (pw : List Int) (x : WantR) (q : Int) (k : Nat) : Prop where
  right : Right S.P (x, q)
  high : highB S.P (x, q) = true → fitsB S C W pw = false
  low : highB S.P (x, q) = false → ((W.zip pw).take k).any (highB S.P) = false → ((W.zip pw).take (k + 1)).any (highB S.P) = false
theorem FitsRound.mk' {S : SiteR} {C : List CapR} {W : List WantR} {pw : List Int} {k : Nat} (h1 : k < W.length) (h2 : k < pw.length) (hall : (W.zip pw).all (wantB S.P) = true) : FitsRound S C W pw W[k] pw[k] k := by
  have hk : k < (W.zip pw).length := by simp; omega
  have hg : (W.zip pw)[k] = (W[k], pw[k]) := by simp
  refine ⟨wantB_iff.1 (List.all_eq_true.1 hall _ (hg ▸ List.getElem_mem hk)), fun h => fits_h (any_true _ _ hk (by rw [hg]; exact h)), fun h h3 => ?_⟩
  rw [any_take _ _ hk, h3, hg, h]; rfl

set_option maxRecDepth 100000 in
set_option maxHeartbeats 12800000 in
theorem fits_any (S : SiteR) (C : List CapR) (W : List WantR) (pw : List Int) (fv pv cv wv zv : Value) (w : World) (hF : IsSl w 5 fv (S.F.map Feed.cells)) (hP : IsSl w 5 pv (S.P.map Pnt.cells)) (hC : IsSl w 4 cv (C.map CapR.cells)) (hW : IsSl w 3 wv (W.map WantR.cells)) (hZ : IsSl w 1 zv (pw.map encZ))
    (hn : S.name.size ≤ maxLen) (hfF : ∀ f ∈ S.F, f.fits) (hfP : ∀ p ∈ S.P, p.fits) (hfW : ∀ x ∈ W, I64 x.phases) (hlC : C.length ≤ 1000) (hlW : W.length ≤ 1000) (hlZ : pw.length ≤ 1000) :
    Calls Tryd.prog 15 #[.agg #[.string S.name, fv, pv], cv, wv, zv] w fun e w' => e = .returned (.bool (fitsB S C W pw)) ∧ Below w.heap.size w w' := by
  have HIF := Lib.hid hF
  have HIP := Lib.hid hP
  have HIC := Lib.hid hC
  have HIW := Lib.hid hW
  have HIZ := Lib.hid hZ
  have HNM := Lib.hid hn
  have HFF := Lib.hid hfF
  have HFP := Lib.hid hfP
  have HFW := Lib.hid hfW
  obtain ⟨A, c, rfl, hlc, hcm, hsl⟩ := islen' hF
  obtain ⟨B, d, rfl, hld, hdm, hsp⟩ := islen' hP
  obtain ⟨C', c', rfl, hlc', hcm', hsc⟩ := islen' hC
  obtain ⟨D, d', rfl, hld', hdm', hsw⟩ := islen' hW
  obtain ⟨E, e', rfl, hle', hem', hsz⟩ := islen' hZ
  obtain ⟨W0, hW0, hb0, hg0, hx0⟩ := box1 w #[.string S.name, .slice A S.F.length c, .slice B S.P.length d] 30
  have HSP := Lib.hid (hsp.below hb0)
  have HSW := Lib.hid (hsw.below hb0)
  have HSZ := Lib.hid (hsz.below hb0)
  have HV := Lib.hid (load_any S W pw _ _ _ _ W0 (hF.below hb0) (hP.below hb0) (hW.below hb0) (hZ.below hb0) hn hfF hfP hfW hlW hlZ)
  clear hF hP hC hW hZ hsl hsp hsc hsw hsz hfF hfP hfW hlc hld hlc' hld' hcm hdm hcm' hdm' hn hle' hem'
  cases hv : (loadE S W pw != 0) with
  | true =>
    have HE := Lib.hid (fits_e (C := C) (by simpa using hv : loadE S W pw ≠ 0))
    go_enter Tryd.func15, Tryd.ntmps15
    go_wp2_with fail
    rw [← hW0]
    clear hW0
    refine HV.out.mono ?_
    rintro e w1 ⟨v1, rfl, hv1, hb1⟩
    go_wp2_with fail
    go_ret
    exact ⟨ret_bool (by rw [HE.out]), below_step hb0 hb1⟩
  | false =>
  have h0 : loadE S W pw = 0 := by simpa using hv
  obtain ⟨hs0, hl, hall⟩ := loadE_zero h0
  have hlF := (siteE_ok hs0).lF
  have hlP := (siteE_ok hs0).lP
  by_cases hcl : C.length = S.F.length
  rotate_left 1
  · have hne : ((C.length : Int) != (S.F.length : Int)) = true := by simp; omega
    have HE := Lib.hid (fits_c (W := W) (pw := pw) hcl)
    clear h0 hcl hs0 hl hall
    go_enter Tryd.func15, Tryd.ntmps15
    go_wp2_with fail
    rw [← hW0]
    clear hW0
    refine HV.out.mono ?_
    rintro e w1 ⟨v1, rfl, hv1, hb1⟩
    obtain ⟨hc, hf⟩ := bcell hb1
    go_wp2_with fail
    go_ret
    exact ⟨ret_bool (by rw [HE.out]), below_step hb0 hb1⟩
  have hne : ((C.length : Int) != (S.F.length : Int)) = false := by simp; omega
  have hLL : (loadsOf S W pw).length ≤ 1000 := by rw [loadsOf_ok h0, loadL_len]; omega
  have HR := Lib.hid (fun (k : Nat) (h1 : k < W.length) (h2 : k < pw.length) => FitsRound.mk' (C := C) h1 h2 hall)
  have HY := Lib.hid (fits_y (C := C) h0 hcl)
  have HL := Lib.hid hl
  have HZL : Hid ((W.zip pw).length = W.length) := by unfold Hid; simp; omega
  clear hcl h0 hs0 hl hall
  by_cases ho : (overL C (loadsOf S W pw)).length = 0
  rotate_left 1
  · have HE := Lib.hid (fits_o ho)
    have ho2 : 0 < (overL C (loadsOf S W pw)).length := by omega
    clear ho
    go_enter Tryd.func15, Tryd.ntmps15
    go_wp2_with fail
    rw [← hW0]
    clear hW0
    refine HV.out.mono ?_
    rintro e w1 ⟨v1, rfl, hv1, hb1⟩
    obtain ⟨hc, hf⟩ := bcell hb1
    go_wp2_with fail
    refine (over_any C _ _ v1 _ ((HIC.out.below hb0).below hb1) hv1 (by omega) (by omega)).mono ?_
    rintro e w2 ⟨v2, rfl, hv2, hb2⟩
    obtain ⟨A2, c2, rfl, _, _, _⟩ := islen' hv2
    generalize (overL C (loadsOf S W pw)).length = n at *
    go_wp2_with fail
    go_ret
    exact ⟨ret_bool (by rw [HE.out]), below_step hb0 (below_step hb1 hb2)⟩
  have HO := Lib.hid ho
  clear ho
  go_enter Tryd.func15, Tryd.ntmps15
  go_wp2_with fail
  rw [← hW0]
  clear hW0
  refine HV.out.mono ?_
  rintro e w1 ⟨v1, rfl, hv1, hb1⟩
  obtain ⟨hc, hf⟩ := bcell hb1
  go_wp2_with fail
  refine (over_any C _ _ v1 _ ((HIC.out.below hb0).below hb1) hv1 (by omega) (by omega)).mono ?_
  rintro e w2 ⟨v2, rfl, hv2, hb2⟩
  obtain ⟨A2, c2, rfl, _, _, _⟩ := islen' hv2
  rw [HO.out]
  have hb12 := below_step hb1 hb2
  have hgx : w.heap.size < w2.heap.size := Nat.lt_of_lt_of_le hg0 hb12.size
  have hx2 : ∀ j, w2.cell? ⟨w.heap.size, j, none⟩ = (#[.string S.name, .slice A S.F.length c, .slice B S.P.length d] : Array Value)[j]? := fun j => (hb12.cell (p := ⟨w.heap.size, j, none⟩) hg0).trans (hx0 j)
  have HSP2 := Lib.hid (HSP.out.below hb12)
  have HSW2 := Lib.hid (HSW.out.below hb12)
  have HSZ2 := Lib.hid (HSZ.out.below hb12)
  have hb02 := below_step hb0 hb12
  clear hc hf hx0 hv1 hv2 HV HSP HSW HSZ hb12 hb1 hb2 hb0 hg0
  go_wp2_with fail
  go_loopw [39] (fun i wr => ∃ k : Nat, k ≤ W.length ∧ i = .int .i64 k ∧ Below w2.heap.size w2 wr ∧ Hid (((W.zip pw).take k).any (highB S.P) = false)) (fun i _ => W.length - (intOf i).toNat)
  case atStart => exact ⟨0, by omega, rfl, Below.refl _ _, by simp [Hid]⟩
  case round =>
    obtain ⟨k, hk, rfl, hbw, HG⟩ := hrel
    obtain ⟨hc, hf⟩ := bcell hbw
    by_cases hlt : k < W.length
    · have hki : (k : Int) < (W.length : Int) := by omega
      have hlt2 : k < pw.length := by have := HL.out; omega
      have hki2 : (k : Int) < (pw.length : Int) := by omega
      have HFR := Lib.hid (HR.out k hlt hlt2)
      obtain ⟨bw, offw, rfl, hbb, c0, c1, c2⟩ := want_at HSW2.out hlt
      obtain ⟨bz, offz, rfl, hbz, d0⟩ := int_at HSZ2.out hlt2
      generalize W[k] = x at *
      generalize pw[k] = q at *
      obtain ⟨j, hj⟩ : ∃ j : Nat, x.point = j := ⟨x.point.toNat, by have := HFR.out.right.p0; simp at this; omega⟩
      have hjl : j < S.P.length := by have := HFR.out.right.p1; simp at this; omega
      have hjli : (j : Int) < (S.P.length : Int) := by omega
      have HH := Lib.hid (high_at (x := (x, q)) hjl hj)
      obtain ⟨bp, offp, rfl, hbp, y0, y1, y2, y3, y4⟩ := pnt_at HSP2.out hjl
      clear y0 y1 y2 y4
      generalize S.P[j].rated = yr at *
      rw [hj] at c0
      clear hj
      have hzw := hbw.size
      have g1 : w.heap.size < wr.heap.size := by omega
      have g2 : bw < wr.heap.size := by omega
      have g3 : bz < wr.heap.size := by omega
      have g4 : bp < wr.heap.size := by omega
      obtain ⟨W2, hW2, hb2, hg2, hxx⟩ := box1 wr #[.int .i64 j, .int .i64 x.phases, .int .i64 x.top] 36
      have hbw2 := hbw.trans (hb2.mono hbw.size)
      by_cases h1 : x.top < q
      · have e0 : decide (x.top < q) = true := by simpa using h1
        have HE := Lib.hid (HFR.out.high (by rw [HH.out]; simp only [e0, Bool.true_or]))
        clear h1
        go_wp2_with fail
        rw [← hW2]
        clear hW2 hc hf
        obtain ⟨hc, hf⟩ := bcell hbw2
        go_quiet (fail)
        go_wp2_with fail
        go_ret
        exact ⟨ret_bool (by rw [HE.out]), below_step hb02 (below_drewN hbw2 _)⟩
      · have e0 : decide (x.top < q) = false := by simpa using h1
        by_cases h2 : yr < q
        · have e1 : decide (yr < q) = true := by simpa using h2
          have HE := Lib.hid (HFR.out.high (by rw [HH.out]; simp only [e0, e1, Bool.false_or]))
          clear h1 h2
          go_wp2_with fail
          rw [← hW2]
          clear hW2 hc hf
          obtain ⟨hc, hf⟩ := bcell hbw2
          go_quiet (fail)
          go_wp2_with fail
          go_ret
          exact ⟨ret_bool (by rw [HE.out]), below_step hb02 (below_drewN hbw2 _)⟩
        · have e1 : decide (yr < q) = false := by simpa using h2
          have HE := Lib.hid (HFR.out.low (by rw [HH.out]; simp only [e0, e1, Bool.false_or]) HG.out)
          clear h1 h2
          go_wp2_with fail
          rw [← hW2]
          clear hW2 hc hf
          obtain ⟨hc, hf⟩ := bcell hbw2
          go_quiet (fail)
          go_wp2_with fail
          go_roundw
          case measure => simp [intOf]; omega
          case rel => exact ⟨k + 1, by omega, by go_num, below_drewN hbw2 _, HE.out⟩
    · have HG' := HG.out
      rw [List.take_of_length_le (by have := HZL.out; omega)] at HG'
      have HE := Lib.hid (HY.out HO.out HG')
      clear HG' HG
      go_wp2_with fail
      go_ret
      exact ⟨ret_bool (by rw [HE.out]), below_step hb02 hbw⟩

end Go.Proofs.YtlpjniejbblcnaaDoor

namespace Go.Proofs.YtlpjniejbblcnaaDoor
open Go.RowKit Go.Lib Go.Maps
attribute [local go_sem] after_cell
set_option linter.unusedVariables false

/-- one watt more -/
def raiseB (S : SiteR) (C : List CapR) (W : List WantR) (Z : List Int) (k : Nat) : Bool := decide (Z.getD k 0 < 1048576) && fitsB S C W (Z.set k (Z.getD k 0 + 1))
theorem zs_flat : ∀ l : List Int, l.map (Value.int .i64) = l.flatMap encZ
  | [] => rfl
  | x :: l => by rw [List.map_cons, List.flatMap_cons, zs_flat l]; rfl

set_option maxRecDepth 100000 in
set_option maxHeartbeats 6400000 in
theorem araise_any (S : SiteR) (C : List CapR) (W : List WantR) (Z : List Int) (k : Nat) (fv pv cv wv zv : Value) (w : World) (hF : IsSl w 5 fv (S.F.map Feed.cells)) (hP : IsSl w 5 pv (S.P.map Pnt.cells)) (hC : IsSl w 4 cv (C.map CapR.cells)) (hW : IsSl w 3 wv (W.map WantR.cells)) (hZ : IsSl w 1 zv (Z.map encZ))
    (hn : S.name.size ≤ maxLen) (hfF : ∀ f ∈ S.F, f.fits) (hfP : ∀ p ∈ S.P, p.fits) (hfW : ∀ x ∈ W, I64 x.phases) (hl : Z.length = W.length) (hk : k < W.length) (hlW : W.length ≤ 1000) (hlC : C.length ≤ 1000) (hz0 : 0 ≤ Z.getD k 0) :
    Calls Tryd.prog 16 #[.agg #[.string S.name, fv, pv], cv, wv, zv, .int .i64 k] w fun e w' => e = .returned (.bool (raiseB S C W Z k)) ∧ Below w.heap.size w w' := by
  obtain ⟨A, c, rfl, hlc, hcm, hsl⟩ := islen' hF
  obtain ⟨B, d, rfl, hld, hdm, hsp⟩ := islen' hP
  obtain ⟨C', c', rfl, hlc', hcm', hsc⟩ := islen' hC
  obtain ⟨D, d', rfl, hld', hdm', hsw⟩ := islen' hW
  obtain ⟨E, e', rfl, hle', hem', hsz⟩ := islen' hZ
  obtain ⟨W0, hW0, hb0, hg0, hx0⟩ := box1 w #[.string S.name, .slice A S.F.length c, .slice B S.P.length d] 30
  have HF0 := Lib.hid (hF.below hb0)
  have HP0 := Lib.hid (hP.below hb0)
  have HC0 := Lib.hid (hC.below hb0)
  have HW0' := Lib.hid (hW.below hb0)
  have HSZ := Lib.hid (hsz.below hb0)
  have HNM := Lib.hid (And.intro hn (And.intro hfF (And.intro hfP hfW)))
  clear hF hP hC hW hZ hsl hsp hsc hsw hsz hfF hfP hfW hlc hld hlc' hld' hcm hdm hcm' hdm' hn hle' hem'
  have hkZ : k < Z.length := by omega
  obtain ⟨b, off, hE, hbb, z0⟩ := int_at HSZ.out hkZ
  subst hE
  have hzk : Z.getD k 0 = Z[k] := by rw [List.getD_eq_getElem?_getD, List.getElem?_eq_getElem hkZ]; rfl
  have HRB : Hid (raiseB S C W Z k = (decide (Z[k] < 1048576) && fitsB S C W (Z.set k (Z[k] + 1)))) := by unfold Hid raiseB; rw [hzk]
  rw [hzk] at hz0
  have hki : (k : Int) < (W.length : Int) := by omega
  have HCC : Hid (∀ j, j < Z.length → W0.cell? ⟨b, off + j, none⟩ = some (.int .i64 (Z.getD j 0))) := fun j hj => by
    obtain ⟨b2, off2, e2, _, c2⟩ := int_at HSZ.out hj
    injection e2 with e2
    injection e2 with e3 e4
    subst e3 e4
    rw [c2, List.getD_eq_getElem?_getD, List.getElem?_eq_getElem hj]; rfl
  have HLZ := Lib.hid hl
  rw [hl]
  generalize hz : Z[k] = z at *
  have HZ := Lib.hid hz
  clear hz hzk
  have hne : ((W.length : Int) != (W.length : Int)) = false := by simp
  have hd1 : ¬ (k : Int) < 0 := by omega
  have hd2 : ¬ W.length ≤ k := by omega
  have hi0 : (k : Int).toNat = k := Int.toNat_natCast k
  by_cases hzt : z < 1048576
  · have hzt2 : ¬ 1048576 ≤ z := by omega
    have hwz : IntKind.i64.wrap (z + 1) = z + 1 := IntWalk.i64_in _ (by omega)
    have HCL := Lib.hid (Tryd.slices_Clone_int b off W.length e' Z W0 (by have := HLZ.out; omega) (by omega) HCC.out)
    clear HCC
    go_enter Tryd.func16, Tryd.ntmps16
    go_upto_region 1 with fail
    rw [← hW0]
    clear hW0
    have HXS : Hid ((Z.flatMap encZ)[k]? = some (.int .i64 z)) := by
      have := flat_at encZ 1 encZ_len Z k z (by rw [List.getElem?_eq_getElem (by have := HLZ.out; omega), HZ.out]) 0 _ rfl
      simpa [Hid] using this
    have HTK : Hid ((Z.take W.length).map (Value.int .i64) = Z.flatMap encZ) := by unfold Hid; rw [List.take_of_length_le (by have := HLZ.out; omega), zs_flat]
    have hx0' := hx0
    go_wp2_with (go_at_call 27; refine HCL.out.mono ?_; rintro e w3 ⟨v3, rfl, hown3, hnn3, hb3⟩; rw [HTK.out] at hown3; obtain ⟨g, cap, rfl, hg1, hg2, hcap, hcap2, hcl⟩ := own_split hown3 (by omega); have y0 := hcl k _ HXS.out; have f0 := hown3.frozenAt k; have x3 := fun j => (hb3.cell (p := ⟨w.heap.size, j, none⟩) hg0).trans (hx0' j); have hne3 : ¬ w.heap.size = g := by omega)
    obtain ⟨hs1, hs2⟩ := hown3.stored k (.int .i64 (z + 1))
    have hbs := hb3.setCell (p := ⟨g, k, none⟩) hg1 (.int .i64 (z + 1))
    have hset : (Z.flatMap encZ).set k (.int .i64 (z + 1)) = (Z.set k (z + 1)).flatMap encZ := by rw [← zs_flat, ← zs_flat, List.map_set]
    rw [hset] at hs1
    have hsz := IsSl.of_own encZ_len hs1 (by rw [List.length_set]; exact HLZ.out)
    refine (fits_any S C W (Z.set k (z + 1)) _ _ _ _ _ _ (HF0.out.below hbs) (HP0.out.below hbs) (HC0.out.below hbs) (HW0'.out.below hbs) hsz HNM.out.1 HNM.out.2.1 HNM.out.2.2.1 HNM.out.2.2.2 hlC hlW (by rw [List.length_set]; have := HLZ.out; omega)).mono ?_
    rintro e w5 ⟨rfl, hb5⟩
    go_wp2_with fail
    go_ret
    exact ⟨ret_bool (by rw [HRB.out, decide_eq_true (by omega)]; rfl), below_step (below_step hb0 hbs) hb5⟩
  · have hzt2 : 1048576 ≤ z := by omega
    go_enter Tryd.func16, Tryd.ntmps16
    go_upto_region 1 with fail
    rw [← hW0]
    clear hW0
    go_wp2_with fail
    go_ret
    exact ⟨ret_bool (by rw [HRB.out, decide_eq_false (by omega)]; rfl), hb0⟩

end Go.Proofs.YtlpjniejbblcnaaDoor

namespace Go.Proofs.YtlpjniejbblcnaaDoor
set_option linter.unusedVariables false

def sumV (v : Vec) : Nat → Int
  | 0 => 0
  | k + 1 => sumV v k + v k
def belowV (c : Vec) (m : Int) (n : Nat) : Int := sumV (fun i => min m (c i)) n
/-- vectors within the caps whose sum is within a total -/
def SumF (n : Nat) (c : Vec) (total : Int) (F : Vec → Bool) : Prop := ∀ v, F v = true ↔ (∀ i, i < n → 0 ≤ v i ∧ v i ≤ c i) ∧ sumV v n ≤ total
theorem sumV_mono {u v : Vec} : ∀ n : Nat, (∀ i, i < n → u i ≤ v i) → sumV u n ≤ sumV v n
  | 0, _ => Int.le_refl _
  | n + 1, h => by
    have := sumV_mono n (fun i hi => h i (by omega))
    have := h n (by omega)
    unfold sumV; omega
theorem sumV_congr {u v : Vec} : ∀ n : Nat, (∀ i, i < n → u i = v i) → sumV u n = sumV v n
  | 0, _ => rfl
  | n + 1, h => by
    unfold sumV; rw [sumV_congr n (fun i hi => h i (by omega)), h n (by omega)]
theorem sumV_upd {v : Vec} {i : Nat} {x : Int} : ∀ n : Nat, i < n → sumV (updF v i x) n = sumV v n - v i + x
  | 0, h => by omega
  | n + 1, h => by
    unfold sumV
    by_cases q : i = n
    · subst q
      rw [upd_same, sumV_congr (u := updF v i x) (v := v) i (fun j hj => upd_other (by omega))]
      omega
    · rw [sumV_upd n (by omega), upd_other (by omega)]
      omega
theorem SumF.ok {n : Nat} {c : Vec} {total : Int} {F : Vec → Bool} (h : SumF n c total F) : FillOk n F := ⟨fun u v huv hv => by
  obtain ⟨h1, h2⟩ := (h v).1 hv
  refine (h u).2 ⟨fun i hi => ?_, ?_⟩
  · have := huv i hi; have := h1 i hi; omega
  · have := sumV_mono n (fun i hi => (huv i hi).2); omega⟩
theorem fill_all {n : Nat} {F : Vec → Bool} {c : Vec} (hF : FillOk n F) (hc : Capped n c) (h : F c = true) : ∀ i, i < n → fillX n F c i = c i := by
  have hz : F zeroV = true := by
    obtain ⟨B, hB⟩ := hc
    exact hF.mono zeroV c (fun i hi => ⟨Int.le_refl _, (hB i hi).1⟩) h
  have hx := fillX_is hF hc hz
  intro i hi
  rcases hx.out i hi with g | g
  · exact g
  · apply Classical.byContradiction
    intro q
    have hr := hx.rng i hi
    have := hF.mono (updF (fillX n F c) i (fillX n F c i + 1)) c (fun j hj => by
      have := hx.rng j hj
      by_cases e : j = i
      · subst e; rw [upd_same]; omega
      · rw [upd_other e]; exact this) h
    rw [this] at g; cases g

/-- what is left after k receivers -/
def restF (c : Vec) (m R : Int) : Nat → Int
  | 0 => R
  | k + 1 => if 0 < restF c m R k ∧ m < c k then restF c m R k - 1 else restF c m R k
def shareX (c : Vec) (m R : Int) (i : Nat) : Int := if 0 < restF c m R i ∧ m < c i then min m (c i) + 1 else min m (c i)
theorem rest_up {c : Vec} {m R : Int} {k : Nat} (h : 0 < restF c m R k ∧ m < c k) : restF c m R (k + 1) = restF c m R k - 1 := if_pos h
theorem rest_no {c : Vec} {m R : Int} {k : Nat} (h : ¬ (0 < restF c m R k ∧ m < c k)) : restF c m R (k + 1) = restF c m R k := if_neg h
theorem rest_ge {c : Vec} {m R : Int} (h : 0 ≤ R) : ∀ k, 0 ≤ restF c m R k
  | 0 => h
  | k + 1 => by
    have := rest_ge (c := c) (m := m) h k
    unfold restF; split <;> omega
/-- the ones above m -/
theorem below_more {c : Vec} {m : Int} {R : Int} (h : 0 ≤ R) : ∀ k, restF c m R k = 0 ∨ restF c m R k = R - (belowV c (m + 1) k - belowV c m k)
  | 0 => .inr (by simp [restF, belowV, sumV])
  | k + 1 => by
    have hg := rest_ge (c := c) (m := m) h k
    rcases below_more (c := c) (m := m) h k with e | e
    · left
      unfold restF
      rw [if_neg (by omega)]
      exact e
    · unfold restF
      have e1 : belowV c (m + 1) (k + 1) = belowV c (m + 1) k + min (m + 1) (c k) := rfl
      have e2 : belowV c m (k + 1) = belowV c m k + min m (c k) := rfl
      rw [e1, e2]
      by_cases g : m < c k
      · by_cases g0 : 0 < restF c m R k
        · right
          rw [if_pos ⟨g0, g⟩, e]
          omega
        · left
          rw [if_neg (by omega)]
          omega
      · right
        rw [if_neg (by omega), e]
        omega
theorem rest_end {c : Vec} {m R : Int} (h : 0 ≤ R) {n : Nat} (h1 : R < belowV c (m + 1) n - belowV c m n) : restF c m R n = 0 := by
  have := rest_ge (c := c) (m := m) h n
  rcases below_more (c := c) (m := m) h n with e | e <;> omega
/-- .. divided fairly -/
theorem fill_share {n : Nat} {F : Vec → Bool} {c : Vec} {total m : Int} (hS : SumF n c total F) (hc : Capped n c) (hm : 0 ≤ m) (h1 : belowV c m n ≤ total) (h2 : total < belowV c (m + 1) n) : ∀ i, i < n → fillX n F c i = shareX c m (total - belowV c m n) i := by
  have hF := hS.ok
  obtain ⟨B, hB⟩ := hc
  have hc : Capped n c := ⟨B, hB⟩
  have hl : ∀ i, i < n → ∀ d : Int, levF (startF n).x c (startF n).a d i = min d (c i) := fun i hi d => by
    show (if decide (i < n) = true then min ((0 : Int) + d) (c i) else (0 : Int)) = min d (c i)
    rw [if_pos (by simpa using hi), Int.zero_add]
  have hlm : F (levF (startF n).x c (startF n).a m) = true := (hS _).2 ⟨fun i hi => by
    have := hB i hi
    rw [hl i hi]; omega, by rw [sumV_congr n (fun i hi => hl i hi m)]; exact h1⟩
  have hz : F zeroV = true := hF.mono zeroV _ (fun i hi => ⟨Int.le_refl _, by have := hB i hi; rw [hl i hi]; show (0 : Int) ≤ _; omega⟩) hlm
  have hs0 := start_ok hc hz
  have htop : IsTop n F c (startF n) m := by
    refine ⟨hm, hlm, .inr ?_⟩
    cases e : F (levF (startF n).x c (startF n).a (m + 1)) with
    | false => rfl
    | true =>
      have := ((hS _).1 e).2
      rw [sumV_congr n (fun i hi => hl i hi (m + 1))] at this
      have h3 : belowV c (m + 1) n = sumV (fun i => min (m + 1) (c i)) n := rfl
      omega
  -- the pass
  have hp : ∀ k, k ≤ n → (∀ j, j < n → (passF F c ⟨levF (startF n).x c (startF n).a m, (startF n).a⟩ k).x j = if j < k then shareX c m (total - belowV c m n) j else min m (c j)) ∧
      (∀ j, j < n → k ≤ j → (passF F c ⟨levF (startF n).x c (startF n).a m, (startF n).a⟩ k).a j = true) ∧
      sumV (passF F c ⟨levF (startF n).x c (startF n).a m, (startF n).a⟩ k).x n = total - restF c m (total - belowV c m n) k := by
    intro k
    induction k with
    | zero =>
      intro _
      refine ⟨fun j hj => by rw [if_neg (by omega)]; exact hl j hj m, fun j hj _ => by simpa [passF, startF] using hj, ?_⟩
      show sumV (levF (startF n).x c (startF n).a m) n = total - (total - belowV c m n)
      rw [sumV_congr n (fun i hi => hl i hi m)]
      have h3 : belowV c m n = sumV (fun i => min m (c i)) n := rfl
      omega
    | succ k ih =>
      intro hk
      obtain ⟨i1, i2, i3⟩ := ih (by omega)
      have hok := pass_ok hF (lev_ok hF hs0 htop) k
      have hsp : passF F c ⟨levF (startF n).x c (startF n).a m, (startF n).a⟩ (k + 1) = stepF F c (passF F c ⟨levF (startF n).x c (startF n).a m, (startF n).a⟩ k) k := rfl
      rw [hsp]
      revert i1 i2 i3 hok
      generalize passF F c ⟨levF (startF n).x c (startF n).a m, (startF n).a⟩ k = s
      intro i1 i2 i3 hok
      have hx : s.x k = min m (c k) := by rw [i1 k (by omega), if_neg (by omega)]
      have hup : (s.x k < c k ∧ F (updF s.x k (s.x k + 1)) = true) ↔ (0 < restF c m (total - belowV c m n) k ∧ m < c k) := by
        rw [hS]
        constructor
        · intro ⟨a, b, e⟩
          rw [sumV_upd n (by omega), i3] at e
          exact ⟨by omega, by omega⟩
        · intro ⟨a, b⟩
          refine ⟨by omega, fun j hj => ?_, ?_⟩
          · have := hok.rng j hj
            by_cases q : j = k
            · subst q; rw [upd_same]; omega
            · rw [upd_other q]; exact this
          · rw [sumV_upd n (by omega), i3]; omega
      by_cases g : 0 < restF c m (total - belowV c m n) k ∧ m < c k
      · have g' := hup.2 g
        rw [step_up (i2 k (by omega) (Nat.le_refl _)) g'.1 g'.2]
        refine ⟨fun j hj => ?_, fun j hj hkj => i2 j hj (by omega), ?_⟩
        · simp only
          by_cases q : j = k
          · subst q
            rw [upd_same, if_pos (by omega), hx]
            unfold shareX
            rw [if_pos g]
          · rw [upd_other q, i1 j hj]
            by_cases q2 : j < k
            · rw [if_pos q2, if_pos (by omega)]
            · rw [if_neg q2, if_neg (by omega)]
        · simp only
          rw [sumV_upd n (by omega), i3, rest_up g]
          omega
      · rw [step_out (i2 k (by omega) (Nat.le_refl _)) (fun h => g (hup.1 h))]
        refine ⟨fun j hj => ?_, fun j hj hkj => ?_, ?_⟩
        · simp only
          rw [i1 j hj]
          by_cases q : j = k
          · subst q
            rw [if_neg (by omega), if_pos (by omega)]
            unfold shareX
            rw [if_neg g]
          · by_cases q2 : j < k
            · rw [if_pos q2, if_pos (by omega)]
            · rw [if_neg q2, if_neg (by omega)]
        · simp only
          rw [upd_other (by omega)]
          exact i2 j hj (by omega)
        · simp only
          rw [i3, rest_no g]
  obtain ⟨p1, _, p3⟩ := hp n (Nat.le_refl _)
  rw [rest_end (by omega) (by omega)] at p3
  have hb : ∀ i, i < n → Blocked F c (rndF n F c (startF n) m).x i := fun i hi => by
    right
    cases e : F (updF (rndF n F c (startF n) m).x i ((rndF n F c (startF n) m).x i + 1)) with
    | false => rfl
    | true =>
      have := ((hS _).1 e).2
      rw [sumV_upd n hi] at this
      have p3' : sumV (rndF n F c (startF n) m).x n = total - 0 := p3
      omega
  intro i hi
  rw [fillX_eq hz]
  obtain ⟨k, rfl⟩ : ∃ k, n = k + 1 := ⟨n - 1, by omega⟩
  rw [fill_step' hF hs0 htop, fill_blocked hF hc k _ (rnd_ok hF hs0 htop) hb i hi]
  have := p1 i hi
  rw [if_pos hi] at this
  exact this

end Go.Proofs.YtlpjniejbblcnaaDoor

namespace Go.Proofs.YtlpjniejbblcnaaDoor
set_option linter.unusedVariables false

def ptName (i : Nat) : ByteArray := ⟨#[112, UInt8.ofNat (48 + i)]⟩
def ptP (i : Nat) : Pnt := ⟨ptName i, 0, 1, 1048576, 0⟩
def ptsP (n : Nat) : List Pnt := (List.range n).map ptP
def ptsF (total : Int) : List Feed := [⟨⟨#[102]⟩, -1, total, 0, 0⟩]
def ptsS (total : Int) (n : Nat) : SiteR := ⟨⟨#[115]⟩, ptsF total, ptsP n⟩
def ptsC (total : Int) : List CapR := [⟨total, 0, 0, total⟩]
def ptsW (c : List Int) : List WantR := (List.range c.length).map fun i : Nat => (⟨(i : Int), 1, vecL c i⟩ : WantR)
theorem ptsP_get {n i : Nat} (h : i < (ptsP n).length) : (ptsP n)[i] = ptP i := by simp [ptsP]
theorem ptsP_len (n : Nat) : (ptsP n).length = n := by simp [ptsP]
theorem ptsW_len (c : List Int) : (ptsW c).length = c.length := by simp [ptsW]
theorem ptsW_get {c : List Int} {i : Nat} (h : i < (ptsW c).length) : (ptsW c)[i] = ⟨(i : Int), 1, vecL c i⟩ := by simp [ptsW]

theorem feedsP_ok {total : Int} (h0 : 0 ≤ total) (h1 : total ≤ 1048576) : firstE (feedAt (ptsF total)) 1 = 0 := by
  have hp : powB total = true := powB_iff.2 ⟨h0, h1⟩
  have e : feedAt (ptsF total) 0 = feedE [] 0 ⟨⟨#[102]⟩, -1, total, 0, 0⟩ := rfl
  rw [firstE_go rfl]
  rw [e]
  have hn : nameE [] ⟨#[102]⟩ = 0 := by decide
  unfold feedE
  simp only [hn, hp]
  decide
theorem pntsP_ok : ∀ n, n < 11 → firstE (pntAt (ptsF 0) (ptsP n)) n = 0 := by decide
theorem pntAt_feeds {F G : List Feed} (h : keysF F = keysF G) (hl : F.length = G.length) (P : List Pnt) : pntAt F P = pntAt G P := by
  funext k; unfold pntAt; rw [h, hl]
theorem siteP_ok {total : Int} {n : Nat} (h0 : 0 ≤ total) (h1 : total ≤ 1048576) (hn : n ≤ 10) : siteE (ptsS total n) = 0 := by
  have hv : (!validL (ptsS total n).name.data.toList) = false := by
    show (!validL [115]) = false
    decide
  unfold siteE
  rw [hv]
  simp only [Bool.false_eq_true, if_false]
  have hl : (ptsS total n).P.length = n := ptsP_len n
  have hlF : (ptsS total n).F.length = 1 := rfl
  rw [if_neg (by omega), hlF, hl]
  have hf : firstE (feedAt (ptsS total n).F) 1 = 0 := feedsP_ok h0 h1
  rw [hf]
  simp only [ne_eq, not_true_eq_false, if_false]
  show firstE (pntAt (ptsF total) (ptsP n)) n = 0
  rw [pntAt_feeds (F := ptsF total) (G := ptsF 0) rfl rfl]
  exact pntsP_ok n (by omega)
theorem allocP_ok {total : Int} {c : List Int} (h0 : 0 ≤ total) (h1 : total ≤ 1048576) (hn : c.length ≤ 10) (hc : ∀ x ∈ c, 0 ≤ x ∧ x ≤ 1048576) : AllocOk (ptsS total c.length) (ptsC total) (ptsW c) := by
  refine ⟨siteP_ok h0 h1 hn, rfl, ?_, fun k hk => ?_⟩
  · have hb : limB total = true := by unfold limB; simp only [Bool.and_eq_true, decide_eq_true_eq]; omega
    unfold ptsC capB
    simp only [List.all_cons, List.all_nil, hb]
    decide
  · have hk' : k < c.length := by rw [ptsW_len] at hk; exact hk
    rw [ptsW_get hk]
    refine ⟨?_, ?_⟩
    · have hg : (ptsS total c.length).P[k]? = some (ptP k) := by
        show (ptsP c.length)[k]? = _
        rw [List.getElem?_eq_getElem (by rw [ptsP_len]; exact hk'), ptsP_get]
      have hnot : (k : Int) ∉ ptsL ((ptsW c).take k) := by
        intro hm
        unfold ptsL at hm
        obtain ⟨x, hx, he⟩ := List.mem_map.1 hm
        obtain ⟨j, hj, rfl⟩ := List.mem_iff_getElem.1 hx
        rw [List.getElem_take, ptsW_get] at he
        simp only at he
        rw [List.length_take] at hj
        omega
      have hm : maskB 1 1 = true := by decide
      unfold wantBad
      simp only [Int.toNat_natCast, hg]
      rw [show (ptP k).phases = 1 from rfl, hm]
      simp [hnot]
    · rw [vecL_get hk']
      exact powB_iff.2 (hc _ (List.getElem_mem hk'))
theorem capP_at {total : Int} : ∀ (W : List WantR) (Z : List Int) (P : List Pnt), (∀ x ∈ W, ∃ h : x.point.toNat < P.length, P[x.point.toNat].feeder = 0 ∧ x.phases = 1) → W.length = Z.length → capAt (ptsF total) P 0 (W.zip Z) = ⟨Z.sum, 0, 0, Z.sum⟩
  | [], [], _, _, _ => rfl
  | x :: W, z :: Z, P, h, hl => by
    rw [List.zip_cons_cons, capAt_cons, capP_at W Z P (fun y hy => h y (by simp [hy])) (by simpa using hl)]
    obtain ⟨h1, h2, h3⟩ := h x (by simp)
    have hp : wantPath (ptsF total) P x = [0] := by
      unfold wantPath
      rw [List.getElem?_eq_getElem h1]
      simp only [h2]
      show pathL (ptsF total) 1 0 = [0]
      rw [pathL, dif_pos (by decide)]
      show [0, ] ++ pathL (ptsF total) 0 (-1) = [0]
      rw [pathL_out (by omega)]
      rfl
    unfold ctr
    rw [hp, if_pos (by simp)]
    simp only [h3, addC, zeroC, plusC, List.sum_cons]
    apply CapR.ext' <;> simp only <;> omega
theorem sum_listV (v : Vec) : ∀ n, (listV n v).sum = sumV v n
  | 0 => rfl
  | n + 1 => by
    have := sum_listV v n
    unfold listV at this ⊢
    rw [List.range_succ, List.map_append, List.sum_append, this]
    simp [sumV]
theorem greatP {total : Int} {c : List Int} {i : Nat} (hi : i < c.length) (hc : ∀ x ∈ c, 0 ≤ x ∧ x ≤ 1048576) : greatW (ptsS total c.length).P ⟨i, 1, vecL c i⟩ = vecL c i ∧ (pntOf (ptsS total c.length).P ⟨i, 1, vecL c i⟩).least = 0 := by
  have hg : pntOf (ptsS total c.length).P ⟨i, 1, vecL c i⟩ = ptP i := by
    unfold pntOf
    simp only [Int.toNat_natCast]
    show ((ptsP c.length)[i]?).getD _ = _
    rw [List.getElem?_eq_getElem (by rw [ptsP_len]; exact hi), ptsP_get]
    rfl
  have := hc _ (List.getElem_mem hi)
  unfold greatW
  rw [hg, vecL_get hi]
  refine ⟨?_, rfl⟩
  show min c[i] 1048576 = c[i]
  omega
theorem sumP {total : Int} {c : List Int} (h0 : 0 ≤ total) (h1 : total ≤ 1048576) (hn : c.length ≤ 10) (hc : ∀ x ∈ c, 0 ≤ x ∧ x ≤ 1048576) : SumF (ptsW c).length (vecL c) total (siteV (ptsS total c.length) (ptsC total) (ptsW c)) := by
  have hA := allocP_ok h0 h1 hn hc
  intro v
  rw [siteV_iff hA, over_nil (W := ptsW c) rfl]
  have hcap : capAt (ptsS total c.length).F (ptsS total c.length).P 0 ((ptsW c).zip (listV (ptsW c).length v)) = ⟨sumV v (ptsW c).length, 0, 0, sumV v (ptsW c).length⟩ := by
    rw [← sum_listV]
    refine capP_at (total := total) (ptsW c) _ (ptsP c.length) (fun x hx => ?_) (by rw [listV_len])
    obtain ⟨j, hj, rfl⟩ := List.mem_iff_getElem.1 hx
    rw [ptsW_get]
    rw [ptsW_len] at hj
    exact ⟨by simpa [ptsP_len] using hj, by simp only [Int.toNat_natCast, ptsP_get]; rfl, rfl⟩
  constructor
  · intro ⟨a, b⟩
    refine ⟨fun i hi => ?_, ?_⟩
    · have := a i hi
      rw [ptsW_get hi, (greatP (by rw [ptsW_len] at hi; exact hi) hc).1] at this
      exact this
    · have := b 0 (by simp [ptsC])
      rw [hcap] at this
      unfold overB ptsC at this
      simp only [List.getElem_cons_zero, Bool.or_eq_false_iff, decide_eq_false_iff_not] at this
      omega
  · intro ⟨a, b⟩
    refine ⟨fun i hi => ?_, fun i hi => ?_⟩
    · rw [ptsW_get hi, (greatP (by rw [ptsW_len] at hi; exact hi) hc).1]
      exact a i hi
    · have hi0 : i = 0 := by simpa [ptsC] using hi
      subst hi0
      rw [hcap]
      show overB ⟨total, 0, 0, total⟩ _ = false
      unfold overB
      simp only [Bool.or_eq_false_iff, decide_eq_false_iff_not]
      omega
/-- the powers that Run comes to -/
theorem pts_fill {total : Int} {c : List Int} (h0 : 0 ≤ total) (h1 : total ≤ 1048576) (hn : c.length ≤ 10) (hc : ∀ x ∈ c, 0 ≤ x ∧ x ≤ 1048576) {x : Vec} (hx : AllocTo (ptsS total c.length) (ptsC total) (ptsW c) x) :
    ∃ F, SumF c.length (vecL c) total F ∧ Capped c.length (vecL c) ∧ x = fillX c.length F (vecL c) := by
  have hA := allocP_ok h0 h1 hn hc
  have hS := sumP h0 h1 hn hc
  have hF := siteV_mono (ptsS total c.length) (ptsC total) (ptsW c)
  have hz := siteV_zero hA
  have hcap := ask_capped hA
  have e : askL (ptsS total c.length).P (ptsW c) = c := by
    apply List.ext_getElem
    · simp [askL, ptsW_len]
    · intro i h2 h3
      have h4 : (askL (ptsS total c.length).P (ptsW c))[i] = askW (ptsS total c.length).P ((ptsW c)[i]'(by rw [ptsW_len]; exact h3)) := by simp [askL]
      rw [h4, ptsW_get]
      unfold askW
      rw [(greatP h3 hc).1, (greatP h3 hc).2, vecL_get h3]
      have := hc _ (List.getElem_mem h3)
      rw [if_neg (by omega)]
  rw [e] at hcap
  unfold AllocTo at hx
  rw [e] at hx
  rw [ptsW_len] at hcap hS hF
  have hx' : RunsTo c.length (siteV (ptsS total c.length) (ptsC total) (ptsW c)) (minV (ptsS total c.length).P (ptsW c)) (vecL c) x := by
    have := hx
    rw [ptsW_len] at this
    exact this
  refine ⟨_, hS, hcap, ?_⟩
  cases hx' with
  | stop _ => rfl
  | @next _ _ i hl _ =>
    have hi := hl.1
    have h5 := (fillX_is hF hcap hz).rng i hi
    have h6 := hl.2.2.1
    rw [minV_eq (by rw [ptsW_len]; exact hi), ptsW_get (by rw [ptsW_len]; exact hi), (greatP hi hc).2] at h6
    omega

end Go.Proofs.YtlpjniejbblcnaaDoor

namespace Go.Proofs.YtlpjniejbblcnaaDoor
set_option linter.unusedVariables false

def eF : List Feed := [⟨⟨#[102]⟩, -1, 10000, 0, 0⟩]
def eP (least ph : Int) : List Pnt := [⟨⟨#[112]⟩, 0, ph, 7000, least⟩, ⟨⟨#[113]⟩, 0, 1, 7000, least⟩]
def eS (least ph : Int) : SiteR := ⟨⟨#[115]⟩, eF, eP least ph⟩
def eC : List CapR := [⟨10000, 0, 0, 1073741824⟩]
def eW : List WantR := [⟨0, 1, 7000⟩, ⟨1, 1, 7000⟩]
def eC3 : List CapR := [⟨9000, 9000, 9000, 10000⟩]
def eW3 : List WantR := [⟨0, 7, 7000⟩]
theorem eAll0 : allocE (eS 0 1) eC eW = 0 := by decide +kernel
theorem eAll6 : allocE (eS 6000 1) eC eW = 0 := by decide +kernel
theorem eAllN : allocE (eS 0 1) eC [] = 0 := by decide +kernel
theorem eAllB : allocE (eS 0 1) [] eW = 1 := by decide +kernel
theorem eAll7 : allocE (eS 0 7) eC3 eW3 = 0 := by decide +kernel

theorem listV2 (v : Vec) : listV 2 v = [v 0, v 1] := rfl
theorem eCap (l a b : Int) : capAt eF (eP l 1) 0 (eW.zip [a, b]) = ⟨a + b, 0, 0, a + b⟩ := by
  have h := capP_at (total := 10000) eW [a, b] (eP l 1) (fun x hx => by
    simp [eW] at hx
    rcases hx with rfl | rfl
    · exact ⟨by show 0 < 2; omega, rfl, rfl⟩
    · exact ⟨by show 1 < 2; omega, rfl, rfl⟩) rfl
  have e : [a, b].sum = a + b := by simp
  rw [e] at h
  exact h
theorem eSum {l : Int} (hA : AllocOk (eS l 1) eC eW) : SumF 2 (vecL [7000, 7000]) 10000 (siteV (eS l 1) eC eW) := by
  intro v
  rw [siteV_iff hA, over_nil (W := eW) rfl]
  have hc : capAt (eS l 1).F (eS l 1).P 0 (eW.zip (listV eW.length v)) = ⟨v 0 + v 1, 0, 0, v 0 + v 1⟩ := eCap l (v 0) (v 1)
  have hs : sumV v 2 = v 0 + v 1 := by simp [sumV]
  rw [hs]
  have c0 : vecL [7000, 7000] 0 = 7000 := rfl
  have c1 : vecL [7000, 7000] 1 = 7000 := rfl
  have g0 : greatW (eS l 1).P (eW[0]'(by decide)) = 7000 := rfl
  have g1 : greatW (eS l 1).P (eW[1]'(by decide)) = 7000 := rfl
  constructor
  · intro ⟨a, b⟩
    have a0 := a 0 (by decide)
    have a1 := a 1 (by decide)
    rw [g0] at a0
    rw [g1] at a1
    refine ⟨fun i hi => ?_, ?_⟩
    · match i, hi with
      | 0, _ => rw [c0]; exact a0
      | 1, _ => rw [c1]; exact a1
    · have := b 0 (by decide)
      rw [hc] at this
      unfold overB eC at this
      simp only [List.getElem_cons_zero, Bool.or_eq_false_iff, decide_eq_false_iff_not] at this
      omega
  · intro ⟨a, b⟩
    have a0 := a 0 (by decide)
    have a1 := a 1 (by decide)
    rw [c0] at a0
    rw [c1] at a1
    refine ⟨fun i hi => ?_, fun i hi => ?_⟩
    · match i, hi with
      | 0, _ => rw [g0]; exact a0
      | 1, _ => rw [g1]; exact a1
    · have hi0 : i = 0 := by have : i < 1 := hi; omega
      subst hi0
      rw [hc]
      show overB ⟨10000, 0, 0, 1073741824⟩ _ = false
      unfold overB
      simp only [Bool.or_eq_false_iff, decide_eq_false_iff_not]
      omega
theorem eAsk0 : askL (eS 0 1).P eW = [7000, 7000] := by decide +kernel
theorem eAsk6 : askL (eS 6000 1).P eW = [7000, 7000] := by decide +kernel
theorem eCapd : Capped 2 (vecL [7000, 7000]) := ⟨7000, fun i hi => by
  match i, hi with
  | 0, _ => exact ⟨by decide, by decide⟩
  | 1, _ => exact ⟨by decide, by decide⟩⟩
theorem eFill {l : Int} (hA : AllocOk (eS l 1) eC eW) : ∀ i, i < 2 → fillX 2 (siteV (eS l 1) eC eW) (vecL [7000, 7000]) i = 5000 := by
  intro i hi
  rw [fill_share (m := 5000) (eSum hA) eCapd (by decide) (by decide) (by decide) i hi]
  match i, hi with
  | 0, _ => decide
  | 1, _ => decide
/-- the first example -/
theorem ex_even {x : Vec} (hx : AllocTo (eS 0 1) eC eW x) : listV 2 x = [5000, 5000] := by
  have hA := allocE_ok eAll0
  unfold AllocTo at hx
  rw [eAsk0] at hx
  have hf := eFill hA
  cases hx with
  | stop _ =>
    rw [listV2]
    have h0 : fillX eW.length (siteV (eS 0 1) eC eW) (vecL [7000, 7000]) 0 = 5000 := hf 0 (by decide)
    have h1 : fillX eW.length (siteV (eS 0 1) eC eW) (vecL [7000, 7000]) 1 = 5000 := hf 1 (by decide)
    rw [h0, h1]
  | @next _ _ i hl _ =>
    have h1 : i < 2 := hl.1
    have h2 := hl.2.2.1
    have h3 : fillX eW.length (siteV (eS 0 1) eC eW) (vecL [7000, 7000]) i = 5000 := hf i h1
    rw [h3] at h2
    match i, h1, h2 with
    | 0, _, h2 => exact absurd h2 (by decide)
    | 1, _, h2 => exact absurd h2 (by decide)
/-- the second example: the last want is put out -/
theorem ex_least {x : Vec} (hx : AllocTo (eS 6000 1) eC eW x) : listV 2 x = [7000, 0] := by
  have hA := allocE_ok eAll6
  unfold AllocTo at hx
  rw [eAsk6] at hx
  have hf := eFill hA
  have m0 : minV (eS 6000 1).P eW 0 = 6000 := rfl
  have m1 : minV (eS 6000 1).P eW 1 = 6000 := rfl
  have c0 : vecL [7000, 7000] 0 = 7000 := rfl
  have c1 : vecL [7000, 7000] 1 = 7000 := rfl
  have f0 : fillX eW.length (siteV (eS 6000 1) eC eW) (vecL [7000, 7000]) 0 = 5000 := hf 0 (by decide)
  have f1 : fillX eW.length (siteV (eS 6000 1) eC eW) (vecL [7000, 7000]) 1 = 5000 := hf 1 (by decide)
  cases hx with
  | stop hn => exact absurd ⟨by rw [c0]; decide, by rw [f0, m0]; decide⟩ (hn 0 (by decide))
  | @next _ _ i hl h2 =>
    have h1 : i < 2 := hl.1
    have hi : i = 1 := by
      match i, h1, hl with
      | 0, _, hl => exact absurd ⟨by rw [c1]; decide, by rw [f1, m1]; decide⟩ (hl.2.2.2 1 (by decide) (by decide))
      | 1, _, _ => rfl
    subst hi
    have hd0 : updF (vecL [7000, 7000]) 1 0 0 = 7000 := rfl
    have hd1 : updF (vecL [7000, 7000]) 1 0 1 = 0 := rfl
    have hcap := capped_upd eCapd 1
    have hF : siteV (eS 6000 1) eC eW (updF (vecL [7000, 7000]) 1 0) = true := by
      refine (eSum hA _).2 ⟨fun j hj => ?_, by decide⟩
      match j, hj with
      | 0, _ => exact ⟨by decide, by decide⟩
      | 1, _ => exact ⟨by decide, by decide⟩
    have hall := fill_all (n := 2) (siteV_mono (eS 6000 1) eC eW) hcap hF
    have g0 : fillX eW.length (siteV (eS 6000 1) eC eW) (updF (vecL [7000, 7000]) 1 0) 0 = 7000 := hall 0 (by decide)
    have g1 : fillX eW.length (siteV (eS 6000 1) eC eW) (updF (vecL [7000, 7000]) 1 0) 1 = 0 := hall 1 (by decide)
    cases h2 with
    | stop _ =>
      rw [listV2]
      rw [show fillX eW.length (siteV (eS 6000 1) eC eW) (updF (vecL [7000, 7000]) 1 0) 0 = 7000 from g0, show fillX eW.length (siteV (eS 6000 1) eC eW) (updF (vecL [7000, 7000]) 1 0) 1 = 0 from g1]
    | @next _ _ j hl2 _ =>
      have h3 : j < 2 := hl2.1
      match j, h3, hl2 with
      | 0, _, hl2 => have := hl2.2.2.1; rw [g0, m0] at this; exact absurd this (by decide)
      | 1, _, hl2 => exact absurd hd1 hl2.2.1
/-- the third example: all phases -/
theorem ex_three {x : Vec} (hx : AllocTo (eS 0 7) eC3 eW3 x) : listV 1 x = [3333] := by
  have hA := allocE_ok eAll7
  have ea : askL (eS 0 7).P eW3 = [7000] := by decide +kernel
  unfold AllocTo at hx
  rw [ea] at hx
  have hcap : Capped 1 (vecL [7000]) := ⟨7000, fun i hi => by
    match i, hi with
    | 0, _ => exact ⟨by decide, by decide⟩⟩
  have hF := siteV_mono (eS 0 7) eC3 eW3
  have hz := siteV_zero hA
  have hc : ∀ v : Vec, capAt (eS 0 7).F (eS 0 7).P 0 (eW3.zip (listV eW3.length v)) = ⟨v 0, v 0, v 0, v 0 + v 0 + v 0⟩ := fun v => by
    have hp : wantPath (eS 0 7).F (eS 0 7).P ⟨0, 7, 7000⟩ = [0] := by
      show pathL eF 1 0 = [0]
      rw [pathL, dif_pos (by decide)]
      show [0] ++ pathL eF 0 (-1) = [0]
      rw [pathL_out (by omega)]
      rfl
    show capAt (eS 0 7).F (eS 0 7).P 0 [(⟨0, 7, 7000⟩, v 0)] = _
    rw [capAt_cons]
    unfold ctr
    rw [hp, if_pos (by simp)]
    simp only [capAt, List.foldl_nil, addC, zeroC, plusC]
    apply CapR.ext' <;> simp only <;> omega
  have hv : ∀ v : Vec, siteV (eS 0 7) eC3 eW3 v = true ↔ 0 ≤ v 0 ∧ v 0 ≤ 7000 ∧ v 0 + v 0 + v 0 ≤ 10000 := fun v => by
    rw [siteV_iff hA, over_nil (W := eW3) rfl]
    constructor
    · intro ⟨a, b⟩
      have a0 := a 0 (by decide)
      have g0 : greatW (eS 0 7).P (eW3[0]'(by decide)) = 7000 := rfl
      rw [g0] at a0
      have := b 0 (by decide)
      rw [hc] at this
      unfold overB eC3 at this
      simp only [List.getElem_cons_zero, Bool.or_eq_false_iff, decide_eq_false_iff_not] at this
      omega
    · intro ⟨a, b, d⟩
      refine ⟨fun i hi => ?_, fun i hi => ?_⟩
      · have hi0 : i = 0 := by have : i < 1 := hi; omega
        subst hi0
        show 0 ≤ v 0 ∧ v 0 ≤ 7000
        omega
      · have hi0 : i = 0 := by have : i < 1 := hi; omega
        subst hi0
        rw [hc]
        show overB ⟨9000, 9000, 9000, 10000⟩ _ = false
        unfold overB
        simp only [Bool.or_eq_false_iff, decide_eq_false_iff_not]
        omega
  have hfl := fillX_is hF hcap hz
  have e3 : fillX 1 (siteV (eS 0 7) eC3 eW3) (vecL [7000]) 0 = 3333 := by
    have h1 := (hv _).1 hfl.fit
    rcases hfl.out 0 (by decide) with g | g
    · have : vecL [7000] 0 = 7000 := rfl
      have h2 : fillX 1 (siteV (eS 0 7) eC3 eW3) (vecL [7000]) 0 = 7000 := g
      have h3 : fillX 1 (siteV (eS 0 7) eC3 eW3) (vecL [7000]) 0 + fillX 1 (siteV (eS 0 7) eC3 eW3) (vecL [7000]) 0 + fillX 1 (siteV (eS 0 7) eC3 eW3) (vecL [7000]) 0 ≤ 10000 := h1.2.2
      omega
    · have h2 : ¬ (siteV (eS 0 7) eC3 eW3 (updF (fillX 1 (siteV (eS 0 7) eC3 eW3) (vecL [7000])) 0 (fillX 1 (siteV (eS 0 7) eC3 eW3) (vecL [7000]) 0 + 1)) = true) := by
        intro h; exact absurd (h.symm.trans g) (by decide)
      rw [hv, upd_same] at h2
      have h3 : 0 ≤ fillX 1 (siteV (eS 0 7) eC3 eW3) (vecL [7000]) 0 ∧ fillX 1 (siteV (eS 0 7) eC3 eW3) (vecL [7000]) 0 ≤ 7000 ∧ fillX 1 (siteV (eS 0 7) eC3 eW3) (vecL [7000]) 0 + fillX 1 (siteV (eS 0 7) eC3 eW3) (vecL [7000]) 0 + fillX 1 (siteV (eS 0 7) eC3 eW3) (vecL [7000]) 0 ≤ 10000 := h1
      omega
  have m0 : minV (eS 0 7).P eW3 0 = 0 := rfl
  cases hx with
  | stop _ => show [_] = _; rw [show fillX eW3.length (siteV (eS 0 7) eC3 eW3) (vecL [7000]) 0 = 3333 from e3]
  | @next _ _ i hl _ =>
    have h1 : i = 0 := by have : i < 1 := hl.1; omega
    subst h1
    have := hl.2.2.1
    rw [m0, show fillX eW3.length (siteV (eS 0 7) eC3 eW3) (vecL [7000]) 0 = 3333 from e3] at this
    exact absurd this (by decide)
theorem ex_up : fitsB (eS 0 1) eC eW [5001, 5000] = false := by
  have hA := allocE_ok eAll0
  have h := eSum hA (vecL [5001, 5000])
  cases e : fitsB (eS 0 1) eC eW [5001, 5000] with
  | false => rfl
  | true =>
    have := (h.1 e).2
    exact absurd this (by decide)
theorem ex_fit : fitsB (eS 0 1) eC eW [5000, 5000] = true := by
  have hA := allocE_ok eAll0
  refine (eSum hA (vecL [5000, 5000])).2 ⟨fun i hi => ?_, by decide⟩
  match i, hi with
  | 0, _ => exact ⟨by decide, by decide⟩
  | 1, _ => exact ⟨by decide, by decide⟩

end Go.Proofs.YtlpjniejbblcnaaDoor
