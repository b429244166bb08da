/-
  Walks: the law AllocateFits.
-/
import Derived.Test.YtlpjniejbblcnaaDoorM14
namespace Go.Proofs.YtlpjniejbblcnaaDoor
open Go.RowKit Go.Lib Go.Maps
attribute [local go_sem] after_cell
set_option linter.unusedVariables false

def LawEndC (w : World) (e : Ending) (w' : World) : Prop := e = .returned (.bool true) ∧ Below w.heap.size w w'
theorem raise_vec {S : SiteR} {C : List CapR} {W : List WantR} {x : Vec} {k : Nat} (hk : k < W.length) : raiseB S C W (listV W.length x) k = (decide (x k < 1048576) && siteV S C W (updF x k (x k + 1))) := by
  have h : (listV W.length x).getD k 0 = x k := by rw [List.getD_eq_getElem?_getD, List.getElem?_eq_getElem (by rw [listV_len]; exact hk), Option.getD_some, listV_get]
  unfold raiseB siteV
  rw [h, listV_upd hk]

set_option maxRecDepth 100000 in
set_option maxHeartbeats 12800000 in
theorem lawFits17 (a : SiteV) (C : List CapR) (W : List WantR) (cv wv : Value) (w : World) (hI : SiteIn w a) (hC : IsSl w 4 cv (C.map CapR.cells)) (hW : IsSl w 3 wv (W.map WantR.cells)) (fW : ∀ x ∈ W, I64 x.phases) :
    Calls Tryd.prog 5 #[.agg #[.string a.S.name, a.fv, a.pv], cv, wv] w (LawEndC w) := by
  obtain ⟨S, fv, pv⟩ := a
  obtain ⟨hF, hP, hn, fF, fP⟩ := hI
  simp only at hF hP hn fF fP ⊢
  obtain ⟨A, c, rfl, hlc, hcm, hsl⟩ := islen' hF
  obtain ⟨B, d, rfl, hld, hdm, hsp⟩ := islen' hP
  obtain ⟨C', c', rfl, hlc', hcm', hsc⟩ := islen' hC
  obtain ⟨D, d', rfl, hld', hdm', hsw⟩ := islen' hW
  obtain ⟨W0, hW0, hb0, hg0, hx0⟩ := box1 w #[.string S.name, .slice A S.F.length c, .slice B S.P.length d] 30
  have HF := Lib.hid (hF.below hb0)
  have HP := Lib.hid (hP.below hb0)
  have HC := Lib.hid (hC.below hb0)
  have HW := Lib.hid (hW.below hb0)
  have HN := Lib.hid (And.intro hn (And.intro fF fP))
  clear hF hP hC hW hsl hsp hsc hsw hlc hld hlc' hld' hcm hdm hcm' hdm' hn fF fP
  have HBG := Lib.hid (big_any S C W _ _ _ _ W0 HF.out HP.out HC.out HW.out)
  go_enter Tryd.func5, Tryd.ntmps5
  go_wp2_with fail
  rw [← hW0]
  clear hW0
  refine HBG.out.mono ?_
  rintro e w1 ⟨hb1, b, rfl, hbig⟩
  cases b with
  | true =>
    go_wp2_with fail
    refine (ex17Holds_any _).mono ?_
    rintro e w2 ⟨rfl, hb2⟩
    go_wp2_with fail
    go_ret
    exact ⟨rfl, below_step hb0 (below_step hb1 hb2)⟩
  | false =>
    have HSZ := Lib.hid (hbig rfl)
    clear hbig HBG
    have hx1 := fun j => (hb1.cell (p := ⟨w.heap.size, j, none⟩) hg0).trans (hx0 j)
    have hg1 : w.heap.size < w1.heap.size := Nat.lt_of_lt_of_le hg0 hb1.size
    go_wp2_with fail
    refine (arun_any S C W _ _ _ _ w1 (HF.out.below hb1) (HP.out.below hb1) (HC.out.below hb1) (HW.out.below hb1) HN.out.1 HN.out.2.1 HN.out.2.2 (by have := HSZ.out; omega) (by have := HSZ.out; omega)).mono ?_
    rintro e w2 ⟨hb2, hp2⟩
    have hb02 := below_step hb1 hb2
    have hx2 := fun j => (hb2.cell (p := ⟨w.heap.size, j, none⟩) hg1).trans (hx1 j)
    have hg2 : w.heap.size < w2.heap.size := Nat.lt_of_lt_of_le hg1 hb2.size
    rcases hp2 with ⟨hne, rfl⟩ | ⟨h0, v2, x2, rfl, hx2', hs2, hf2⟩
    · go_wp2_with fail
      refine (ex17Holds_any _).mono ?_
      rintro e w5 ⟨rfl, hb5⟩
      go_wp2_with fail
      go_ret
      exact ⟨rfl, below_step hb0 (below_step hb02 hb5)⟩
    · have HA := Lib.hid (allocE_ok h0)
      have HK := Lib.hid (alloc_kept HA.out hx2')
      have HS2 := Lib.hid hs2
      obtain ⟨G, g, hv2, hg1', hg2', hsx⟩ := islen' hs2
      subst hv2
      rw [listV_len]
      rw [listV_len] at HS2
      have hsx' := hsx
      have HSX := Lib.hid hsx
      have HFT := Lib.hid (fits_any S C W (listV W.length x2) _ _ _ _ _ w2 (HF.out.below hb02) (HP.out.below hb02) (HC.out.below hb02) (HW.out.below hb02) HS2.out HN.out.1 HN.out.2.1 HN.out.2.2 fW (by have := HSZ.out; omega) (by have := HSZ.out; omega) (by rw [listV_len]; have := HSZ.out; omega))
      have hft : fitsB S C W (listV W.length x2) = true := HK.out.fit
      rw [hft] at HFT
      have hne : ((W.length : Int) != (W.length : Int)) = false := by simp
      clear hs2 hsx hft hx2' hf2 hg1' hg2'
      go_wp2_with (go_at_call 15; refine HFT.out.mono ?_; rintro e w3 ⟨rfl, hb3⟩)
      have hb03 := below_step hb02 hb3
      have hx3 := fun j => (hb3.cell (p := ⟨w.heap.size, j, none⟩) hg2).trans (hx2 j)
      have HF3 := Lib.hid (HF.out.below hb03)
      have HP3 := Lib.hid (HP.out.below hb03)
      have HC3 := Lib.hid (HC.out.below hb03)
      have HW3 := Lib.hid (HW.out.below hb03)
      have HS3 := Lib.hid (HS2.out.below hb3)
      obtain ⟨_, _, e3, _, _, hsp⟩ := islen' HP3.out
      obtain ⟨_, _, e4, _, _, hsw⟩ := islen' HW3.out
      injection e3 with e5 _ e6
      injection e4 with e7 _ e8
      subst e5 e6 e7 e8
      have HSP := Lib.hid hsp
      have HSW := Lib.hid hsw
      have HSX3 := Lib.hid (hsx'.below hb3)
      have hg3 : w.heap.size < w3.heap.size := Nat.lt_of_lt_of_le hg2 hb3.size
      clear hsp hsw HF HP HC HW HFT HS2 HSX hsx' hx2 hx1 hx0
      have hlW : W.length ≤ 40 := HSZ.out.2.2.2
      go_loopw [47] (fun i wr => ∃ k : Nat, k ≤ W.length ∧ i = .int .i64 k ∧ Below w3.heap.size w3 wr) (fun i _ => W.length - (intOf i).toNat)
      case atStart => exact ⟨0, by omega, rfl, Below.refl _ _⟩
      case round =>
        obtain ⟨k, hk, rfl, hbw⟩ := hrel
        obtain ⟨hc, hf⟩ := bcell hbw
        by_cases hlt : k < W.length
        · have hki : (k : Int) < (W.length : Int) := by omega
          have HWT := Lib.hid (HA.out.want hlt).1
          have hp0 := HWT.out.p0
          obtain ⟨j, hj⟩ : ∃ j : Nat, W[k].point = j := ⟨W[k].point.toNat, by omega⟩
          have hjl : j < S.P.length := by have := HWT.out.p1; rw [hj] at this; simpa using this
          have hjli : (j : Int) < (S.P.length : Int) := by omega
          obtain ⟨bw, offw, hD, hbb, c0, c1, c2⟩ := want_at HSW.out hlt
          obtain ⟨bp, offp, hB, hbp, e0, e1, e2, e3, e4⟩ := pnt_at HSP.out hjl
          obtain ⟨bx, offx, hG, hbx, x0⟩ := vec_at HSX3.out hlt
          subst hD hB hG
          rw [hj] at c0
          have C0 := (hbw.cell (p := ⟨bw, offw + k * 3, none⟩) hbb).trans c0
          have C2 := (hbw.cell (p := ⟨bw, offw + k * 3 + 2, none⟩) hbb).trans c2
          have E0 := (hbw.cell (p := ⟨bp, offp + j * 5, none⟩) hbp).trans e0
          have E1 := (hbw.cell (p := ⟨bp, offp + j * 5 + 1, none⟩) hbp).trans e1
          have E2 := (hbw.cell (p := ⟨bp, offp + j * 5 + 2, none⟩) hbp).trans e2
          have E3 := (hbw.cell (p := ⟨bp, offp + j * 5 + 3, none⟩) hbp).trans e3
          have E4 := (hbw.cell (p := ⟨bp, offp + j * 5 + 4, none⟩) hbp).trans e4
          have X0 := (hbw.cell (p := ⟨bx, offx + k, none⟩) hbx).trans x0
          have Y0 := fun j => (hbw.cell (p := ⟨w.heap.size, j, none⟩) hg3).trans (hx3 j)
          have hzw := hbw.size
          have k1 : bw < wr.heap.size := by omega
          have k2 : bp < wr.heap.size := by omega
          have k3 : bx < wr.heap.size := by omega
          have k4 : w.heap.size < wr.heap.size := by omega
          have HRG := Lib.hid (HK.out.rng k hlt)
          have HLE := Lib.hid (HK.out.least k hlt)
          have HMO := Lib.hid (HK.out.more k hlt)
          have HGE : Hid (min W[k].top S.P[j].rated = greatW S.P W[k] ∧ (pntOf S.P W[k]).least = S.P[j].least) := by
            have h : pntOf S.P W[k] = S.P[j] := by rw [pntOf_eq HWT.out.p1]; simp only [hj, Int.toNat_natCast]
            unfold Hid greatW; rw [h]; exact ⟨rfl, rfl⟩
          have HRV := Lib.hid (raise_vec (S := S) (C := C) (x := x2) hlt)
          have hbr := Below.refl wr.heap.size wr
          clear hc hf c0 c1 c2 e0 e1 e2 e3 e4 x0
          have HBW := Lib.hid hbw
          have HLT := Lib.hid hlt
          have HX0 := Lib.hid X0
          have HC2' := Lib.hid C2
          have HY0 := Lib.hid Y0
          go_wp2_with fail
          go_cut [10] (fun p wx => ∃ pb, p = .pointer (some ⟨pb, 0, none⟩) ∧ Below wr.heap.size wr wx ∧ wr.heap.size ≤ pb ∧ Blk wx pb 34 S.P[j].cells)
          case first =>
            go_region
            all_goals
              go_wp2_with fail
              go_meet
              exact ⟨_, rfl, by repeat (first | exact Below.refl _ _ | refine below_alloc ?_ _ | refine below_drew ?_), by simp, by repeat (first | (refine Blk.new' ?_ _ _ rfl; simp; done) | refine Blk.alloc ?_ _ | refine Blk.drew ?_)⟩
          case rest =>
            obtain ⟨pb, rfl, hbx', hpb, HB⟩ := hcut
            have hz4 := hbx'.size
            have P0 : wc.cell? ⟨pb, 3, none⟩ = some (.int .i64 S.P[j].rated) := (HB.cell 3).trans rfl
            have P1 : wc.cell? ⟨pb, 4, none⟩ = some (.int .i64 S.P[j].least) := (HB.cell 4).trans rfl
            have hpl := HB.lt
            have Z0 := (hbx'.cell (p := ⟨bx, offx + k, none⟩) k3).trans X0
            have D0 := (hbx'.cell (p := ⟨bw, offw + k * 3 + 2, none⟩) k1).trans C2
            have V0 := fun j => (hbx'.cell (p := ⟨w.heap.size, j, none⟩) k4).trans (Y0 j)
            have n1 : bw < wc.heap.size := by omega
            have n3 : bx < wc.heap.size := by omega
            have n4 : w.heap.size < wc.heap.size := by omega
            have hb3c := hbw.trans (hbx'.mono hzw)
            have HRA := Lib.hid (fun w' (h : Below wc.heap.size wc w') => araise_any S C W (listV W.length x2) k _ _ _ _ _ w' ((HF3.out.below hb3c).below h) ((HP3.out.below hb3c).below h) ((HC3.out.below hb3c).below h) ((HW3.out.below hb3c).below h) ((HS3.out.below hb3c).below h) HN.out.1 HN.out.2.1 HN.out.2.2 fW (by rw [listV_len]) hlt (by have := HSZ.out; omega) (by have := HSZ.out; omega) (by rw [List.getD_eq_getElem?_getD, List.getElem?_eq_getElem (by rw [listV_len]; exact hlt), Option.getD_some, listV_get]; exact HRG.out.1))
            rw [HRV.out] at HRA
            have hbc := Below.refl wc.heap.size wc
            clear HB X0 C0 C2 E0 E1 E2 E3 E4 Y0 HX0 HC2' HY0 HBW hbx' hbr k1 k2 k3 k4 HRV
            obtain ⟨hge1, hge2⟩ := HGE.out
            have HRG2 : Hid (0 ≤ x2 k ∧ x2 k ≤ greatW S.P W[k]) := HRG.out
            have hrg := HRG.out
            have hle := HLE.out
            have hmo := HMO.out
            rw [hge2] at hle hmo
            generalize siteV S C W (updF x2 k (x2 k + 1)) = sv at *
            generalize x2 k = v at *
            generalize S.P[j].least = le at *
            generalize S.P[j].rated = rt at *
            generalize W[k].top = tp at *
            generalize greatW S.P W[k] = gr at *
            have HCASE : (v = 0 ∧ ¬ v < gr) ∨ (v ≠ 0 ∧ le ≤ v ∧ ¬ v < gr) ∨ (v ≠ 0 ∧ le ≤ v ∧ v < gr ∧ 0 < v ∧ sv = false) ∨ (v = 0 ∧ v < gr ∧ le = 0 ∧ sv = false) ∨ (v = 0 ∧ v < gr ∧ le ≠ 0) := by
              by_cases a1 : v = 0
              · by_cases a2 : v < gr
                · by_cases a3 : le = 0
                  · exact .inr (.inr (.inr (.inl ⟨a1, a2, a3, hmo a2 (.inr a3)⟩)))
                  · exact .inr (.inr (.inr (.inr ⟨a1, a2, a3⟩)))
                · exact .inl ⟨a1, a2⟩
              · by_cases a2 : v < gr
                · exact .inr (.inr (.inl ⟨a1, hle a1, a2, by omega, hmo a2 (.inl (by omega))⟩))
                · exact .inr (.inl ⟨a1, hle a1, a2⟩)
            have HRT := Lib.hid hge1
            clear hle hmo hge1 hge2 HGE HLE HMO HRG
            go_wp2_with fail
            (refine wp_region_kept wc (by kernel_rfl) (by kernel_rfl) (by assumption) ?_; (repeat (go_big_quiet_step ((first | fail)))); refine wpQuiet_nil ?_; intro _ hw'; obtain ⟨x9, hw''⟩ := hw'; subst hw''; have hk9 := after_kept x9; generalize after x9 = w9 at *)
            obtain ⟨hc9, hb9⟩ := hk9
            have P9 := (hc9 pb 4 hpl).trans P1
            have Z9 := (hc9 bx _ n3).trans Z0
            have V9 := fun j => (hc9 w.heap.size j n4).trans (V0 j)
            have hz9 := hb9.size
            have m2 : pb < w9.heap.size := by omega
            have m3 : bx < w9.heap.size := by omega
            have m4 : w.heap.size < w9.heap.size := by omega
            have hbr9 := Below.refl w9.heap.size w9
            have HB9 := Lib.hid (hb3c.trans (hb9.mono (by have := hb3c.size; omega)))
            have HRA9 := Lib.hid (fun w' (h : Below w9.heap.size w9 w') => HRA.out w' (below_step hb9 h))
            clear hc9 HRA P0 P1 Z0 D0 V0 hbc
            rw [HRT.out]
            rcases HCASE with ⟨a1, a2⟩ | ⟨a1, a2, a3⟩ | ⟨a1, a2, a3, a4, a5⟩ | ⟨a1, a2, a3, a4⟩ | ⟨a1, a2, a3⟩
            · subst a1
              have q1 : ((0 : Int) != 0) = false := rfl
              have q2 : decide ((0 : Int) < gr) = false := decide_eq_false (by omega)
              go_wp2_with fail
              generalize hwk : w9 = wk at *
              clear hwk
              (refine wp_region_kept wk (by kernel_rfl) (by kernel_rfl) (by assumption) ?_; (repeat (go_big_quiet_step ((first | fail)))); refine wpQuiet_nil ?_; intro _ hw'; obtain ⟨x9, hw''⟩ := hw'; subst hw''; have hk9 := after_kept x9; generalize after x9 = w9 at *)
              obtain ⟨hc9, hb9'⟩ := hk9
              have P8 := (hc9 pb 4 m2).trans P9
              have Z8 := (hc9 bx _ m3).trans Z9
              have V8 := fun j => (hc9 w.heap.size j m4).trans (V9 j)
              have hz8 := hb9'.size
              have l2 : pb < w9.heap.size := by omega
              have l3 : bx < w9.heap.size := by omega
              have l4 : w.heap.size < w9.heap.size := by omega
              have hbr8 := Below.refl w9.heap.size w9
              have HRA8 := Lib.hid (fun w' (h : Below w9.heap.size w9 w') => HRA9.out w' (below_step hb9' h))
              have HB8 := Lib.hid (HB9.out.trans (hb9'.mono HB9.out.size))
              clear hc9 P9 Z9 V9 hbr9 m2 m3 m4
              have HB7 := HB8
              go_wp2_with fail
              go_roundw
              case measure =>
                have := HLT.out
                simp [intOf] <;> omega
              case rel => exact ⟨k + 1, HLT.out, by go_num, HB7.out⟩
            · have q1 : (v != 0) = true := by simpa using a1
              have q3 : decide (v < le) = false := decide_eq_false (by omega)
              have q4 : decide (gr < v) = false := decide_eq_false (by have := HRG2.out; omega)
              have q2 : decide (v < gr) = false := decide_eq_false (by omega)
              go_wp2_with fail
              generalize hwk : w9 = wk at *
              clear hwk
              (refine wp_region_kept wk (by kernel_rfl) (by kernel_rfl) (by assumption) ?_; (repeat (go_big_quiet_step ((first | fail)))); refine wpQuiet_nil ?_; intro _ hw'; obtain ⟨x9, hw''⟩ := hw'; subst hw''; have hk9 := after_kept x9; generalize after x9 = w9 at *)
              obtain ⟨hc9, hb9'⟩ := hk9
              have P8 := (hc9 pb 4 m2).trans P9
              have Z8 := (hc9 bx _ m3).trans Z9
              have V8 := fun j => (hc9 w.heap.size j m4).trans (V9 j)
              have hz8 := hb9'.size
              have l2 : pb < w9.heap.size := by omega
              have l3 : bx < w9.heap.size := by omega
              have l4 : w.heap.size < w9.heap.size := by omega
              have hbr8 := Below.refl w9.heap.size w9
              have HRA8 := Lib.hid (fun w' (h : Below w9.heap.size w9 w') => HRA9.out w' (below_step hb9' h))
              have HB8 := Lib.hid (HB9.out.trans (hb9'.mono HB9.out.size))
              clear hc9 P9 Z9 V9 hbr9 m2 m3 m4
              have HB7 := HB8
              go_wp2_with fail
              go_roundw
              case measure =>
                have := HLT.out
                simp [intOf] <;> omega
              case rel => exact ⟨k + 1, HLT.out, by go_num, HB7.out⟩
            · subst a5
              simp only [Bool.and_false] at HRA9
              have q1 : (v != 0) = true := by simpa using a1
              have q3 : decide (v < le) = false := decide_eq_false (by omega)
              have q4 : decide (gr < v) = false := decide_eq_false (by omega)
              have q2 : decide (v < gr) = true := decide_eq_true a3
              have q5 : decide (0 < v) = true := decide_eq_true a4
              go_wp2_with fail
              generalize hwk : w9 = wk at *
              clear hwk
              (refine wp_region_kept wk (by kernel_rfl) (by kernel_rfl) (by assumption) ?_; (repeat (go_big_quiet_step ((first | fail)))); refine wpQuiet_nil ?_; intro _ hw'; obtain ⟨x9, hw''⟩ := hw'; subst hw''; have hk9 := after_kept x9; generalize after x9 = w9 at *)
              obtain ⟨hc9, hb9'⟩ := hk9
              have P8 := (hc9 pb 4 m2).trans P9
              have Z8 := (hc9 bx _ m3).trans Z9
              have V8 := fun j => (hc9 w.heap.size j m4).trans (V9 j)
              have hz8 := hb9'.size
              have l2 : pb < w9.heap.size := by omega
              have l3 : bx < w9.heap.size := by omega
              have l4 : w.heap.size < w9.heap.size := by omega
              have hbr8 := Below.refl w9.heap.size w9
              have HRA8 := Lib.hid (fun w' (h : Below w9.heap.size w9 w') => HRA9.out w' (below_step hb9' h))
              have HB8 := Lib.hid (HB9.out.trans (hb9'.mono HB9.out.size))
              clear hc9 P9 Z9 V9 hbr9 m2 m3 m4
              go_wp2_with (go_at_call 16; refine (HRA8.out _ (Below.refl _ _)).mono ?_; rintro e w7 ⟨rfl, hb7⟩; have HB7 := Lib.hid (HB8.out.trans (hb7.mono HB8.out.size)))
              go_roundw
              case measure =>
                have := HLT.out
                simp [intOf] <;> omega
              case rel => exact ⟨k + 1, HLT.out, by go_num, HB7.out⟩
            · subst a1
              subst a3
              subst a4
              simp only [Bool.and_false] at HRA9
              have q1 : ((0 : Int) != 0) = false := rfl
              have q2 : decide ((0 : Int) < gr) = true := decide_eq_true a2
              have q6 : ((0 : Int) == 0) = true := rfl
              go_wp2_with fail
              generalize hwk : w9 = wk at *
              clear hwk
              (refine wp_region_kept wk (by kernel_rfl) (by kernel_rfl) (by assumption) ?_; (repeat (go_big_quiet_step ((first | fail)))); refine wpQuiet_nil ?_; intro _ hw'; obtain ⟨x9, hw''⟩ := hw'; subst hw''; have hk9 := after_kept x9; generalize after x9 = w9 at *)
              obtain ⟨hc9, hb9'⟩ := hk9
              have P8 := (hc9 pb 4 m2).trans P9
              have Z8 := (hc9 bx _ m3).trans Z9
              have V8 := fun j => (hc9 w.heap.size j m4).trans (V9 j)
              have hz8 := hb9'.size
              have l2 : pb < w9.heap.size := by omega
              have l3 : bx < w9.heap.size := by omega
              have l4 : w.heap.size < w9.heap.size := by omega
              have hbr8 := Below.refl w9.heap.size w9
              have HRA8 := Lib.hid (fun w' (h : Below w9.heap.size w9 w') => HRA9.out w' (below_step hb9' h))
              have HB8 := Lib.hid (HB9.out.trans (hb9'.mono HB9.out.size))
              clear hc9 P9 Z9 V9 hbr9 m2 m3 m4
              go_wp2_with (go_at_call 16; refine (HRA8.out _ (Below.refl _ _)).mono ?_; rintro e w7 ⟨rfl, hb7⟩; have HB7 := Lib.hid (HB8.out.trans (hb7.mono HB8.out.size)))
              go_roundw
              case measure =>
                have := HLT.out
                simp [intOf] <;> omega
              case rel => exact ⟨k + 1, HLT.out, by go_num, HB7.out⟩
            · subst a1
              have q1 : ((0 : Int) != 0) = false := rfl
              have q2 : decide ((0 : Int) < gr) = true := decide_eq_true a2
              have q6 : (le == 0) = false := by simpa using a3
              go_wp2_with fail
              generalize hwk : w9 = wk at *
              clear hwk
              (refine wp_region_kept wk (by kernel_rfl) (by kernel_rfl) (by assumption) ?_; (repeat (go_big_quiet_step ((first | fail)))); refine wpQuiet_nil ?_; intro _ hw'; obtain ⟨x9, hw''⟩ := hw'; subst hw''; have hk9 := after_kept x9; generalize after x9 = w9 at *)
              obtain ⟨hc9, hb9'⟩ := hk9
              have P8 := (hc9 pb 4 m2).trans P9
              have Z8 := (hc9 bx _ m3).trans Z9
              have V8 := fun j => (hc9 w.heap.size j m4).trans (V9 j)
              have hz8 := hb9'.size
              have l2 : pb < w9.heap.size := by omega
              have l3 : bx < w9.heap.size := by omega
              have l4 : w.heap.size < w9.heap.size := by omega
              have hbr8 := Below.refl w9.heap.size w9
              have HRA8 := Lib.hid (fun w' (h : Below w9.heap.size w9 w') => HRA9.out w' (below_step hb9' h))
              have HB8 := Lib.hid (HB9.out.trans (hb9'.mono HB9.out.size))
              clear hc9 P9 Z9 V9 hbr9 m2 m3 m4
              have HB7 := HB8
              go_wp2_with fail
              go_roundw
              case measure =>
                have := HLT.out
                simp [intOf] <;> omega
              case rel => exact ⟨k + 1, HLT.out, by go_num, HB7.out⟩
        · have hki : ¬ (k : Int) < (W.length : Int) := by omega
          go_wp2_with fail
          go_ret
          exact ⟨rfl, below_step hb0 (below_step hb03 hbw)⟩

end Go.Proofs.YtlpjniejbblcnaaDoor
