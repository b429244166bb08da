/-
  Walks: the law AllocationsKeep.
-/
import Derived.Test.YtlpjniejbblcnaaDoorM14
import Derived.Test.YtlpjniejbblcnaaDoorWLmt12K
import Derived.Test.YtlpjniejbblcnaaDoorPKeep
namespace Go.Proofs.YtlpjniejbblcnaaDoor
open Go.RowKit Go.Lib Go.Maps
attribute [local go_sem] after_cell
set_option linter.unusedVariables false

def LawEndK (w : World) (e : Ending) (w' : World) : Prop := e = .returned (.bool true) ∧ Below w.heap.size w w'
theorem raise_vecK {S : SiteR} {C : List CapR} {W : List WantR} {x : Vec} {k : Nat} (hk : k < W.length) : raiseB S C W (listV W.length x) k = (decide (x k < 1048576) && siteV S C W (updF x k (x k + 1))) := by
  have h : (listV W.length x).getD k 0 = x k := by rw [List.getD_eq_getElem?_getD, List.getElem?_eq_getElem (by rw [listV_len]; exact hk), Option.getD_some, listV_get]
  unfold raiseB siteV
  rw [h, listV_upd hk]

set_option maxRecDepth 100000 in
set_option maxHeartbeats 12800000 in
theorem lawKeep (r : RulR) (fv pv cv uv : Value) (W : List WantR) (wv : Value) (t : Int) (w : World) (hv : LenV w) (hI : LimIn w r fv pv cv uv) (hW : IsSl w 3 wv (W.map WantR.cells)) (fW : ∀ x ∈ W, I64 x.phases) :
    Calls Tryd.prog 8 #[.agg #[.string r.S.name, fv, pv, .int .i64 r.z.off, .bool r.z.sum, cv, uv], wv, .int .i64 t] w (LawEndK w) := by
  have HI := Lib.hid hI
  obtain ⟨A, B, C, D, a, b, c, d, rfl, rfl, rfl, rfl, hA⟩ := hI.ad
  obtain ⟨E, e', rfl, hle', hem', hsw⟩ := islen' hW
  obtain ⟨W0, hW0, hb0, hg0, hx0⟩ := box1 w #[.string r.S.name, .slice A r.S.F.length a, .slice B r.S.P.length b, .int .i64 r.z.off, .bool r.z.sum, .slice C r.C.length c, .slice D r.U.length d] 56
  have HI0 := Lib.hid (HI.out.below hb0)
  have HV0 := Lib.hid (hv.below hb0)
  have HW0 := Lib.hid (hW.below hb0)
  clear hA hI hv hW hsw hle' hem'
  have hcase : (6 : Int) < r.S.F.length ∨ (¬ (6 : Int) < r.S.F.length ∧ (10 : Int) < r.S.P.length) ∨ (¬ (6 : Int) < r.S.F.length ∧ ¬ (10 : Int) < r.S.P.length ∧ (4 : Int) < r.C.length) ∨ (¬ (6 : Int) < r.S.F.length ∧ ¬ (10 : Int) < r.S.P.length ∧ ¬ (4 : Int) < r.C.length ∧ (4 : Int) < r.U.length) ∨
      (¬ (6 : Int) < r.S.F.length ∧ ¬ (10 : Int) < r.S.P.length ∧ ¬ (4 : Int) < r.C.length ∧ ¬ (4 : Int) < r.U.length ∧ (10 : Int) < W.length) ∨ (¬ (6 : Int) < r.S.F.length ∧ ¬ (10 : Int) < r.S.P.length ∧ ¬ (4 : Int) < r.C.length ∧ ¬ (4 : Int) < r.U.length ∧ ¬ (10 : Int) < W.length ∧ t < 0) ∨
      (¬ (6 : Int) < r.S.F.length ∧ ¬ (10 : Int) < r.S.P.length ∧ ¬ (4 : Int) < r.C.length ∧ ¬ (4 : Int) < r.U.length ∧ ¬ (10 : Int) < W.length ∧ ¬ t < 0 ∧ 1000000 < t) ∨ (¬ (6 : Int) < r.S.F.length ∧ ¬ (10 : Int) < r.S.P.length ∧ ¬ (4 : Int) < r.C.length ∧ ¬ (4 : Int) < r.U.length ∧ ¬ (10 : Int) < W.length ∧ ¬ t < 0 ∧ ¬ 1000000 < t) := by omega
  rcases hcase with h1 | ⟨h1, h2⟩ | ⟨h1, h2, h3⟩ | ⟨h1, h2, h3, h4⟩ | ⟨h1, h2, h3, h4, h5⟩ | ⟨h1, h2, h3, h4, h5, h6⟩ | ⟨h1, h2, h3, h4, h5, h6, h7⟩ | ⟨h1, h2, h3, h4, h5, h6, h7⟩
  iterate 7
    · go_enter Tryd.func8, Tryd.ntmps8
      go_wp2_with fail
      go_ret
      exact ⟨rfl, by rw [← hW0]; exact hb0⟩
  have HSZ : Hid (r.S.F.length ≤ 6 ∧ r.S.P.length ≤ 10 ∧ W.length ≤ 10 ∧ 0 ≤ t ∧ t ≤ 1000000) := by unfold Hid; omega
  have HVA := Lib.hid (limValid_any r _ _ _ _ W0 HI0.out)
  cases hlim : (limE r != 0) with
  | true =>
    go_enter Tryd.func8, Tryd.ntmps8
    go_wp2_with fail
    rw [← hW0]
    clear hW0
    refine HVA.out.mono ?_
    rintro e w1 ⟨rfl, hb1⟩
    go_wp2_with fail
    go_ret
    exact ⟨rfl, below_step hb0 hb1⟩
  | false =>
  have hl0 : limE r = 0 := by simpa using hlim
  have HL0 := Lib.hid hl0
  have HAE := Lib.hid (atE_ok hl0 (timeB_t (t := t) (by omega) (by omega)))
  have HAL := Lib.hid (atL_ok HAE.out)
  go_enter Tryd.func8, Tryd.ntmps8
  go_wp2_with fail
  rw [← hW0]
  clear hW0 hl0
  refine HVA.out.mono ?_
  rintro e w1 ⟨rfl, hb1⟩
  have y1 := fun j => (hb1.cell (p := ⟨w.heap.size, j, none⟩) hg0).trans (hx0 j)
  have g1 : w.heap.size < w1.heap.size := Nat.lt_of_lt_of_le hg0 hb1.size
  go_wp2_with fail
  refine (limAt_any r _ _ _ _ t w1 (HV0.out.below hb1) (HI0.out.below hb1)).mono ?_
  rintro e w2 ⟨v2, rfl, hs2, hb2⟩
  rw [HAE.out]
  rw [HAL.out] at hs2
  have HC2 := Lib.hid hs2
  have hb02 := below_step hb1 hb2
  have y2 := fun j => (hb2.cell (p := ⟨w.heap.size, j, none⟩) g1).trans (y1 j)
  have g2 : w.heap.size < w2.heap.size := Nat.lt_of_lt_of_le g1 hb2.size
  clear hs2 HVA
  have HI2 := Lib.hid (HI0.out.below hb02)
  go_wp2_with fail
  refine (arun_any r.S (capsL r t) W _ _ _ _ w2 HI2.out.hF HI2.out.hP HC2.out (HW0.out.below hb02) HI2.out.hn HI2.out.fF HI2.out.fP (by rw [capsL_len]; have := HSZ.out; omega) (by have := HSZ.out; omega)).mono ?_
  rintro e w3 ⟨hb3, hp3⟩
  have hb03 := below_step hb02 hb3
  rcases hp3 with ⟨hne, rfl⟩ | ⟨h0, v3, x3, rfl, hx3, hs3, hf3⟩
  · go_wp2_with fail
    go_ret
    exact ⟨rfl, below_step hb0 hb03⟩
  · have HA := Lib.hid (allocE_ok h0)
    have HK := Lib.hid (alloc_kept HA.out hx3)
    have HMO := Lib.hid (fun (i : Nat) (hi : i < W.length) (h : 0 < x3 i) => keep_more HA.out hx3 hi h)
    have HPT := Lib.hid (fun (f : Nat) (hf : f < r.S.F.length) => keep_path HA.out HK.out.fit (fun i hi => (HK.out.rng i hi).1) HL0.out (by have := HSZ.out; omega) hf)
    have HLE := Lib.hid (load_ok HA.out (v := x3) (fun i hi => by have := HK.out.rng i hi; have := great_bd HA.out hi; omega))
    have HS3 := Lib.hid hs3
    obtain ⟨G, g, hv3, _, _, hsx⟩ := islen' hs3
    subst hv3
    rw [listV_len]
    rw [listV_len] at HS3
    have HSX := Lib.hid hsx
    have y3 := fun j => (hb3.cell (p := ⟨w.heap.size, j, none⟩) g2).trans (y2 j)
    have g3 : w.heap.size < w3.heap.size := Nat.lt_of_lt_of_le g2 hb3.size
    have HI3 := Lib.hid (HI0.out.below hb03)
    have HV3 := Lib.hid (HV0.out.below hb03)
    have HW3 := Lib.hid (HW0.out.below hb03)
    have HC3 := Lib.hid (HC2.out.below hb3)
    have HFT := Lib.hid (fits_any r.S (capsL r t) W (listV W.length x3) _ _ _ _ _ w3 HI3.out.hF HI3.out.hP HC3.out HW3.out HS3.out HI3.out.hn HI3.out.fF HI3.out.fP fW (by rw [capsL_len]; have := HSZ.out; omega) (by have := HSZ.out; omega) (by rw [listV_len]; have := HSZ.out; omega))
    have hft : fitsB r.S (capsL r t) W (listV W.length x3) = true := HK.out.fit
    rw [hft] at HFT
    have hne : ((W.length : Int) != (W.length : Int)) = false := by simp
    clear hs3 hsx hft hx3 hf3 y1 y2 hx0 h0
    go_wp2_with (go_at_call 15; refine HFT.out.mono ?_; rintro e w4 ⟨rfl, hb4⟩; have y4 := fun j => (hb4.cell (p := ⟨w.heap.size, j, none⟩) g3).trans (y3 j); have g4 : w.heap.size < w4.heap.size := Nat.lt_of_lt_of_le g3 hb4.size)
    have hb04 := below_step hb03 hb4
    have HI4 := Lib.hid (HI0.out.below hb04)
    have HS4 := Lib.hid (HS3.out.below hb4)
    refine (load_any r.S W (listV W.length x3) _ _ _ _ w4 HI4.out.hF HI4.out.hP (HW0.out.below hb04) HS4.out HI4.out.hn HI4.out.fF HI4.out.fP fW (by have := HSZ.out; omega) (by rw [listV_len]; have := HSZ.out; omega)).mono ?_
    rintro e w5 ⟨v5, rfl, hs5, hb5⟩
    rw [HLE.out]
    rw [loadsOf_ok HLE.out] at hs5
    obtain ⟨L5, l5, hv5, _, _, hsl5⟩ := islen' hs5
    have hv5' : v5 = .slice L5 r.S.F.length l5 := by rw [hv5, loadL_len]
    subst hv5'
    have hb05 := below_step hb04 hb5
    have y5 := fun j => (hb5.cell (p := ⟨w.heap.size, j, none⟩) g4).trans (y4 j)
    have g5 : w.heap.size < w5.heap.size := Nat.lt_of_lt_of_le g4 hb5.size
    have HSL5 := Lib.hid hsl5
    have HSX5 := Lib.hid ((HSX.out.below hb4).below hb5)
    have HS5 := Lib.hid (HS4.out.below hb5)
    have hlF : r.S.F.length ≤ 6 := HSZ.out.1
    have hlW : W.length ≤ 10 := HSZ.out.2.2.1
    clear hs5 hsl5 hv5 y3 y4 HSX HS3 HS4 HFT HI2 HI3 HI4
    go_wp2_with fail
    go_loopw [103] (fun i wi => ∃ k : Nat, k ≤ r.S.F.length ∧ i = .int .i64 k ∧ Below w5.heap.size w5 wi) (fun i _ => r.S.F.length - (intOf i).toNat)
    case atStart => exact ⟨0, by omega, rfl, Below.refl _ _⟩
    case round =>
      obtain ⟨k, hk, rfl, hbw⟩ := hrel
      obtain ⟨hc, hf⟩ := bcell hbw
      by_cases hlt : k < r.S.F.length
      · have hki : (k : Int) < (r.S.F.length : Int) := by omega
        have hLg : (loadL r.S.F r.S.P (W.zip (listV W.length x3)))[k]? = some (capAt r.S.F r.S.P k (W.zip (listV W.length x3))) := loadL_get hlt _
        have hkL : k < (loadL r.S.F r.S.P (W.zip (listV W.length x3))).length := by rw [loadL_len]; exact hlt
        have hLe : (loadL r.S.F r.S.P (W.zip (listV W.length x3)))[k] = capAt r.S.F r.S.P k (W.zip (listV W.length x3)) := by
          rw [List.getElem?_eq_getElem hkL] at hLg; exact Option.some.inj hLg
        obtain ⟨bc, offc, hL, hbc, c0, c1, c2, c3⟩ := cap_at HSL5.out hkL
        subst hL
        rw [hLe] at c0 c1 c2 c3
        have HP := Lib.hid (HPT.out k hlt)
        clear hLg hLe hkL
        generalize capAt r.S.F r.S.P k (W.zip (listV W.length x3)) = cp at *
        obtain ⟨W6, hW6, hb6, hg6, hx6⟩ := box1 wr #[.int .i64 cp.a, .int .i64 cp.b, .int .i64 cp.c, .int .i64 cp.t] 41
        have hb56 := below_step hbw hb6
        have Y6 := fun j => (hb56.cell (p := ⟨w.heap.size, j, none⟩) g5).trans (y5 j)
        have g6 : w.heap.size < W6.heap.size := Nat.lt_of_lt_of_le g5 hb56.size
        have HI6 := Lib.hid (HI0.out.below (below_step hb05 hb56))
        have HV6 := Lib.hid (HV0.out.below (below_step hb05 hb56))
        have hbr := Below.refl W6.heap.size W6
        have HPC := Lib.hid (fun w' (h : Below W6.heap.size W6 w') => limPath_any r _ _ _ _ (k : Int) t w' (HV6.out.below h) (HI6.out.below h))
        have hle := HP.out
        generalize pathA r (k : Int) t = pa at *
        have d1 : decide (pa < cp.t) = false := decide_eq_false (by omega)
        have HLT := Lib.hid hlt
        clear hle HP
        go_wp2_with fail
        rw [← hW6]
        clear hW6 hc hf c0 c1 c2 c3
        (refine wp_region_kept W6 (by kernel_rfl) (by kernel_rfl) (by assumption) ?_; (repeat (go_big_quiet_step ((first | (go_at_call 20; exact kept_call (HPC.out _ (after_kept _).2)))))); refine wpQuiet_nil ?_; intro _ hw'; obtain ⟨x9, hw''⟩ := hw'; subst hw''; have hk9 := after_kept x9; generalize after x9 = w9 at *)
        obtain ⟨hc9, hb9⟩ := hk9
        have HB9 := Lib.hid (hb56.trans (hb9.mono hb56.size))
        clear hc9
        go_wp2_with fail
        go_roundw
        case measure =>
          have := HLT.out
          simp [intOf] <;> omega
        case rel => exact ⟨k + 1, HLT.out, by go_num, HB9.out⟩
      · have hki : ¬ (k : Int) < (r.S.F.length : Int) := by omega
        go_wp2_with fail
        go_loopw [118] (fun i wi => ∃ k : Nat, k ≤ W.length ∧ i = .int .i64 k ∧ Below w5.heap.size w5 wi) (fun i _ => W.length - (intOf i).toNat)
        case atStart => exact ⟨0, by omega, rfl, hbw⟩
        case round =>
          clear hc hf hbw hk hlt hki
          obtain ⟨k, hk, rfl, hbw⟩ := hrel
          obtain ⟨hc, hf⟩ := bcell hbw
          by_cases hlt : k < W.length
          · have hki : (k : Int) < (W.length : Int) := by omega
            obtain ⟨bx, offx, hG, hbx, x0⟩ := vec_at HSX5.out hlt
            subst hG
            have X0 := (hbw.cell (p := ⟨bx, offx + k, none⟩) hbx).trans x0
            have Y0 := fun j => (hbw.cell (p := ⟨w.heap.size, j, none⟩) g5).trans (y5 j)
            have hz := hbw.size
            have k3 : bx < wr.heap.size := by omega
            have k4 : w.heap.size < wr.heap.size := by omega
            have hb0r := below_step hb05 hbw
            have HIR := Lib.hid (HI0.out.below hb0r)
            have HRA := Lib.hid (araise_any r.S (capsL r t) W (listV W.length x3) k _ _ _ _ _ wr HIR.out.hF HIR.out.hP (((HC3.out.below hb4).below hb5).below hbw) (HW0.out.below hb0r) (HS5.out.below hbw) HIR.out.hn HIR.out.fF HIR.out.fP fW (by rw [listV_len]) hlt (by omega) (by rw [capsL_len]; omega) (by rw [List.getD_eq_getElem?_getD, List.getElem?_eq_getElem (by rw [listV_len]; exact hlt), Option.getD_some, listV_get]; exact (HK.out.rng k hlt).1))
            rw [raise_vecK hlt] at HRA
            have HMK := Lib.hid (HMO.out k hlt)
            have HLT := Lib.hid hlt
            generalize siteV r.S (capsL r t) W (updF x3 k (x3 k + 1)) = sv at *
            generalize x3 k = v at *
            by_cases hp : 0 < v
            · have hsv := HMK.out hp
              subst hsv
              simp only [Bool.and_false] at HRA
              go_wp2_with (go_at_call 16; refine HRA.out.mono ?_; rintro e w7 ⟨rfl, hb7⟩; have HB7 := Lib.hid (hbw.trans (hb7.mono hbw.size)))
              go_roundw
              case measure =>
                have := HLT.out
                simp [intOf] <;> omega
              case rel => exact ⟨k + 1, HLT.out, by go_num, HB7.out⟩
            · have HB7 := Lib.hid hbw
              go_wp2_with fail
              go_roundw
              case measure =>
                have := HLT.out
                simp [intOf] <;> omega
              case rel => exact ⟨k + 1, HLT.out, by go_num, HB7.out⟩
          · have hki : ¬ (k : Int) < (W.length : Int) := by omega
            go_wp2_with fail
            go_ret
            exact ⟨rfl, below_step hb0 (below_step hb05 hbw)⟩

end Go.Proofs.YtlpjniejbblcnaaDoor
