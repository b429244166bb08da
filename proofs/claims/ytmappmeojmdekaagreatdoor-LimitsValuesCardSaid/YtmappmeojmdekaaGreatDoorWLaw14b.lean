/-
  Walks: the law LimitsConstant.
-/
import Derived.Test.YtmappmeojmdekaaGreatDoorM15
namespace Go.Proofs.YtmappmeojmdekaaGreatDoor
open Go.RowKit Go.Lib Go.Maps
attribute [local go_sem] after_cell
set_option linter.unusedVariables false

theorem at_in {r : RulR} {t : Int} (h : limE r = 0) (h0 : 0 ≤ t) (h1 : t ≤ 268435456) : atE r t = 0 ∧ atL r t = capsL r t := by
  have := atE_ok h (timeB_t h0 h1)
  exact ⟨this, atL_ok this⟩
/-- what At hands back of valid rules at a time -/
theorem limAt_in (r : RulR) (fv pv cv uv : Value) (t : Int) (w : World) (hv : LenV w) (hI : LimIn w r fv pv cv uv) (h : limE r = 0) (h0 : 0 ≤ t) (h1 : t ≤ 268435456) :
    Calls Tryz.prog 14 #[.agg #[.string r.S.name, fv, pv, .int .i64 r.z.off, .bool r.z.sum, cv, uv], .int .i64 t] w fun e w' => ∃ v, e = .returned (.tuple #[v, .int .i64 0]) ∧ IsSl w' 4 v ((capsL r t).map CapR.cells) ∧ Below w.heap.size w w' := by
  refine (limAt_any r fv pv cv uv t w hv hI).mono ?_
  rintro e w' ⟨v, rfl, hs, hb⟩
  obtain ⟨h2, h3⟩ := at_in h h0 h1
  rw [h2]
  rw [h3] at hs
  exact ⟨v, rfl, hs, hb⟩

set_option maxRecDepth 100000 in
set_option maxHeartbeats 12800000 in
theorem lawLimConstant (r : RulR) (fv pv cv uv : Value) (t : Int) (w : World) (hv : LenV w) (hI : LimIn w r fv pv cv uv) (hti : I64 t) :
    Calls Tryz.prog 7 #[.agg #[.string r.S.name, fv, pv, .int .i64 r.z.off, .bool r.z.sum, cv, uv], .int .i64 t] w fun e w' => e = .returned (.bool true) ∧ Below w.heap.size w w' := by
  have HI := Lib.hid hI
  obtain ⟨A, B, C, D, a, b, c, d, rfl, rfl, rfl, rfl, hA⟩ := hI.ad
  obtain ⟨W0, hW0, hb0, hg0, hx0⟩ := box1 w #[.string r.S.name, .slice A r.S.F.length a, .slice B r.S.P.length b, .int .i64 r.z.off, .bool r.z.sum, .slice C r.C.length c, .slice D r.U.length d] 31
  have HI0 := Lib.hid (HI.out.below hb0)
  have HV0 := Lib.hid (hv.below hb0)
  clear hA hI hv
  go_enter Tryz.func7, Tryz.ntmps7
  go_wp2_with fail
  rw [← hW0]
  clear hW0
  refine (limLight_any r _ _ _ _ t W0 HI0.out).mono ?_
  rintro e w1 ⟨b1, rfl, hb1⟩
  have y0 : ∀ j, w1.cell? ⟨w.heap.size, j, none⟩ = _ := fun j => (hb1.cell (p := ⟨w.heap.size, j, none⟩) hg0).trans (hx0 j)
  have y1 : w.heap.size < w1.heap.size := Nat.lt_of_lt_of_le hg0 hb1.size
  have HI1 := Lib.hid (HI0.out.below hb1)
  have HV1 := Lib.hid (HV0.out.below hb1)
  have hb01 := below_step hb0 hb1
  clear hx0 hg0 hb1 HI0 HV0
  cases b1 with
  | false =>
    go_wp2_with fail
    refine (limEx_any _ HV1.out).mono ?_
    rintro e w2 ⟨rfl, hb2⟩
    go_wp2_with fail
    go_ret
    exact ⟨rfl, below_step hb01 hb2⟩
  | true =>
    go_wp2_with fail
    refine (limValid_any r _ _ _ _ w1 HI1.out).mono ?_
    rintro e w2 ⟨rfl, hb2⟩
    have z0 : ∀ j, w2.cell? ⟨w.heap.size, j, none⟩ = _ := fun j => (hb2.cell (p := ⟨w.heap.size, j, none⟩) y1).trans (y0 j)
    have z1 : w.heap.size < w2.heap.size := Nat.lt_of_lt_of_le y1 hb2.size
    have HI2 := Lib.hid (HI1.out.below hb2)
    have HV2 := Lib.hid (HV1.out.below hb2)
    have hb02 := below_step hb01 hb2
    clear y0 y1 hb2 HI1 HV1 hb01
    by_cases he : limE r = 0
    · have HE := Lib.hid he
      have HOK := Lib.hid (LimOk.of he)
      rw [he]
      clear he
      cases ht : timeB t with
      | false =>
        have HT := Lib.hid ht
        clear ht
        go_wp2_with fail
        refine (refRight_any t _).mono ?_
        rintro e w3 ⟨rfl, rfl⟩
        rw [HT.out]
        go_wp2_with fail
        refine (limEx_any _ HV2.out).mono ?_
        rintro e w4 ⟨rfl, hb4⟩
        go_wp2_with fail
        go_ret
        exact ⟨rfl, below_step hb02 hb4⟩
      | true =>
        obtain ⟨t0, t1⟩ := timeB_iff.1 ht
        have t1 : t ≤ 268435456 := t1
        have HT := Lib.hid ht
        have HNX := Lib.hid (limN_in HE.out t0 t1)
        have hn := limN_const r t
        clear ht
        go_wp2_with fail
        refine (refRight_any t _).mono ?_
        rintro e w3 ⟨rfl, rfl⟩
        rw [HT.out]
        go_wp2_with fail
        refine (limNext_any r _ _ _ _ t w2 HV2.out HI2.out).mono ?_
        rintro e w3 ⟨rfl, hb3⟩
        rw [HNX.out]
        generalize limA r.lim t = u at *
        have y0 : ∀ j, w3.cell? ⟨w.heap.size, j, none⟩ = _ := fun j => (hb3.cell (p := ⟨w.heap.size, j, none⟩) z1).trans (z0 j)
        have y1 : w.heap.size < w3.heap.size := Nat.lt_of_lt_of_le z1 hb3.size
        have HI3 := Lib.hid (HI2.out.below hb3)
        have HV3 := Lib.hid (HV2.out.below hb3)
        have hb03 := below_step hb02 hb3
        have hlen : ∀ v, (capsL r v).length ≤ 1000000 := fun v => capsL_le (by have := HOK.out.lens; omega) v
        have HLEN := Lib.hid hlen
        have hcase : ∃ E, t < E ∧ E ≤ 268435457 ∧ Hid (∀ v, t ≤ v → v < E → capsL r v = capsL r t) ∧ ((u = -1 ∧ min 268435456 (t + 6000) + 1 = E) ∨ (u = E ∧ ¬ u = -1 ∧ ¬ u ≤ t ∧ ¬ 268435456 < u ∧ Hid (capsL r u ≠ capsL r (u - 1)))) := by
          rcases hn with ⟨h1, h2⟩ | ⟨h1, h2, h3, h4⟩
          · exact ⟨min 268435456 (t + 6000) + 1, by omega, by omega, fun v x y => h2 v x (by omega), .inl ⟨h1, rfl⟩⟩
          · exact ⟨u, h1, by omega, fun v x y => h4 v x y, .inr ⟨rfl, by omega, by omega, by omega, h3⟩⟩
        obtain ⟨E, hE0, hE1, HB, hcase⟩ := hcase
        clear hn z0 z1 hb3 HI2 HV2 hb02 hlen HNX
        go_upto_if 36 with fail
        go_cut [6] (fun s wx => s = .int .i64 E ∧ Below w3.heap.size w3 wx)
        case first =>
          rcases hcase with ⟨rfl, hm⟩ | ⟨rfl, u1, u2, u3, HD⟩
          · have q1 : IntKind.i64.wrap (t + 6000) = t + 6000 := IntWalk.i64_in _ (by omega)
            have q2 : IntKind.i64.wrap (min 268435456 (t + 6000) + 1) = min 268435456 (t + 6000) + 1 := IntWalk.i64_in _ (by omega)
            replace hm := Lib.hid hm
            go_wp2_with fail
            go_meet
            exact ⟨by rw [hm.out], Below.refl _ _⟩
          · have u5 : ¬ u = -1 := u1
            have q1 : IntKind.i64.wrap (u - 1) = u - 1 := IntWalk.i64_in _ (by omega)
            have k0 : (u == -1) = false := by simp; omega
            go_wp2_with fail
            refine (limAt_in r _ _ _ _ u w3 HV3.out HI3.out HE.out (by omega) (by omega)).mono ?_
            rintro e w4 ⟨v4, rfl, hs4, hb4⟩
            have v0 : ∀ j, w4.cell? ⟨w.heap.size, j, none⟩ = _ := fun j => (hb4.cell (p := ⟨w.heap.size, j, none⟩) y1).trans (y0 j)
            have v1 : w.heap.size < w4.heap.size := Nat.lt_of_lt_of_le y1 hb4.size
            have HS4 := Lib.hid hs4
            clear hs4
            go_wp2_with fail
            refine (limAt_in r _ _ _ _ (u - 1) w4 (HV3.out.below hb4) (HI3.out.below hb4) HE.out (by omega) (by omega)).mono ?_
            rintro e w5 ⟨v5, rfl, hs5, hb5⟩
            have HSM := Lib.hid (refSameCaps_any _ _ _ _ w5 (HLEN.out u) (HLEN.out (u - 1)) (HS4.out.below hb5) hs5)
            rw [eqL_f HD.out] at HSM
            clear hs5
            go_wp2_with fail
            refine HSM.out.mono ?_
            rintro e w6 ⟨rfl, hb6⟩
            go_wp2_with fail
            go_meet
            exact ⟨rfl, below_step (below_step hb4 hb5) hb6⟩
        case rest =>
          obtain ⟨rfl, hbx⟩ := hcut
          clear hcase
          have HIX := Lib.hid (HI3.out.below hbx)
          have HVX := Lib.hid (HV3.out.below hbx)
          have z0 := fun j => (hbx.cell (p := ⟨w.heap.size, j, none⟩) y1).trans (y0 j)
          have z1 := Nat.lt_of_lt_of_le y1 hbx.size
          have hb0x := below_step hb03 hbx
          have p1 : IntKind.i64.wrap (E - t) = E - t := IntWalk.i64_in _ (by omega)
          have hq := quot_bd (a := E - t) (b := 60) (by omega) (by omega) (by omega)
          obtain ⟨Dv, hDv⟩ : ∃ Dv, (E - t).tdiv 60 = Dv := ⟨_, rfl⟩
          have hD0 : Dv ≤ 268435457 := by
            have := Int.natAbs_tdiv_le_natAbs (E - t) 60
            omega
          rw [hDv] at hq
          have p2 : IntKind.i64.wrap Dv = Dv := IntWalk.i64_in _ (by omega)
          clear hbx y0 y1 hb03 HI3 HV3
          go_wp2_with fail
          refine (limAt_in r _ _ _ _ t _ HVX.out HIX.out HE.out t0 t1).mono ?_
          rintro e w4 ⟨v4, rfl, hs4, hb4⟩
          have y0 : ∀ j, w4.cell? ⟨w.heap.size, j, none⟩ = _ := fun j => (hb4.cell (p := ⟨w.heap.size, j, none⟩) z1).trans (z0 j)
          have y1 : w.heap.size < w4.heap.size := Nat.lt_of_lt_of_le z1 hb4.size
          have HI4 := Lib.hid (HIX.out.below hb4)
          have HV4 := Lib.hid (HVX.out.below hb4)
          have hb04 := below_step hb0x hb4
          obtain ⟨G, gc, rfl, hgl, hgm, hgs⟩ := islen' hs4
          have HS4 := Lib.hid hs4
          have q3 : IntKind.i64.wrap (t + 1) = t + 1 := IntWalk.i64_in _ (by omega)
          clear hgs hs4 z0 z1 hb4 hb0x HIX HVX
          go_wp2_with fail
          go_loopw [13] (fun i wr => ∃ v : Int, t + 1 ≤ v ∧ v ≤ 600000000 ∧ i = .int .i64 v ∧ Below w4.heap.size w4 wr) (fun i _ => (E - intOf i).toNat)
          case atStart => exact ⟨t + 1, by omega, by omega, rfl, Below.refl _ _⟩
          case round =>
            obtain ⟨v, hv0, hv1, rfl, hbw⟩ := hrel
            have z0 : ∀ j, wr.cell? ⟨w.heap.size, j, none⟩ = _ := fun j => (hbw.cell (p := ⟨w.heap.size, j, none⟩) y1).trans (y0 j)
            have z1 : w.heap.size < wr.heap.size := Nat.lt_of_lt_of_le y1 hbw.size
            by_cases hlt : v < E
            · have HEQ := Lib.hid (HB.out v (by omega) hlt)
              go_wp2_with fail
              refine (limAt_in r _ _ _ _ v wr (HV4.out.below hbw) (HI4.out.below hbw) HE.out (by omega) (by omega)).mono ?_
              rintro e w5 ⟨v5, rfl, hs5, hb5⟩
              rw [HEQ.out] at hs5
              have hbw5 := below_step hbw hb5
              have HSM := Lib.hid (refSameCaps_any _ _ _ _ w5 (HLEN.out t) (HLEN.out t) (HS4.out.below hbw5) hs5)
              rw [eqL_t rfl] at HSM
              clear hs5
              go_wp2_with fail
              refine HSM.out.mono ?_
              rintro e w6 ⟨rfl, hb6⟩
              have hbw6 := below_step hbw5 hb6
              have p3 : IntKind.i64.wrap (v + max 1 Dv) = v + max 1 Dv := IntWalk.i64_in _ (by omega)
              go_wp2_with fail
              go_roundw
              case measure => simp only [intOf]; omega
              case rel => exact ⟨v + max 1 Dv, by omega, by omega, rfl, hbw6⟩
            · go_wp2_with fail
              refine (limEx_any _ (HV4.out.below hbw)).mono ?_
              rintro e w5 ⟨rfl, hb5⟩
              go_wp2_with fail
              go_ret
              exact ⟨rfl, below_step hb04 (below_step hbw hb5)⟩
    · have hne : (limE r != 0) = true := by simpa using he
      go_wp2_with fail
      refine (limEx_any _ HV2.out).mono ?_
      rintro e w3 ⟨rfl, hb3⟩
      go_wp2_with fail
      go_ret
      exact ⟨rfl, below_step hb02 hb3⟩

end Go.Proofs.YtmappmeojmdekaaGreatDoor
