/-
  Walks: the law LimitsMore.
-/
import Derived.Test.YtmappmeojmdekaaGreatDoorWLaw14b
namespace Go.Proofs.YtmappmeojmdekaaGreatDoor
open Go.RowKit Go.Lib Go.Maps
attribute [local go_sem] after_cell
set_option linter.unusedVariables false

theorem IsSl.tail1 {α : Type} {enc : α → List Value} {size : Nat} {w : World} {A A2 : Option Addr} {c : Nat} {l : List α} (h : IsSl w size (.slice A l.length c) (l.map enc)) (hK : 1 ≤ l.length) (hA : subAddr A c 1 size = A2) : IsSl w size (.slice A2 (l.length - 1) (c - 1)) ((l.drop 1).map enc) := by
  obtain ⟨A3, c2, e, h1, h2, h3⟩ := h
  injection e with e1 e2 e3
  subst e1; subst e3
  rw [List.length_map] at h1
  refine IsSl.mk ?_ (by rw [List.length_map, List.length_drop]) (by omega) (by omega)
  rw [List.map_drop, ← hA]; exact subAddr_at h3 (by rw [List.length_map]; exact h1)
theorem drop_nil {α : Type} {l : List α} (h : l.length = 0) : l.drop 1 = l := by
  rw [List.eq_nil_of_length_eq_zero h]; rfl
set_option maxRecDepth 100000 in
theorem eq_triT (a b c a' b' c' : Int) (w : World) : (Op.equalIn 10000 54 (.agg #[.int .i64 a, .int .i64 b, .int .i64 c]) (.agg #[.int .i64 a', .int .i64 b', .int .i64 c'])).run Tryz.prog w = .ok (a == a' && (b == b' && c == c')) w := by
  rw [run_equalIn_agg w 9999 _ _ _ Tryz.underlying54 Tryz.stoodInHeld54]
  simp only [Program.fieldsOf, Tryz.underlying54]
  cases h1 : (a == a') <;> cases h2 : (b == b') <;> cases h3 : (c == c') <;>
    simp [go_sem, Op.eqFields, part, run_equalIn_int _ _ _ _ _ _ _ Tryz.underlying3, h1, h2, h3]
theorem neq_tri_same (a b c : Int) (w : World) : (binOp .neq 54 (.agg #[.int .i64 a, .int .i64 b, .int .i64 c]) (.agg #[.int .i64 a, .int .i64 b, .int .i64 c])).run Tryz.prog w = .ok (.bool false) w := by
  rw [run_neq_struct, eq_triT]; simp

set_option maxRecDepth 100000 in
set_option maxHeartbeats 12800000 in
theorem lawLimMore (r : RulR) (fv pv cv uv : Value) (t : Int) (w : World) (hv : LenV w) (hI : LimIn w r fv pv cv uv) :
    Calls Tryz.prog 9 #[.agg #[.string r.S.name, fv, pv, .int .i64 r.z.off, .bool r.z.sum, cv, uv], .int .i64 t] w fun e w' => e = .returned (.bool true) ∧ Below w.heap.size w w' := by
  have HI := Lib.hid hI
  obtain ⟨A, B, C, D, a, b, c, d, rfl, rfl, rfl, rfl, hA⟩ := hI.ad
  obtain ⟨W0, hW0, hb0, hg0, hx0⟩ := box1 w #[.string r.S.name, .slice A r.S.F.length a, .slice B r.S.P.length b, .int .i64 r.z.off, .bool r.z.sum, .slice C r.C.length c, .slice D r.U.length d] 31
  have HI0 := Lib.hid (HI.out.below hb0)
  have HV0 := Lib.hid (hv.below hb0)
  have HA0 := Lib.hid (hA.below hb0)
  obtain ⟨l1, l2⟩ := hA.lF
  obtain ⟨m1, m2⟩ := hA.lC
  obtain ⟨n1, n2⟩ := hA.lU
  unfold maxLen at l2 m2 n2
  clear hA hI hv
  go_enter Tryz.func9, Tryz.ntmps9
  go_wp2_with fail
  rw [← hW0]
  clear hW0
  refine (limSmall_any r _ _ _ _ W0 HI0.out).mono ?_
  rintro e w1 ⟨b1, rfl, hb1⟩
  have y0 : ∀ j, w1.cell? ⟨w.heap.size, j, none⟩ = _ := fun j => (hb1.cell (p := ⟨w.heap.size, j, none⟩) hg0).trans (hx0 j)
  have y1 : w.heap.size < w1.heap.size := Nat.lt_of_lt_of_le hg0 hb1.size
  have HI1 := Lib.hid (HI0.out.below hb1)
  have HA1 := Lib.hid (HA0.out.below hb1)
  have HV1 := Lib.hid (HV0.out.below hb1)
  have hb01 := below_step hb0 hb1
  clear hx0 hg0 hb1 HI0 HV0
  cases b1 with
  | false =>
    go_wp2_with fail
    refine (limEx_any _ HV1.out).mono ?_
    rintro e w2 ⟨rfl, hb2⟩
    go_wp2_with fail
    go_ret
    exact ⟨rfl, below_step hb01 hb2⟩
  | true =>
    by_cases he : atE r t = 0
    · have hE : limE r = 0 := by
        unfold atE at he
        split at he
        · rename_i g; exact absurd he g
        · rename_i g; exact Classical.not_not.1 g
      have ht : timeB t = true := by
        cases q : timeB t with
        | true => rfl
        | false => rw [atE_time hE q] at he; cases he
      obtain ⟨t0, t1⟩ := timeB_iff.1 ht
      have t1 : t ≤ 268435456 := t1
      have HE := Lib.hid hE
      have HOK := Lib.hid (LimOk.of hE)
      have HE2 : Hid (limE r.less = 0) := limE_zero.2 HOK.out.ok.drop
      clear he hE ht
      have hl32 := HOK.out.lens.1
      go_wp2_with fail
      refine (limAt_in r _ _ _ _ t w1 HV1.out HI1.out HE.out t0 t1).mono ?_
      rintro e w2 ⟨v2, rfl, hs2, hb2⟩
      obtain ⟨G, gc, rfl, hgl, hgm, hgs⟩ := islen' hs2
      have hln := capsL_len r t
      rw [hln] at hgl ⊢
      unfold maxLen at hgm
      have HGS := Lib.hid hgs
      have z0 : ∀ j, w2.cell? ⟨w.heap.size, j, none⟩ = _ := fun j => (hb2.cell (p := ⟨w.heap.size, j, none⟩) y1).trans (y0 j)
      have z1 : w.heap.size < w2.heap.size := Nat.lt_of_lt_of_le y1 hb2.size
      have HI2 := Lib.hid (HI1.out.below hb2)
      have HA2 := Lib.hid (HA1.out.below hb2)
      have HV2 := Lib.hid (HV1.out.below hb2)
      have hb02 := below_step hb01 hb2
      have hb12 := hb2
      clear hs2 hgs y0 y1 hb2 HI1 hb01
      obtain ⟨W3, hW3, hb3, hg3, hx3⟩ := box1 w2 #[.string r.S.name, .slice A r.S.F.length a, .slice B r.S.P.length b, .int .i64 r.z.off, .bool r.z.sum, .slice C r.C.length c, .slice D r.U.length d] 31
      have hB3 : Blk W3 w2.heap.size 31 [.string r.S.name, .slice A r.S.F.length a, .slice B r.S.P.length b, .int .i64 r.z.off, .bool r.z.sum, .slice C r.C.length c, .slice D r.U.length d] := by rw [hW3]; exact Blk.new' rfl _ _ rfl
      have hfr3 := fun j => hB3.free j
      have HI3 := Lib.hid (HI2.out.below hb3)
      have HA3 := Lib.hid (HA2.out.below hb3)
      have x3 := hx3
      go_upto_if 34 with fail
      rw [← hW3]
      have hgw : w.heap.size < w2.heap.size := z1
      have v0 : ∀ j, W3.cell? ⟨w.heap.size, j, none⟩ = _ := fun j => (hb3.cell (p := ⟨w.heap.size, j, none⟩) z1).trans (z0 j)
      have v1 : w.heap.size < W3.heap.size := Nat.lt_of_lt_of_le z1 hb3.size
      have HV3 := Lib.hid (HV2.out.below hb3)
      have hb03 : Below w.heap.size w W3 := below_step hb02 hb3
      have HGS3 := Lib.hid (HGS.out.below hb3)
      have hb23 : Below w2.heap.size w2 W3 := hb3
      clear hW3 z1 HV2 hb3 x3
      generalize hgq : w2.heap.size = gq at *
      go_cut [] (fun wx => ∃ cv2, Blk wx gq 31 [.string r.S.name, .slice A r.S.F.length a, .slice B r.S.P.length b, .int .i64 r.z.off, .bool r.z.sum, cv2, .slice D r.U.length d] ∧ IsSl w2 8 cv2 ((r.C.drop 1).map ConR.cells) ∧ Below gq w2 wx)
      case first =>
        by_cases hcz : 0 < r.C.length
        · have hci : (0 : Int) < (r.C.length : Int) := by omega
          have c1 : ¬ r.C.length < 1 := by omega
          have c2 : ¬ c < 1 := by omega
          obtain ⟨bb, off, rfl, _⟩ := con_at HA2.out.sC hcz
          by_cases hc1 : c = 1
          · subst hc1
            go_wp2_with fail
            go_meet
            exact ⟨_, hB3.set 5 _, by have := HI2.out.hC.tail1 hcz (A2 := some ⟨bb, off, none⟩) rfl; rw [show r.C.length - 1 = 0 by omega] at this; exact this, hb23.setCell (Nat.le_refl _) _⟩
          · go_wp2_with fail
            go_meet
            exact ⟨_, hB3.set 5 _, HI2.out.hC.tail1 hcz (A2 := some ⟨bb, off + 8, none⟩) (by unfold subAddr; rw [if_neg hc1]; rfl), hb23.setCell (Nat.le_refl _) _⟩
        · have hci : ¬ (0 : Int) < (r.C.length : Int) := by omega
          go_wp2_with fail
          go_meet
          exact ⟨_, hB3, by rw [drop_nil (by omega)]; exact HI2.out.hC, hb23⟩
      case rest =>
        obtain ⟨cv2, hB4, hC4, hb24⟩ := hcut
        have hs4 := fun j => hB4.arr j
        have hfr4 := fun j => hB4.free j
        have hg4 := hB4.lt
        have hcsh : ∃ A5 n5 c5, cv2 = .slice A5 n5 c5 := by obtain ⟨X, cX, e, _⟩ := hC4; exact ⟨_, _, _, e⟩
        obtain ⟨A5, n5, c5, rfl⟩ := hcsh
        clear hB3 hfr3 hx3 hg3 hb23 hb03 HGS3 HV3 v0 v1 HI3 HA3
        go_upto_if 42 with fail
        go_cut [] (fun wx => ∃ uv2, Blk wx gq 31 [.string r.S.name, .slice A r.S.F.length a, .slice B r.S.P.length b, .int .i64 r.z.off, .bool r.z.sum, .slice A5 n5 c5, uv2] ∧ IsSl w2 7 uv2 ((r.U.drop 1).map CurR.cells) ∧ Below gq w2 wx)
        case first =>
          by_cases hcz : 0 < r.U.length
          · have hci : (0 : Int) < (r.U.length : Int) := by omega
            have c1 : ¬ r.U.length < 1 := by omega
            have c2 : ¬ d < 1 := by omega
            obtain ⟨bb, off, rfl, _⟩ := cur_at HA2.out.sU hcz
            by_cases hc1 : d = 1
            · subst hc1
              go_wp2_with fail
              go_meet
              exact ⟨_, hB4.set 6 _, by have := HI2.out.hU.tail1 hcz (A2 := some ⟨bb, off, none⟩) rfl; rw [show r.U.length - 1 = 0 by omega] at this; exact this, hb24.setCell (Nat.le_refl _) _⟩
            · go_wp2_with fail
              go_meet
              exact ⟨_, hB4.set 6 _, HI2.out.hU.tail1 hcz (A2 := some ⟨bb, off + 7, none⟩) (by unfold subAddr; rw [if_neg hc1]; rfl), hb24.setCell (Nat.le_refl _) _⟩
          · have hci : ¬ (0 : Int) < (r.U.length : Int) := by omega
            go_wp2_with fail
            go_meet
            exact ⟨_, hB4, by rw [drop_nil (by omega)]; exact HI2.out.hU, hb24⟩
        case rest =>
          clear hB4 hs4 hfr4 hg4 hb24
          obtain ⟨uv2, hB5, hU5, hb25⟩ := hcut
          rw [← hgq] at hb25
          have hs5 := fun j => hB5.arr j
          have hg5 := hB5.lt
          have hush : ∃ A6 n6 c6, uv2 = .slice A6 n6 c6 := by obtain ⟨X, cX, e, _⟩ := hU5; exact ⟨_, _, _, e⟩
          obtain ⟨A6, n6, c6, rfl⟩ := hush
          have z0' := fun j => (hb25.cell (p := ⟨w.heap.size, j, none⟩) (by rw [hgq]; exact hgw)).trans (z0 j)
          have z1' := Nat.lt_of_lt_of_le hgw (Nat.le_of_lt hg5)
          have HL5 : Hid (LimIn _ r.less _ _ _ _) := ⟨HI2.out.hF.below hb25, HI2.out.hP.below hb25, hC4.below hb25, hU5.below hb25, HI2.out.hn, HI2.out.fF, HI2.out.fP, fun x hx => HI2.out.fC x (List.mem_of_mem_drop hx), fun x hx => HI2.out.fU x (List.mem_of_mem_drop hx)⟩
          have hb05 := below_step hb02 hb25
          have HV5 := Lib.hid (HV1.out.below (below_step (show Below w1.heap.size w1 w2 from hb12) hb25))
          have HGS5 := Lib.hid (HGS.out.below hb25)
          have HA5 := Lib.hid (HA2.out.below hb25)
          clear z0 hC4 hU5 HI2 HGS HA2
          go_wp2_with fail
          refine (limAt_in r.less _ _ _ _ t _ HV5.out HL5.out HE2.out t0 t1).mono ?_
          rintro e w6 ⟨v6, rfl, hs6, hb6⟩
          obtain ⟨H, hc6, rfl, hhl, hhm, hhs⟩ := islen' hs6
          have hln2 : (capsL r.less t).length = r.S.F.length := capsL_len r.less t
          rw [hln2] at hhl ⊢
          unfold maxLen at hhm
          have HHS := Lib.hid hhs
          have HGS6 := Lib.hid (HGS5.out.below hb6)
          have HA6 := Lib.hid (HA5.out.below hb6)
          have y0 := fun j => (hb6.cell (p := ⟨w.heap.size, j, none⟩) z1').trans (z0' j)
          have y1 := Nat.lt_of_lt_of_le z1' hb6.size
          have hb06 := below_step hb05 hb6
          have HV6 := Lib.hid (HV5.out.below hb6)
          have HMO := Lib.hid (fun i => less_more r i t)
          have HRT := Lib.hid (fun (i : Nat) (hi : i < r.S.F.length) => cap_rated (r := r.less) (i := i) hi t)
          clear hs6 hhs hs5 hg5 HL5 hB5 HGS5 HA5 hb25 z0' z1'
          have e1 : ((r.S.F.length : Int) != (r.S.F.length : Int)) = false := by simp
          go_wp2_with fail
          generalize w6 = wm at *
          go_loopw [73] (fun i wr => ∃ k : Nat, k ≤ r.S.F.length ∧ i = .int .i64 k ∧ Below wm.heap.size wm wr) (fun i _ => r.S.F.length - (intOf i).toNat)
          case atStart => exact ⟨0, by omega, rfl, Below.refl _ _⟩
          case round =>
            obtain ⟨k, hk, rfl, hbw⟩ := hrel
            have x0 := fun j => (hbw.cell (p := ⟨w.heap.size, j, none⟩) y1).trans (y0 j)
            have x1 := Nat.lt_of_lt_of_le y1 hbw.size
            by_cases hlt : k < r.S.F.length
            · have hki : (k : Int) < (r.S.F.length : Int) := by omega
              have hkg : k < (capsL r t).length := by rw [hln]; exact hlt
              have hkh : k < (capsL r.less t).length := by rw [hln2]; exact hlt
              obtain ⟨bb, off, rfl, hb, c0, c1, c2, c3, c4⟩ := feedC_at (HA6.out.below hbw).sF hlt
              obtain ⟨g, o, rfl, hgb, p0, p1, p2, p3⟩ := cap_at (HGS6.out.below hbw) hkg
              obtain ⟨g2, o2, rfl, hgb2, s0, s1, s2, s3⟩ := cap_at (HHS.out.below hbw) hkh
              rw [capsL_at hkg] at p0 p1 p2 p3
              rw [capsL_at hkh] at s0 s1 s2 s3
              have hmo := HMO.out k
              have hrt : capF r.less.lim k t ≤ rateF r.S.F[k] := HRT.out k hlt
              obtain ⟨a0, a1, b0, b1, d0, d1⟩ := HOK.out.rated _ (List.getElem_mem hlt)
              replace p0 : wr.cell? ⟨g, o + k * 4, none⟩ = some (.int .i64 r.S.F[k].a) := p0
              replace p1 : wr.cell? ⟨g, o + k * 4 + 1, none⟩ = some (.int .i64 r.S.F[k].b) := p1
              replace p2 : wr.cell? ⟨g, o + k * 4 + 2, none⟩ = some (.int .i64 r.S.F[k].c) := p2
              replace p3 : wr.cell? ⟨g, o + k * 4 + 3, none⟩ = some (.int .i64 (capF r.lim k t)) := p3
              replace s0 : wr.cell? ⟨g2, o2 + k * 4, none⟩ = some (.int .i64 r.S.F[k].a) := s0
              replace s1 : wr.cell? ⟨g2, o2 + k * 4 + 1, none⟩ = some (.int .i64 r.S.F[k].b) := s1
              replace s2 : wr.cell? ⟨g2, o2 + k * 4 + 2, none⟩ = some (.int .i64 r.S.F[k].c) := s2
              replace s3 : wr.cell? ⟨g2, o2 + k * 4 + 3, none⟩ = some (.int .i64 (capF r.less.lim k t)) := s3
              have c3' : wr.cell? ⟨bb, off + k * 5 + 2 + 1, none⟩ = some (.int .i64 r.S.F[k].b) := c3
              have c4' : wr.cell? ⟨bb, off + k * 5 + 2 + 2, none⟩ = some (.int .i64 r.S.F[k].c) := c4
              unfold rateF at hrt
              generalize r.S.F[k] = x at *
              generalize capF r.lim k t = ca at *
              generalize capF r.less.lim k t = cb at *
              have q1 : IntKind.i64.wrap (x.a + x.b) = x.a + x.b := IntWalk.i64_in _ (by omega)
              have q2 : IntKind.i64.wrap (x.a + x.b + x.c) = x.a + x.b + x.c := IntWalk.i64_in _ (by omega)
              obtain ⟨W4, hW4, hb4, hg4, hx4⟩ := box1 wr #[.int .i64 x.a, .int .i64 x.b, .int .i64 x.c] 54
              have t0' : W4.cell? ⟨g, o + k * 4, none⟩ = _ := (hb4.cell (p := ⟨g, _, none⟩) hgb).trans p0
              have t1' : W4.cell? ⟨g, o + k * 4 + 1, none⟩ = _ := (hb4.cell (p := ⟨g, _, none⟩) hgb).trans p1
              have t2' : W4.cell? ⟨g, o + k * 4 + 2, none⟩ = _ := (hb4.cell (p := ⟨g, _, none⟩) hgb).trans p2
              have t3' : W4.cell? ⟨g, o + k * 4 + 3, none⟩ = _ := (hb4.cell (p := ⟨g, _, none⟩) hgb).trans p3
              have u0' : W4.cell? ⟨g2, o2 + k * 4, none⟩ = _ := (hb4.cell (p := ⟨g2, _, none⟩) hgb2).trans s0
              have u1' : W4.cell? ⟨g2, o2 + k * 4 + 1, none⟩ = _ := (hb4.cell (p := ⟨g2, _, none⟩) hgb2).trans s1
              have u2' : W4.cell? ⟨g2, o2 + k * 4 + 2, none⟩ = _ := (hb4.cell (p := ⟨g2, _, none⟩) hgb2).trans s2
              have u3' : W4.cell? ⟨g2, o2 + k * 4 + 3, none⟩ = _ := (hb4.cell (p := ⟨g2, _, none⟩) hgb2).trans s3
              have r1' : g < W4.heap.size := Nat.lt_of_lt_of_le hgb hb4.size
              have r2' : g2 < W4.heap.size := Nat.lt_of_lt_of_le hgb2 hb4.size
              have hbr := Below.refl W4.heap.size W4
              have n1' : ¬ cb < ca := by omega
              have n2' : ¬ x.a + x.b + x.c < cb := by omega
              have d1' : decide (cb < ca) = false := by simp; omega
              have d2' : decide (x.a + x.b + x.c < cb) = false := by simp; omega
              have hnq := neq_tri_same x.a x.b x.c
              have heg1 := fun w => run_eqGuard_agg (P := Tryz.prog) w .neq 54 (.tmp 87) (.tmp 88) #[.int .i64 x.a, .int .i64 x.b, .int .i64 x.c] #[.int .i64 x.a, .int .i64 x.b, .int .i64 x.c] Tryz.eqGuardType54
              have heg2 := fun w => run_eqGuard_agg (P := Tryz.prog) w .neq 54 (.tmp 95) (.tmp 100) #[.int .i64 x.a, .int .i64 x.b, .int .i64 x.c] #[.int .i64 x.a, .int .i64 x.b, .int .i64 x.c] Tryz.eqGuardType54
              clear p0 p1 p2 p3 s0 s1 s2 s3 hmo hrt a0 a1 b0 b1 d0 d1
              go_wp2_with fail
              rw [← hW4]
              clear hW4 c0 c1 c2 c3 c4 c3' c4' x0
              (refine wp_region_kept W4 (by kernel_rfl) (by kernel_rfl) (by assumption) ?_; (repeat (go_big_quiet_step ((first | fail)))); refine wpQuiet_nil ?_; intro _ hw'; obtain ⟨x9, hw''⟩ := hw'; subst hw''; have hk9 := after_kept x9; generalize after x9 = w9 at *)
              obtain ⟨hc9, hb9⟩ := hk9
              go_wp2_with fail
              go_roundw
              case measure => simp [intOf]; omega
              case rel => exact ⟨k + 1, by omega, by go_num, below_step (below_step hbw hb4) hb9⟩
            · have hki : ¬ (k : Int) < (r.S.F.length : Int) := by omega
              go_wp2_with fail
              refine (limEx_any _ (HV6.out.below hbw)).mono ?_
              rintro e w7 ⟨rfl, hb7⟩
              go_wp2_with fail
              go_ret
              exact ⟨rfl, below_step hb06 (below_step hbw hb7)⟩
    · have hne : (atE r t != 0) = true := by simpa using he
      have hnil := atL_none he
      go_wp2_with fail
      refine (limAt_any r _ _ _ _ t w1 HV1.out HI1.out).mono ?_
      rintro e w2 ⟨v2, rfl, hs2, hb2⟩
      rw [hnil] at hs2
      obtain ⟨G, gc, rfl, _⟩ := islen' hs2
      clear hs2
      go_wp2_with fail
      refine (limEx_any _ (HV1.out.below hb2)).mono ?_
      rintro e w3 ⟨rfl, hb3⟩
      go_wp2_with fail
      go_ret
      exact ⟨rfl, below_step hb01 (below_step hb2 hb3)⟩

end Go.Proofs.YtmappmeojmdekaaGreatDoor
