/-
  Walks: caps, At and Same of the reference of limits.
  Walks: Next of package limits; first and candidate of its reference.
  Walks: Next of the reference of limits.
  Walks: the path of a feeder, in package site and in its reference.
  Walks: Path of package limits and of its reference.
-/
import Derived.Test.YtmappmeojmdekaaGreatDoorM13
import Derived.Test.YtmappmeojmdekaaGreatDoorM8
import Derived.Test.YtmappmeojmdekaaGreatDoorM3
import Derived.Test.YtmappmeojmdekaaGreatDoorM5

namespace Go.Proofs.YtmappmeojmdekaaGreatDoor
open Go.RowKit Go.Lib Go.Maps
attribute [local go_sem] after_cell
set_option linter.unusedVariables false

theorem capsL_take {r : RulR} {t : Int} {k : Nat} (h : k < r.S.F.length) : (capsL r t).take (k + 1) = (capsL r t).take k ++ [capFd r t r.S.F[k] k] := by
  rw [List.take_succ_eq_append_getElem (by rw [capsL_len]; exact h), capsL_at]
theorem capsTake_len {r : RulR} {t : Int} {k : Nat} (h : k ≤ r.S.F.length) : ((capsL r t).take k).length = k := by rw [List.length_take, capsL_len]; omega

set_option maxRecDepth 100000 in
set_option maxHeartbeats 12800000 in
theorem refCaps_any (r : RulR) (fv pv cv uv : Value) (t : Int) (w : World) (hI : LimIn w r fv pv cv uv) (hR : Rated r.S.F) (hlen : r.S.F.length ≤ 100) :
    Calls Tryz.prog 37 #[.agg #[.string r.S.name, fv, pv, .int .i64 r.z.off, .bool r.z.sum, cv, uv], .int .i64 t] w
      fun e w' => ∃ v, e = .returned v ∧ IsSl w' 4 v ((capsL r t).map CapR.cells) ∧ Below w.heap.size w w' := by
  have HI := Lib.hid hI
  obtain ⟨A, B, C, D, a, b, c, d, rfl, rfl, rfl, rfl, hA⟩ := hI.ad
  obtain ⟨W0, hW0, hb0, hg0, hx0⟩ := box1 w #[.string r.S.name, .slice A r.S.F.length a, .slice B r.S.P.length b, .int .i64 r.z.off, .bool r.z.sum, .slice C r.C.length c, .slice D r.U.length d] 31
  obtain ⟨i0, hi, hz0, hz1, hz2⟩ := info_parts capInfo
  have HA0 := Lib.hid (hA.below hb0)
  have HI0 := Lib.hid (HI.out.below hb0)
  have HR := Lib.hid hR
  clear hA hI hR
  go_enter Tryz.func37, Tryz.ntmps37
  go_wp2_with fail
  rw [← hW0]
  clear hW0
  go_loopw [5, 6] (fun y i wr => ∃ k : Nat, k ≤ r.S.F.length ∧ i = .int .i64 k ∧ Below W0.heap.size W0 wr ∧ wr.ownsRow W0.heap.size 56 4 y k (((capsL r t).take k).flatMap CapR.cells)) (fun _ i _ => r.S.F.length - (intOf i).toNat)
  case atStart => exact ⟨0, by omega, rfl, Below.refl _ _, World.ownsRow_nil _ _ _ _⟩
  case round =>
    obtain ⟨k, hk, rfl, hbw, hy⟩ := hrel
    have y0 : ∀ j, wr.cell? ⟨w.heap.size, j, none⟩ = _ := fun j => (hbw.cell (p := ⟨w.heap.size, j, none⟩) hg0).trans (hx0 j)
    have y1 : w.heap.size < wr.heap.size := Nat.lt_of_lt_of_le hg0 hbw.size
    by_cases hlt : k < r.S.F.length
    · have hki : (k : Int) < (r.S.F.length : Int) := by omega
      obtain ⟨blk, off, rfl, hb, c0, c1, c2, c3, c4⟩ := feedC_at (HA0.out.below hbw).sF hlt
      have c3' : wr.cell? ⟨blk, off + k * 5 + 2 + 1, none⟩ = some (.int .i64 r.S.F[k].b) := c3
      have c4' : wr.cell? ⟨blk, off + k * 5 + 2 + 2, none⟩ = some (.int .i64 r.S.F[k].c) := c4
      have HT := Lib.hid (capsL_take (t := t) hlt)
      have HCP : Hid (capF r.lim k t = min (min (rateF r.S.F[k]) (uAt r.U k t)) (cAt r.C r.z k t)) := by
        unfold Hid capF; rw [totF_at hlt]; rfl
      obtain ⟨a0, a1, b0, b1, d0, d1⟩ := HR.out _ (List.getElem_mem hlt)
      unfold rateF at HCP
      generalize hx : r.S.F[k] = x at *
      clear hx
      have q1 : IntKind.i64.wrap (x.a + x.b) = x.a + x.b := IntWalk.i64_in _ (by omega)
      have q2 : IntKind.i64.wrap (x.a + x.b + x.c) = x.a + x.b + x.c := IntWalk.i64_in _ (by omega)
      obtain ⟨W1, hW1, hb1, hg1, hx1⟩ := box1 wr #[.int .i64 x.a, .int .i64 x.b, .int .i64 x.c] 54
      have hbw1 := below_step hbw hb1
      have z0 : ∀ j, W1.cell? ⟨w.heap.size, j, none⟩ = _ := fun j => (hb1.cell (p := ⟨w.heap.size, j, none⟩) y1).trans (y0 j)
      have z1 : w.heap.size < W1.heap.size := Nat.lt_of_lt_of_le y1 hb1.size
      have HI1 := Lib.hid (HI0.out.below hbw1)
      have hy1 := own_below hy hb1
      have hbr := Below.refl W1.heap.size W1
      go_wp2_with fail
      rw [← hW1]
      clear hW1 c0 c1 c2 c3 c4 c3' c4' hb y0 y1 hy
      (refine wp_region_kept W1 (by kernel_rfl) (by kernel_rfl) (by assumption) ?_; (repeat (go_big_quiet_step ((first | (go_at_call 57; exact kept_call (refConAt_any r.C _ r.z k t _ (HI1.out.below (after_kept _).2).hC)) | (go_at_call 58; exact kept_call (refCurAt_any r.U _ k t _ (HI1.out.below (after_kept _).2).hU)))))); refine wpQuiet_nil ?_; intro _ hw'; obtain ⟨x9, hw''⟩ := hw'; subst hw''; have hk9 := after_kept x9; generalize after x9 = w9 at *)
      obtain ⟨hc9, hb9⟩ := hk9
      have v1 : ∀ j, w9.cell? ⟨wr.heap.size, j, none⟩ = _ := fun j => (hc9 _ j hg1).trans (hx1 j)
      have hz9 := Nat.lt_of_lt_of_le hg1 hb9.size
      have hy9 := own_below hy1 hb9
      have hbw9 := below_step hbw1 hb9
      clear hc9 z0 hx1
      generalize cAt r.C r.z k t = ca at *
      generalize uAt r.U k t = ua at *
      rw [show (if ua < (if ca < x.a + x.b + x.c then ca else x.a + x.b + x.c) then ua else if ca < x.a + x.b + x.c then ca else x.a + x.b + x.c) = min (min (x.a + x.b + x.c) ua) ca by omega, ← HCP.out]
      generalize hcp : capF r.lim k t = cp at *
      go_wp2_with (at_builtin; refine wpList_append_row _ _ rfl (.tmp 45) (.tmp 49) _ rfl W0.heap.size 56 i0 _ 4 32 Tryz.underlying36 hi hz0 hz1 hz2 rfl (by decide) _ _ _ rfl hy9 _ rfl rfl (by intro u hu; simp at hu; rcases hu with rfl | rfl | rfl | rfl <;> rfl) (by omega) (by omega) hbw9.size ?_; intro v' w2 hown hgrow hblk)
      have hb2 := below_grown hbw9 hy9 (Nat.le_refl _) hgrow
      clear hgrow
      go_roundw
      case measure => simp [intOf]; omega
      case rel => exact ⟨k + 1, by omega, by go_num, hb2, by rw [HT.out, List.flatMap_append]; unfold capFd CapR.cells; rw [hcp]; exact hown⟩
    · have hki : ¬ (k : Int) < (r.S.F.length : Int) := by omega
      obtain rfl : k = r.S.F.length := by omega
      rw [List.take_of_length_le (by rw [capsL_len]; exact Nat.le_refl _)] at hy
      go_wp2_with fail
      go_ret
      exact ⟨_, rfl, IsSl.of_own CapR.cells_len hy (capsL_len r t), below_step hb0 hbw⟩

set_option maxRecDepth 100000 in
set_option maxHeartbeats 6400000 in
theorem refLimAt_any (r : RulR) (fv pv cv uv : Value) (t : Int) (w : World) (hI : LimIn w r fv pv cv uv) :
    Calls Tryz.prog 15 #[.agg #[.string r.S.name, fv, pv, .int .i64 r.z.off, .bool r.z.sum, cv, uv], .int .i64 t] w (AtPost w r t) := by
  have HI := Lib.hid hI
  obtain ⟨A, B, C, D, a, b, c, d, rfl, rfl, rfl, rfl, hA⟩ := hI.ad
  obtain ⟨W0, hW0, hb0, hg0, hx0⟩ := box1 w #[.string r.S.name, .slice A r.S.F.length a, .slice B r.S.P.length b, .int .i64 r.z.off, .bool r.z.sum, .slice C r.C.length c, .slice D r.U.length d] 31
  have HI0 := Lib.hid (HI.out.below hb0)
  clear hA hI
  go_enter Tryz.func15, Tryz.ntmps15
  go_wp2_with fail
  rw [← hW0]
  clear hW0
  refine (refLimValid_any r _ _ _ _ W0 HI0.out).mono ?_
  rintro e w1 ⟨rfl, hb1⟩
  have y0 : ∀ j, w1.cell? ⟨w.heap.size, j, none⟩ = _ := fun j => (hb1.cell (p := ⟨w.heap.size, j, none⟩) hg0).trans (hx0 j)
  have y1 : w.heap.size < w1.heap.size := Nat.lt_of_lt_of_le hg0 hb1.size
  have HI1 := Lib.hid (HI0.out.below hb1)
  have hb01 := below_step hb0 hb1
  clear hx0 hg0 hb1 HI0
  by_cases he : limE r = 0
  · have HE := Lib.hid he
    have HOK := Lib.hid (LimOk.of he)
    rw [he]
    clear he
    cases ht : timeB t with
    | false =>
      have HAE := Lib.hid (atE_time HE.out ht)
      have HAL := Lib.hid (atL_none (r := r) (t := t) (by rw [HAE.out]; decide))
      have HT := Lib.hid ht
      clear ht
      go_wp2_with fail
      refine (refRight_any t _).mono ?_
      rintro e w2 ⟨rfl, rfl⟩
      rw [HT.out]
      go_wp2_with fail
      go_ret2
      exact AtPost.mk HAE.out HAL.out (IsSl.nil _ _) hb01
    | true =>
      have HAE := Lib.hid (atE_ok HE.out ht)
      have HAL := Lib.hid (atL_ok HAE.out)
      have HT := Lib.hid ht
      clear ht
      go_wp2_with fail
      refine (refRight_any t _).mono ?_
      rintro e w2 ⟨rfl, rfl⟩
      rw [HT.out]
      go_wp2_with fail
      refine (refCaps_any r _ _ _ _ t _ HI1.out HOK.out.rated (by have := HOK.out.lens; omega)).mono ?_
      rintro e w3 ⟨v3, rfl, hs3, hb3⟩
      go_wp2_with fail
      go_ret2
      exact AtPost.mk HAE.out HAL.out hs3 (below_step hb01 hb3)
  · have HE := Lib.hid (atE_bad (t := t) he)
    have HL := Lib.hid (atL_none (r := r) (t := t) (by rw [HE.out]; exact he))
    have hne : (limE r != 0) = true := by simpa using he
    go_wp2_with fail
    go_ret2
    exact AtPost.mk HE.out HL.out (IsSl.nil _ _) hb01

set_option maxRecDepth 100000 in
set_option maxHeartbeats 1600000 in
theorem refSameCaps_any (a b : List CapR) (u v : Value) (w : World) (ha : a.length ≤ 1000000) (hb : b.length ≤ 1000000) (hu : IsSl w 4 u (a.map CapR.cells)) (hv : IsSl w 4 v (b.map CapR.cells)) :
    Calls Tryz.prog 16 #[u, v] w fun e w' => e = .returned (.bool (eqL a b)) ∧ Below w.heap.size w w' := by
  obtain ⟨A, c, rfl, hlc, hcm, hsl⟩ := islen' hu
  obtain ⟨B, d, rfl, hld, hdm, hsl2⟩ := islen' hv
  clear hu hv
  by_cases hl : a.length = b.length
  · have hne : ((a.length : Int) != (b.length : Int)) = false := by simp; omega
    have HL := Lib.hid hl
    clear hl
    go_enter Tryz.func16, Tryz.ntmps16
    go_wp2_with fail
    go_loopw [5] (fun i wr => ∃ (k : Nat), k ≤ a.length ∧ i = .int .i64 k ∧ Below w.heap.size w wr ∧ Hid (a.take k = b.take k)) (fun i _ => a.length - (intOf i).toNat)
    case atStart => exact ⟨0, by omega, rfl, Below.refl _ _, rfl⟩
    case round =>
      obtain ⟨k, hk, rfl, hbw, HT⟩ := hrel
      by_cases hlt : k < a.length
      · have hki : (k : Int) < (a.length : Int) := by omega
        have hlt2 : k < b.length := by have := HL.out; omega
        have hki2 : (k : Int) < (b.length : Int) := by omega
        obtain ⟨g, off, rfl, hb, c0, c1, c2, c3⟩ := cap_at (hsl.below hbw) hlt
        obtain ⟨g2, off2, rfl, hb2, d0, d1, d2, d3⟩ := cap_at (hsl2.below hbw) hlt2
        have HS := Lib.hid (take_step HT.out hlt hlt2)
        have HF := Lib.hid (take_stop hlt hlt2)
        generalize hx : a[k] = x at *
        generalize hy : b[k] = y at *
        clear hx hy
        have hnq := neq_cap x y
        have heg := fun w => run_eqGuard_agg (P := Tryz.prog) w .neq 56 (.tmp 20) (.tmp 24) #[.int .i64 x.a, .int .i64 x.b, .int .i64 x.c, .int .i64 x.t] #[.int .i64 y.a, .int .i64 y.b, .int .i64 y.c, .int .i64 y.t] Tryz.eqGuardType56
        cases hq : eqC x y with
        | true =>
          have HT2 := Lib.hid (HS.out ((eqC_iff x y).1 hq))
          rw [hq] at hnq
          go_wp2_with fail
          go_quiet (fail)
          go_wp2_with fail
          go_roundw
          case measure => simp [intOf]; omega
          case rel => exact ⟨k + 1, by omega, by go_num, (by repeat (first | exact hbw | refine below_alloc ?_ _ | refine below_drew ?_ | refine below_drewN ?_ _)), HT2⟩
        | false =>
          have HE := Lib.hid (eqL_f (fun h => absurd ((eqC_iff x y).2 (HF.out h)) (by simp [hq])))
          rw [hq] at hnq
          go_wp2_with fail
          go_quiet (fail)
          go_wp2_with fail
          go_ret
          exact ⟨ret_bool (by rw [HE.out]), (by repeat (first | exact hbw | refine below_alloc ?_ _ | refine below_drew ?_ | refine below_drewN ?_ _))⟩
      · have hkl : ¬ (k : Int) < (a.length : Int) := by omega
        have HE := Lib.hid (eqL_t (take_all HT.out HL.out hlt))
        go_wp2_with fail
        go_ret
        exact ⟨ret_bool (by rw [HE.out]), hbw⟩
  · have HE := Lib.hid (eqL_f (fun h : a = b => hl (by rw [h])))
    have hne : ((a.length : Int) != (b.length : Int)) = true := by simp; omega
    clear hl
    go_enter Tryz.func16, Tryz.ntmps16
    go_wp2_with fail
    go_ret
    exact ⟨ret_bool (by rw [HE.out]), Below.refl _ _⟩

end Go.Proofs.YtmappmeojmdekaaGreatDoor

namespace Go.Proofs.YtmappmeojmdekaaGreatDoor
open Go.RowKit Go.Lib Go.Maps
attribute [local go_sem] after_cell
set_option linter.unusedVariables false

theorem timeB_t {t : Int} (h0 : 0 ≤ t) (h1 : t ≤ 268435456) : timeB t = true := timeB_iff.2 ⟨h0, h1⟩
theorem timeB_f {t : Int} (h : ¬ (0 ≤ t ∧ t ≤ 268435456)) : timeB t = false := by
  cases e : timeB t with
  | false => rfl
  | true => exact absurd (timeB_iff.1 e) h

set_option maxRecDepth 100000 in
set_option maxHeartbeats 6400000 in
theorem limNext_any (r : RulR) (fv pv cv uv : Value) (t : Int) (w : World) (hv : LenV w) (hI : LimIn w r fv pv cv uv) :
    Calls Tryz.prog 18 #[.agg #[.string r.S.name, fv, pv, .int .i64 r.z.off, .bool r.z.sum, cv, uv], .int .i64 t] w fun e w' => e = .returned (.int .i64 (limN r t)) ∧ Below w.heap.size w w' := by
  have HI := Lib.hid hI
  obtain ⟨A, B, C, D, a, b, c, d, rfl, rfl, rfl, rfl, hA⟩ := hI.ad
  obtain ⟨W0, hW0, hb0, hg0, hx0⟩ := box1 w #[.string r.S.name, .slice A r.S.F.length a, .slice B r.S.P.length b, .int .i64 r.z.off, .bool r.z.sum, .slice C r.C.length c, .slice D r.U.length d] 31
  have HI0 := Lib.hid (HI.out.below hb0)
  have HV0 := Lib.hid (hv.below hb0)
  clear hA hI hv
  go_enter Tryz.func18, Tryz.ntmps18
  go_wp2_with fail
  rw [← hW0]
  clear hW0
  refine (limValid_any r _ _ _ _ W0 HI0.out).mono ?_
  rintro e w1 ⟨rfl, hb1⟩
  have y0 : ∀ j, w1.cell? ⟨w.heap.size, j, none⟩ = _ := fun j => (hb1.cell (p := ⟨w.heap.size, j, none⟩) hg0).trans (hx0 j)
  have y1 : w.heap.size < w1.heap.size := Nat.lt_of_lt_of_le hg0 hb1.size
  have HI1 := Lib.hid (HI0.out.below hb1)
  have HV1 := Lib.hid (HV0.out.below hb1)
  have hb01 := below_step hb0 hb1
  clear hx0 hg0 hb1 HI0 HV0
  by_cases he : limE r = 0
  · have HE := Lib.hid he
    have HOK := Lib.hid (LimOk.of he)
    have hne : (limE r != 0) = false := by simp [he]
    clear he
    by_cases ht : 0 ≤ t ∧ t ≤ 268435456
    · obtain ⟨t0, t1⟩ := ht
      have HN := Lib.hid (limN_in HE.out t0 t1)
      have HT := Lib.hid (timeB_t t0 t1)
      go_wp2_with fail
      refine (limTime_any t _).mono ?_
      rintro e w2 ⟨rfl, rfl⟩
      rw [HT.out]
      go_wp2_with fail
      refine (limNext_in r _ _ _ _ t _ HV1.out HI1.out HOK.out.rated HOK.out.ok.feeders (by have := HOK.out.ok.cn; omega) (by have := HOK.out.ok.un; omega) HOK.out.ok.curIn t0 t1).mono ?_
      rintro e w3 ⟨rfl, hb3⟩
      go_wp2_with fail
      go_ret
      exact ⟨ret_int HN.out.symm, below_step hb01 hb3⟩
    · have HN := Lib.hid (limN_out (r := r) (t := t) (fun h => ht h.2))
      have HT := Lib.hid (timeB_f ht)
      clear ht
      go_wp2_with fail
      refine (limTime_any t _).mono ?_
      rintro e w2 ⟨rfl, rfl⟩
      rw [HT.out]
      go_wp2_with fail
      go_ret
      exact ⟨ret_int HN.out.symm, hb01⟩
  · have HN := Lib.hid (limN_out (r := r) (t := t) (fun h => he h.1))
    have hne : (limE r != 0) = true := by simpa using he
    go_wp2_with fail
    go_ret
    exact ⟨ret_int HN.out.symm, hb01⟩

theorem firS_t {a b : Int} (h : a < 0 ∨ (0 ≤ b ∧ b < a)) : firS a b = b := if_pos h
theorem firS_f {a b : Int} (h : ¬ (a < 0 ∨ (0 ≤ b ∧ b < a))) : firS a b = a := if_neg h
set_option maxRecDepth 100000 in
theorem limFirst_any (a b : Int) (w : World) : Calls Tryz.prog 63 #[.int .i64 a, .int .i64 b] w fun e w' => e = .returned (.int .i64 (firS a b)) ∧ w = w' := by
  have hcase : a < 0 ∨ (¬ a < 0 ∧ 0 ≤ b ∧ b < a) ∨ (¬ a < 0 ∧ 0 ≤ b ∧ ¬ b < a) ∨ (¬ a < 0 ∧ ¬ 0 ≤ b) := by omega
  rcases hcase with h1 | ⟨h1, h2, h3⟩ | ⟨h1, h2, h3⟩ | ⟨h1, h2⟩
  · have H := Lib.hid (firS_t (a := a) (b := b) (.inl h1))
    go_enter Tryz.func63, Tryz.ntmps63
    go_wp2_with fail
    go_ret
    exact ⟨ret_int H.out.symm, rfl⟩
  · have H := Lib.hid (firS_t (a := a) (b := b) (.inr ⟨h2, h3⟩))
    go_enter Tryz.func63, Tryz.ntmps63
    go_wp2_with fail
    go_ret
    exact ⟨ret_int H.out.symm, rfl⟩
  · have H := Lib.hid (firS_f (a := a) (b := b) (fun h => by omega))
    go_enter Tryz.func63, Tryz.ntmps63
    go_wp2_with fail
    go_ret
    exact ⟨ret_int H.out.symm, rfl⟩
  · have H := Lib.hid (firS_f (a := a) (b := b) (fun h => by omega))
    go_enter Tryz.func63, Tryz.ntmps63
    go_wp2_with fail
    go_ret
    exact ⟨ret_int H.out.symm, rfl⟩

/-- the first candidate of the first k contracts -/
noncomputable def candN (r : LimR) (t : Int) (k : Nat) : Int := ((r.C.take k).map (nxA r.z t)).foldl firS (-1)
theorem candN_step {r : LimR} {t : Int} {k : Nat} (h : k < r.C.length) : candN r t (k + 1) = firS (candN r t k) (nxA r.z t r.C[k]) := by
  unfold candN
  rw [List.take_succ_eq_append_getElem h, List.map_append, List.foldl_append]; rfl
/-- .. of all contracts and the first k grid events -/
noncomputable def candM (r : LimR) (t : Int) (k : Nat) : Int := ((r.U.take k).flatMap (fun c => (if t < c.fr then [c.fr] else []) ++ (if t < c.to then [c.to] else []))).foldl firS (candN r t r.C.length)
theorem candM_zero (r : LimR) (t : Int) : candM r t 0 = candN r t r.C.length := by simp [candM]
theorem candM_step {r : LimR} {t : Int} {k : Nat} (h : k < r.U.length) : candM r t (k + 1) = (if t < r.U[k].to then firS (if t < r.U[k].fr then firS (candM r t k) r.U[k].fr else candM r t k) r.U[k].to else (if t < r.U[k].fr then firS (candM r t k) r.U[k].fr else candM r t k)) := by
  unfold candM
  rw [List.take_succ_eq_append_getElem h, List.flatMap_append, List.foldl_append]
  simp only [List.flatMap_cons, List.flatMap_nil, List.append_nil, List.foldl_append]
  by_cases a : t < r.U[k].fr <;> by_cases b : t < r.U[k].to <;> simp [a, b]
theorem candM_full (r : LimR) {t : Int} (h0 : 0 ≤ t) (h1 : t ≤ 268435456) : candM r t r.U.length = candR r t := by
  rw [← candR_fold r h0 h1]
  unfold candM candN candL
  rw [List.take_length, List.take_length, List.foldl_append]

set_option maxRecDepth 100000 in
set_option maxHeartbeats 12800000 in
theorem refCand_any (r : RulR) (fv pv cv uv : Value) (t : Int) (w : World) (hI : LimIn w r fv pv cv uv) (h0 : 0 ≤ t) (h1 : t ≤ 268435456) :
    Calls Tryz.prog 39 #[.agg #[.string r.S.name, fv, pv, .int .i64 r.z.off, .bool r.z.sum, cv, uv], .int .i64 t] w fun e w' => e = .returned (.int .i64 (candR r.lim t)) ∧ Below w.heap.size w w' := by
  have HI := Lib.hid hI
  obtain ⟨A, B, C, D, a, b, c, d, rfl, rfl, rfl, rfl, hA⟩ := hI.ad
  obtain ⟨W0, hW0, hb0, hg0, hx0⟩ := box1 w #[.string r.S.name, .slice A r.S.F.length a, .slice B r.S.P.length b, .int .i64 r.z.off, .bool r.z.sum, .slice C r.C.length c, .slice D r.U.length d] 31
  obtain ⟨l1, l2⟩ := hA.lC
  obtain ⟨m1, m2⟩ := hA.lU
  unfold maxLen at l2 m2
  have HA0 := Lib.hid (hA.below hb0)
  have HFULL := Lib.hid (candM_full r.lim h0 h1)
  have HZERO := Lib.hid (candM_zero r.lim t)
  clear hA hI
  go_enter Tryz.func39, Tryz.ntmps39
  go_wp2_with fail
  rw [← hW0]
  clear hW0
  go_loopw [5, 6] (fun n i wr => ∃ k : Nat, k ≤ r.C.length ∧ n = .int .i64 (candN r.lim t k) ∧ i = .int .i64 k ∧ Below W0.heap.size W0 wr) (fun _ i _ => r.C.length - (intOf i).toNat)
  case atStart => exact ⟨0, by omega, rfl, rfl, Below.refl _ _⟩
  case round =>
    obtain ⟨k, hk, rfl, rfl, hbw⟩ := hrel
    have y0 : ∀ j, wr.cell? ⟨w.heap.size, j, none⟩ = _ := fun j => (hbw.cell (p := ⟨w.heap.size, j, none⟩) hg0).trans (hx0 j)
    have y1 : w.heap.size < wr.heap.size := Nat.lt_of_lt_of_le hg0 hbw.size
    have hbr := Below.refl wr.heap.size wr
    by_cases hlt : k < r.C.length
    · have hki : (k : Int) < (r.C.length : Int) := by omega
      obtain ⟨blk, off, rfl, hb, c0, c1, c2, c3, c4, c5, c6, c7⟩ := con_at (HA0.out.below hbw).sC hlt
      have HS : Hid (candN r.lim t (k + 1) = firS (candN r.lim t k) (nxA r.z t r.C[k])) := candN_step (r := r.lim) hlt
      generalize r.C[k] = x at *
      have HNX := Lib.hid (fun w' => (show Calls Tryz.prog 64 #[.agg #[.int .i64 x.w.dy, .int .i64 x.w.st, .int .i64 x.w.en, .int .i64 x.w.fr, .int .i64 x.w.to], .agg #[.int .i64 r.z.off, .bool r.z.sum], .int .i64 t] w' fun e w'' => e = .returned (.int .i64 (nxA r.z t x)) ∧ Below w'.heap.size w' w'' from refNext_any x.w r.z t w'))
      generalize candN r.lim t k = n at *
      go_wp2_with fail
      (refine wp_region_kept wr (by kernel_rfl) (by kernel_rfl) (by assumption) ?_; (repeat (go_big_quiet_step ((first | (go_at_call 64; exact kept_call (HNX.out _)) | (go_at_call 63; exact kept_same (limFirst_any _ _ _)))))); refine wpQuiet_nil ?_; intro _ hw'; obtain ⟨x9, hw''⟩ := hw'; subst hw''; have hk9 := after_kept x9; generalize after x9 = w9 at *)
      obtain ⟨hc9, hb9⟩ := hk9
      go_wp2_with fail
      go_roundw
      case measure => simp [intOf]; omega
      case rel => exact ⟨k + 1, by omega, by rw [HS.out], by go_num, below_step hbw hb9⟩
    · have hki : ¬ (k : Int) < (r.C.length : Int) := by omega
      obtain rfl : k = r.C.length := by omega
      rw [show r.lim.C.length = r.C.length from rfl] at HZERO
      rw [← HZERO.out]
      have hbwm := below_step hb0 hbw
      have HAr := Lib.hid (HA0.out.below hbw)
      clear hk hlt hki hbr hbw hg0 hx0 HA0
      go_wp2_with fail
      generalize wr = wm at *
      go_loopw [5, 7] (fun n i wx => ∃ k : Nat, k ≤ r.U.length ∧ n = .int .i64 (candM r.lim t k) ∧ i = .int .i64 k ∧ Below wm.heap.size wm wx) (fun _ i _ => r.U.length - (intOf i).toNat)
      case atStart => exact ⟨0, by omega, rfl, rfl, Below.refl _ _⟩
      case round =>
        obtain ⟨k, hk, rfl, rfl, hbx⟩ := hrel
        have z0 : ∀ j, wr.cell? ⟨w.heap.size, j, none⟩ = _ := fun j => (hbx.cell (p := ⟨w.heap.size, j, none⟩) y1).trans (y0 j)
        have z1 : w.heap.size < wr.heap.size := Nat.lt_of_lt_of_le y1 hbx.size
        by_cases hlt : k < r.U.length
        · have hki : (k : Int) < (r.U.length : Int) := by omega
          obtain ⟨blk, off, rfl, hb, c0, c1, c2, c3, c4, c5, c6⟩ := cur_at (HAr.out.below hbx).sU hlt
          have HS : Hid (candM r.lim t (k + 1) = (if t < r.U[k].to then firS (if t < r.U[k].fr then firS (candM r.lim t k) r.U[k].fr else candM r.lim t k) r.U[k].to else (if t < r.U[k].fr then firS (candM r.lim t k) r.U[k].fr else candM r.lim t k))) := candM_step (r := r.lim) hlt
          generalize r.U[k] = x at *
          obtain ⟨xnm, xver, xfd, xfr, xto, xtot, xoff⟩ := x
          simp only at *
          have c4' : wr.cell? ⟨blk, off + k * 7 + 3 + 1, none⟩ = some (.int .i64 xto) := c4
          generalize candM r.lim t k = n at *
          by_cases k1 : t < xfr
          · by_cases k2 : t < xto
            · rw [if_pos k1, if_pos k2] at HS
              go_wp2_with (first | (go_at_call 63; refine (limFirst_any _ _ _).mono ?_; rintro e w2 ⟨rfl, rfl⟩))
              go_roundw
              case measure => simp [intOf]; omega
              case rel => exact ⟨k + 1, by omega, by rw [HS.out], by go_num, below_alloc hbx _⟩
            · rw [if_neg k2, if_pos k1] at HS
              go_wp2_with (first | (go_at_call 63; refine (limFirst_any _ _ _).mono ?_; rintro e w2 ⟨rfl, rfl⟩))
              go_roundw
              case measure => simp [intOf]; omega
              case rel => exact ⟨k + 1, by omega, by rw [HS.out], by go_num, below_alloc hbx _⟩
          · by_cases k2 : t < xto
            · rw [if_neg k1, if_pos k2] at HS
              go_wp2_with (first | (go_at_call 63; refine (limFirst_any _ _ _).mono ?_; rintro e w2 ⟨rfl, rfl⟩))
              go_roundw
              case measure => simp [intOf]; omega
              case rel => exact ⟨k + 1, by omega, by rw [HS.out], by go_num, below_alloc hbx _⟩
            · rw [if_neg k2, if_neg k1] at HS
              go_wp2_with fail
              go_roundw
              case measure => simp [intOf]; omega
              case rel => exact ⟨k + 1, by omega, by rw [HS.out], by go_num, below_alloc hbx _⟩
        · have hki : ¬ (k : Int) < (r.U.length : Int) := by omega
          obtain rfl : k = r.U.length := by omega
          rw [show r.lim.U.length = r.U.length from rfl] at HFULL
          go_wp2_with fail
          go_ret
          exact ⟨ret_int HFULL.out, below_step hbwm hbx⟩

end Go.Proofs.YtmappmeojmdekaaGreatDoor

namespace Go.Proofs.YtmappmeojmdekaaGreatDoor
open Go.RowKit Go.Lib Go.Maps
attribute [local go_sem] after_cell
set_option linter.unusedVariables false

theorem difR_eqL (r : RulR) (t : Int) : (!eqL (capsL r t) (capsL r (t - 1))) = difR r.lim t := by
  cases h : difR r.lim t with
  | false => rw [eqL_t (difR_caps.1 h)]; rfl
  | true => rw [eqL_f (fun e => by rw [difR_caps.2 e] at h; cases h)]; rfl
theorem capsL_le {r : RulR} (h : r.S.F.length ≤ 100) (t : Int) : (capsL r t).length ≤ 1000000 := by rw [capsL_len]; omega

set_option maxRecDepth 100000 in
set_option maxHeartbeats 12800000 in
theorem refLimNext_any (r : RulR) (fv pv cv uv : Value) (t : Int) (w : World) (hI : LimIn w r fv pv cv uv) :
    Calls Tryz.prog 19 #[.agg #[.string r.S.name, fv, pv, .int .i64 r.z.off, .bool r.z.sum, cv, uv], .int .i64 t] w fun e w' => e = .returned (.int .i64 (limN r t)) ∧ Below w.heap.size w w' := by
  have HI := Lib.hid hI
  obtain ⟨A, B, C, D, a, b, c, d, rfl, rfl, rfl, rfl, hA⟩ := hI.ad
  obtain ⟨W0, hW0, hb0, hg0, hx0⟩ := box1 w #[.string r.S.name, .slice A r.S.F.length a, .slice B r.S.P.length b, .int .i64 r.z.off, .bool r.z.sum, .slice C r.C.length c, .slice D r.U.length d] 31
  have HI0 := Lib.hid (HI.out.below hb0)
  clear hA hI
  go_enter Tryz.func19, Tryz.ntmps19
  go_wp2_with fail
  rw [← hW0]
  clear hW0
  refine (refLimValid_any r _ _ _ _ W0 HI0.out).mono ?_
  rintro e w1 ⟨rfl, hb1⟩
  have y0 : ∀ j, w1.cell? ⟨w.heap.size, j, none⟩ = _ := fun j => (hb1.cell (p := ⟨w.heap.size, j, none⟩) hg0).trans (hx0 j)
  have y1 : w.heap.size < w1.heap.size := Nat.lt_of_lt_of_le hg0 hb1.size
  have HI1 := Lib.hid (HI0.out.below hb1)
  have hb01 := below_step hb0 hb1
  clear hx0 hg0 hb1 HI0
  by_cases he : limE r = 0
  · have HE := Lib.hid he
    have HOK := Lib.hid (LimOk.of he)
    have hne : (limE r != 0) = false := by simp [he]
    clear he
    by_cases ht : 0 ≤ t ∧ t ≤ 268435456
    · obtain ⟨t0, t1⟩ := ht
      have HN := Lib.hid (limN_in HE.out t0 t1)
      have HT := Lib.hid (timeB_t t0 t1)
      have HCU : Hid (CurIn r.lim.U) := HOK.out.ok.curIn
      have HST := Lib.hid (NxSt.start HCU.out t0 t1)
      go_wp2_with fail
      refine (refRight_any t _).mono ?_
      rintro e w2 ⟨rfl, rfl⟩
      rw [HT.out]
      go_wp2_with fail
      refine (refCand_any r _ _ _ _ t _ HI1.out t0 t1).mono ?_
      rintro e w3 ⟨rfl, hb3⟩
      have z0 : ∀ j, w3.cell? ⟨w.heap.size, j, none⟩ = _ := fun j => (hb3.cell (p := ⟨w.heap.size, j, none⟩) y1).trans (y0 j)
      have z1 : w.heap.size < w3.heap.size := Nat.lt_of_lt_of_le y1 hb3.size
      have HI3 := Lib.hid (HI1.out.below hb3)
      have hb03 := below_step hb01 hb3
      clear y0 y1 HI1 hb3
      go_wp2_with fail
      go_loopw [5] (fun s wr => ∃ u : Int, s = .int .i64 u ∧ Hid (NxSt r.lim t u) ∧ Below w3.heap.size w3 wr) (fun s _ => mesT (intOf s))
      case atStart => exact ⟨_, rfl, HST.out, Below.refl _ _⟩
      case round =>
        obtain ⟨u, rfl, HU, hbw⟩ := hrel
        have v0 : ∀ j, wr.cell? ⟨w.heap.size, j, none⟩ = _ := fun j => (hbw.cell (p := ⟨w.heap.size, j, none⟩) z1).trans (z0 j)
        have v1 : w.heap.size < wr.heap.size := Nat.lt_of_lt_of_le z1 hbw.size
        have HIr := Lib.hid (HI3.out.below hbw)
        by_cases hu : 0 ≤ u
        · have hu1 : u ≤ 268435456 := by have := HU.out.rng; omega
          have hwt : IntKind.i64.wrap (u - 1) = u - 1 := IntWalk.i64_in _ (by omega)
          have hbr := Below.refl wr.heap.size wr
          have HCP := Lib.hid (fun u w' (h : (∀ b o, b < wr.heap.size → w'.cell? ⟨b, o, none⟩ = wr.cell? ⟨b, o, none⟩) ∧ Below wr.heap.size wr w') => refCaps_any r _ _ _ _ u w' (HIr.out.below h.2) HOK.out.rated (by have := HOK.out.lens; omega))
          have hl1 := capsL_le (r := r) (by have := HOK.out.lens; omega) u
          have hl2 := capsL_le (r := r) (by have := HOK.out.lens; omega) (u - 1)
          have HDE := Lib.hid (difR_eqL r u)
          go_wp2_with fail
          go_cut [30] (fun v wx => v = .bool (difR r.lim u) ∧ Below wr.heap.size wr wx)
          case first =>
            go_region_held3 (fun w' => (∀ b o, b < wr.heap.size → w'.cell? ⟨b, o, none⟩ = wr.cell? ⟨b, o, none⟩) ∧ Below wr.heap.size wr w') (first | exact ⟨(bcell (W := wr) (by assumption)).1, by assumption⟩ | exact ⟨(bcell (W := wr) (Below.drew (by assumption))).1, Below.drew (by assumption)⟩) ((first
              | (go_at_call 37; have hz7 := hb7; refine (HCP.out _ _ (by assumption)).mono ?_; rintro e w8 ⟨v8, rfl, hs8, hb8⟩; have hb68 := below_step (w := wr) (And.right (by assumption)) hb8; have hs78 := hs7.below hb8)
              | (go_at_call 37; refine (HCP.out _ _ (by assumption)).mono ?_; rintro e w7 ⟨v7, rfl, hs7, hb7⟩; have hb67 := below_step (w := wr) (And.right (by assumption)) hb7)
              | (go_at_call 16; refine (refSameCaps_any _ _ _ _ _ hl1 hl2 hs78 hs8).mono ?_; rintro e w9 ⟨rfl, hb9⟩; have hb69 := below_step (w := wr) (And.right (by assumption)) hb9)))
            all_goals
              go_wp2_with fail
              go_meet
              exact ⟨by rw [HDE.out], hb69⟩
          case rest =>
            obtain ⟨rfl, hbx⟩ := hcut
            have hbwx := below_step hbw hbx
            have u0 := fun j => (hbx.cell (p := ⟨w.heap.size, j, none⟩) v1).trans (v0 j)
            have u1 := Nat.lt_of_lt_of_le v1 hbx.size
            have HIX := Lib.hid (HI3.out.below hbwx)
            clear v0 v1 HIr HCP hl1 hl2 HDE hwt hbr
            cases hd : difR r.lim u with
            | true =>
              have HE2 := Lib.hid (HU.out.found hu hd)
              clear hd
              go_wp2_with fail
              go_ret
              exact ⟨ret_int (by rw [HN.out, HE2.out]), below_step hb03 hbwx⟩
            | false =>
              have HU2 := Lib.hid (HU.out.next HCU.out t0 hu hd)
              have hdec : candR r.lim u = -1 ∨ (u < candR r.lim u ∧ candR r.lim u ≤ 268435456) := by
                have h1 := candR_top HCU.out hu hu1
                rcases candR_cases r.lim hu hu1 with ⟨h, _⟩ | ⟨h, _⟩ <;> omega
              clear hd
              go_wp2_with fail
              refine (refCand_any r _ _ _ _ u _ HIX.out hu hu1).mono ?_
              rintro e w8 ⟨rfl, hb8⟩
              go_wp2_with fail
              go_roundw
              case measure => exact mesT_dec hu hu1 hdec
              case rel => exact ⟨_, rfl, HU2, below_step hbwx hb8⟩
        · have HE2 := Lib.hid (HU.out.done (by omega) t0)
          go_wp2_with fail
          go_ret
          exact ⟨ret_int (by rw [HN.out, HE2.out]), below_step hb03 hbw⟩
    · have HN := Lib.hid (limN_out (r := r) (t := t) (fun h => ht h.2))
      have HT := Lib.hid (timeB_f ht)
      clear ht
      go_wp2_with fail
      refine (refRight_any t _).mono ?_
      rintro e w2 ⟨rfl, rfl⟩
      rw [HT.out]
      go_wp2_with fail
      go_ret
      exact ⟨ret_int HN.out.symm, hb01⟩
  · have HN := Lib.hid (limN_out (r := r) (t := t) (fun h => he h.1))
    have hne : (limE r != 0) = true := by simpa using he
    go_wp2_with fail
    go_ret
    exact ⟨ret_int HN.out.symm, hb01⟩

end Go.Proofs.YtmappmeojmdekaaGreatDoor

namespace Go.Proofs.YtmappmeojmdekaaGreatDoor
open Go.RowKit Go.Lib Go.Maps
set_option linter.unusedVariables false

structure PathInv (F : List Feed) (i0 : Int) (pre : List Nat) (last : Nat) (p : Int) : Prop where
  eq : pathL F F.length i0 = pre ++ pathL F last p
  le : pre.length + last ≤ F.length
theorem PathInv.start (F : List Feed) (i0 : Int) : PathInv F i0 [] F.length i0 := ⟨by simp, by simp⟩
theorem PathInv.next {F : List Feed} {i0 : Int} {pre : List Nat} {last k : Nat} (h : PathInv F i0 pre last (k : Int)) (hk : k < last) (hl : k < F.length) : PathInv F i0 (pre ++ [k]) k F[k].parent := by
  refine ⟨?_, ?_⟩
  · rw [h.eq, pathL_in hk hl]; simp
  · have := h.le; simp; omega
theorem PathInv.stop {F : List Feed} {i0 p : Int} {pre : List Nat} {last : Nat} (h : PathInv F i0 pre last p) (hk : ¬ (0 ≤ p ∧ p < last)) : pathL F F.length i0 = pre := by
  rw [h.eq, pathL_out hk, List.append_nil]
theorem snoc_encN {pre : List Nat} {k : Nat} : pre.flatMap encN ++ [Value.int .i64 (k : Int)] = (pre ++ [k]).flatMap encN := by rw [List.flatMap_append]; rfl
theorem last_encN {pre : List Nat} {m last : Nat} (hm : pre.length = m + 1) (h : pre.getLast? = some last) : (pre.flatMap encN)[m]? = some (.int .i64 (last : Int)) := by
  have h1 : pre[m]? = some last := by rw [← h, List.getLast?_eq_getElem?, hm]; rfl
  have := flat_at encN 1 encN_len pre m last h1 0 _ rfl
  simpa using this

set_option maxRecDepth 100000 in
set_option maxHeartbeats 6400000 in
theorem path_any (nm : ByteArray) (F : List Feed) (fv : Value) (B : Option Addr) (m d : Nat) (i0 : Int) (w : World) (hF : IsSl w 5 fv (F.map Feed.cells)) (hl : F.length ≤ 1000000) :
    Calls Tryz.prog 25 #[.agg #[.string nm, fv, .slice B m d], .int .i64 i0] w fun e w' => ∃ v, e = .returned v ∧ IsSl w' 1 v ((pathL F F.length i0).map encN) ∧ Below w.heap.size w w' := by
  obtain ⟨A, c, rfl, hlc, hcm, hsl⟩ := islen' hF
  obtain ⟨i1, hi, hz0, hz1, hz2⟩ := info_parts intInfo
  obtain ⟨W0, hW0, hb0, hg0, hx0⟩ := box1 w #[.string nm, .slice A F.length c, .slice B m d] 25
  have HSL := Lib.hid (hsl.below hb0)
  clear hF hsl hlc hcm
  go_enter Tryz.func25, Tryz.ntmps25
  go_wp2_with fail
  rw [← hW0]
  clear hW0
  go_loopw [5, 6] (fun v i wr => ∃ (pre : List Nat) (last : Nat) (p : Int), i = .int .i64 p ∧ Below W0.heap.size W0 wr ∧ wr.ownsRow W0.heap.size 3 1 v pre.length (pre.flatMap encN) ∧ Hid (PathInv F i0 pre last p) ∧ Hid ((pre = [] ∧ last = F.length) ∨ pre.getLast? = some last)) (fun v _ _ => F.length + 1 - sliceLen v)
  case atStart => exact ⟨[], F.length, i0, rfl, Below.refl _ _, World.ownsRow_nil _ _ _ _, PathInv.start F i0, .inl ⟨rfl, rfl⟩⟩
  case round =>
    obtain ⟨pre, last, p, rfl, hbw, hown, HI, HL⟩ := hrel
    obtain ⟨hc, hf⟩ := bcell hbw
    have hle := HI.out.le
    have hlv := own_len hown
    by_cases hp : 0 ≤ p ∧ p < F.length
    · obtain ⟨k, rfl⟩ : ∃ k : Nat, p = k := ⟨p.toNat, by omega⟩
      have hk : k < F.length := by omega
      have hif : (decide (0 ≤ (k : Int)) && decide ((k : Int) < (F.length : Int))) = true := by simp; omega
      have hki : (k : Int) < (F.length : Int) := by omega
      obtain ⟨b, off, rfl, hbb, c0, c1, c2, c3, c4⟩ := feed_at HSL.out hk
      clear c0 c2 c3 c4 hp
      have HLV := Lib.hid hlv
      clear hlv
      have HNX := Lib.hid (fun h => HI.out.next h hk)
      generalize F[k].parent = par at *
      rcases Nat.eq_zero_or_pos pre.length with hz | hz
      · have hkl : k < last := by
          rcases HL.out with ⟨_, h⟩ | h
          · omega
          · rw [List.eq_nil_of_length_eq_zero hz] at h; simp at h
        have HN := Lib.hid (HNX.out hkl)
        clear HNX
        obtain ⟨A2, cap, hv⟩ := own_shape hown
        rw [hz] at hv
        obtain rfl := hv
        have HZ := Lib.hid hz
        clear hz
        go_wp2_with fail
        refine (isFeeder_any nm (some ⟨b, off, none⟩) F.length c _ k _).mono ?_
        rintro e w3 ⟨rfl, hb3⟩
        rw [hif]
        have hown3 := own_below hown hb3
        have hbw3 := hbw.trans (hb3.mono hbw.size)
        clear hc hf
        obtain ⟨hc, hf⟩ := bcell hbw3
        go_wp2_with (at_builtin; refine wpList_append_row _ _ rfl (.tmp 30) (.tmp 32) _ rfl W0.heap.size 3 i1 _ 1 8 Tryz.underlying57 hi hz0 hz1 hz2 rfl (by decide) _ _ _ rfl hown3 _ rfl rfl (by intro u hu; simp at hu; rcases hu with rfl; rfl) (by omega) (by omega) hbw3.size ?_; intro v' w2 hown2 hgrow hblk; have hb2 := below_grown hbw3 hown3 (Nat.le_refl _) hgrow; clear hc hf; obtain ⟨hc, hf⟩ := bcell hb2)
        rw [snoc_encN] at hown2
        go_roundw
        case measure => rw [own_len hown2, HLV.out]; have := HN.out.le; simp at this; omega
        case rel => exact ⟨pre ++ [k], k, par, rfl, hb2, by rw [List.length_append]; exact hown2, HN.out, .inr (by simp)⟩
      · have hgl : pre.getLast? = some last := by
          rcases HL.out with ⟨h, _⟩ | h
          · rw [h] at hz; simp at hz
          · exact h
        obtain ⟨q, hq⟩ : ∃ q, pre.length = q + 1 := ⟨pre.length - 1, by omega⟩
        have HLE := Lib.hid (last_encN hq hgl)
        have HG := Lib.hid hgl
        clear hgl
        obtain ⟨g, cap, rfl, hg1, hg2, hcap, hcap2, hcl⟩ := own_split hown hz
        have hcq := hcl q _ HLE.out
        clear hcl
        have HQ := Lib.hid hq
        rw [hq] at hown hle hcap
        have hz' : 0 < q + 1 := by omega
        by_cases hkl : k < last
        · have hkli : (k : Int) < (last : Int) := by omega
          have HN := Lib.hid (HNX.out hkl)
          clear HNX
          rw [hq]
          clear hq hz
          go_wp2_with fail
          refine (isFeeder_any nm (some ⟨b, off, none⟩) F.length c _ k _).mono ?_
          rintro e w3 ⟨rfl, hb3⟩
          rw [hif]
          have hown3 := own_below hown hb3
          have hcq3 := (hb3.cell (p := ⟨g, q, none⟩) hg2).trans hcq
          have hbw3 := hbw.trans (hb3.mono hbw.size)
          clear hc hf
          obtain ⟨hc, hf⟩ := bcell hbw3
          go_wp2_with (at_builtin; refine wpList_append_row _ _ rfl (.tmp 30) (.tmp 32) _ rfl W0.heap.size 3 i1 _ 1 8 Tryz.underlying57 hi hz0 hz1 hz2 rfl (by decide) _ _ _ rfl hown3 _ rfl rfl (by intro u hu; simp at hu; rcases hu with rfl; rfl) (by omega) (by omega) hbw3.size ?_; intro v' w2 hown2 hgrow hblk; have hb2 := below_grown hbw3 hown3 (Nat.le_refl _) hgrow; clear hc hf; obtain ⟨hc, hf⟩ := bcell hb2)
          rw [snoc_encN] at hown2
          go_roundw
          case measure => rw [own_len hown2]; have := HN.out.le; simp at this; have := HQ.out; simp [sliceLen]; omega
          case rel => exact ⟨pre ++ [k], k, par, rfl, hb2, by rw [List.length_append, HQ.out]; exact hown2, HN.out, .inr (by simp)⟩
        · have hkli : ¬ (k : Int) < (last : Int) := by omega
          have HE := Lib.hid (HI.out.stop (fun h => hkli h.2))
          rw [hq]
          clear hq hz
          go_wp2_with fail
          refine (isFeeder_any nm (some ⟨b, off, none⟩) F.length c _ k _).mono ?_
          rintro e w3 ⟨rfl, hb3⟩
          rw [hif]
          have hown3 := own_below hown hb3
          have hcq3 := (hb3.cell (p := ⟨g, q, none⟩) hg2).trans hcq
          have hbw3 := hbw.trans (hb3.mono hbw.size)
          clear hc hf
          obtain ⟨hc, hf⟩ := bcell hbw3
          go_wp2_with fail
          go_ret
          exact ⟨_, rfl, by rw [HE.out]; exact IsSl.of_own encN_len hown3 HQ.out, below_step hb0 hbw3⟩
    · have hif : (decide (0 ≤ p) && decide (p < (F.length : Int))) = false := by simp; omega
      have HE := Lib.hid (HI.out.stop (fun h => hp ⟨h.1, by have := h.2; have := hle; omega⟩))
      obtain ⟨A2, cap, rfl⟩ := own_shape hown
      clear hp hlv
      go_wp2_with fail
      refine (isFeeder_any nm A F.length c _ p _).mono ?_
      rintro e w3 ⟨rfl, hb3⟩
      rw [hif]
      have hown3 := own_below hown hb3
      have hbw3 := hbw.trans (hb3.mono hbw.size)
      clear hc hf
      go_wp2_with fail
      go_ret
      exact ⟨_, rfl, by rw [HE.out]; exact IsSl.of_own encN_len hown3 rfl, below_step hb0 hbw3⟩

set_option maxRecDepth 100000 in
set_option maxHeartbeats 6400000 in
theorem refPath_any (nm : ByteArray) (F : List Feed) (fv : Value) (B : Option Addr) (m d : Nat) (i0 : Int) (w : World) (hF : IsSl w 5 fv (F.map Feed.cells)) (hl : F.length ≤ 1000000) :
    Calls Tryz.prog 40 #[.agg #[.string nm, fv, .slice B m d], .int .i64 i0] w fun e w' => ∃ v, e = .returned v ∧ IsSl w' 1 v ((pathL F F.length i0).map encN) ∧ Below w.heap.size w w' ∧ Fresh w v := by
  obtain ⟨A, c, rfl, hlc, hcm, hsl⟩ := islen' hF
  obtain ⟨i1, hi, hz0, hz1, hz2⟩ := info_parts intInfo
  obtain ⟨W0, hW0, hb0, hg0, hx0⟩ := box1 w #[.string nm, .slice A F.length c, .slice B m d] 25
  have HSL := Lib.hid (hsl.below hb0)
  clear hF hsl hlc hcm
  go_enter Tryz.func40, Tryz.ntmps40
  go_wp2_with fail
  rw [← hW0]
  clear hW0
  go_loopw [5, 6, 7] (fun v l i wr => ∃ (pre : List Nat) (last : Nat) (p : Int), l = .int .i64 last ∧ i = .int .i64 p ∧ Below W0.heap.size W0 wr ∧ wr.ownsRow W0.heap.size 3 1 v pre.length (pre.flatMap encN) ∧ Hid (PathInv F i0 pre last p)) (fun _ l _ _ => (intOf l).toNat)
  case atStart => exact ⟨[], F.length, i0, rfl, rfl, Below.refl _ _, World.ownsRow_nil _ _ _ _, PathInv.start F i0⟩
  case round =>
    obtain ⟨pre, last, p, rfl, rfl, hbw, hown, HI⟩ := hrel
    obtain ⟨hc, hf⟩ := bcell hbw
    have hle := HI.out.le
    by_cases hp : 0 ≤ p ∧ p < last
    · obtain ⟨k, rfl⟩ : ∃ k : Nat, p = k := ⟨p.toNat, by omega⟩
      have hk : k < F.length := by omega
      have hkl : k < last := by omega
      have hki : (k : Int) < (F.length : Int) := by omega
      have hkli : (k : Int) < (last : Int) := by omega
      obtain ⟨b, off, rfl, hbb, c0, c1, c2, c3, c4⟩ := feed_at HSL.out hk
      clear c0 c2 c3 c4 hp
      have HN := Lib.hid (HI.out.next hkl hk)
      generalize F[k].parent = par at *
      go_wp2_with (at_builtin; refine wpList_append_row _ _ rfl (.tmp 25) (.tmp 27) _ rfl W0.heap.size 3 i1 _ 1 8 Tryz.underlying57 hi hz0 hz1 hz2 rfl (by decide) _ _ _ rfl hown _ rfl rfl (by intro u hu; simp at hu; rcases hu with rfl; rfl) (by omega) (by omega) hbw.size ?_; intro v' w2 hown2 hgrow hblk; have hb2 := below_grown hbw hown (Nat.le_refl _) hgrow; clear hc hf; obtain ⟨hc, hf⟩ := bcell hb2)
      rw [snoc_encN] at hown2
      go_roundw
      case measure => simp [intOf]; omega
      case rel => exact ⟨pre ++ [k], k, par, rfl, rfl, hb2, by rw [List.length_append]; exact hown2, HN.out⟩
    · have HE := Lib.hid (HI.out.stop hp)
      by_cases hp0 : 0 ≤ p
      · have hp1 : ¬ p < (last : Int) := by omega
        clear hp
        go_wp2_with fail
        go_ret
        exact ⟨_, rfl, by rw [HE.out]; exact IsSl.of_own encN_len hown rfl, below_step hb0 hbw, fresh_own hown hb0.size⟩
      · clear hp
        go_wp2_with fail
        go_ret
        exact ⟨_, rfl, by rw [HE.out]; exact IsSl.of_own encN_len hown rfl, below_step hb0 hbw, fresh_own hown hb0.size⟩

end Go.Proofs.YtmappmeojmdekaaGreatDoor

namespace Go.Proofs.YtmappmeojmdekaaGreatDoor
open Go.RowKit Go.Lib Go.Maps
attribute [local go_sem] after_cell
set_option linter.unusedVariables false

theorem natL_at {w : World} {A : Option Addr} {l : List Nat} (h : SlAt w 1 A (l.map encN)) {k : Nat} (hk : k < l.length) :
    ∃ b off, A = some ⟨b, off, none⟩ ∧ b < w.heap.size ∧ w.cell? ⟨b, off + k, none⟩ = some (.int .i64 (l[k] : Nat)) := by
  obtain ⟨b, off, e, hb, hc⟩ := h k (encN l[k]) (by rw [List.getElem?_map, List.getElem?_eq_getElem hk]; rfl)
  refine ⟨b, off, e, hb, ?_⟩
  have := hc 0 _ rfl
  simpa using this
/-- the least of the first k feeders of a path -/
noncomputable def pathN (r : RulR) (f t : Int) (k : Nat) : Int := ((pathL r.S.F r.S.F.length f).take k).foldl (fun n (q : Nat) => min n (capF r.lim q t)) (capF r.lim f t)
theorem pathN_step {r : RulR} {f t : Int} {k : Nat} (h : k < (pathL r.S.F r.S.F.length f).length) : pathN r f t (k + 1) = min (pathN r f t k) (capF r.lim (pathL r.S.F r.S.F.length f)[k] t) := by
  unfold pathN; rw [List.take_succ_eq_append_getElem h, List.foldl_append]; rfl
theorem pathN_full {r : RulR} {f t : Int} (h : atE r t = 0) (h0 : 0 ≤ f) (h1 : f < r.S.F.length) : pathN r f t (pathL r.S.F r.S.F.length f).length = pathA r f t := by
  unfold pathN pathA
  rw [List.take_length, if_neg]
  unfold atE at h
  split at h
  · rename_i g; exact absurd h g
  · rename_i g
    split at h
    · cases h
    · rename_i g2
      have := timeB_iff.1 (by simpa using g2)
      rintro (e | e | e | e | e)
      · exact g e
      · omega
      · omega
      · omega
      · omega
theorem pathA_out {r : RulR} {f t : Int} (h : atE r t ≠ 0 ∨ f < 0 ∨ (r.S.F.length : Int) ≤ f) : pathA r f t = 0 := by
  unfold pathA
  refine if_pos ?_
  rcases h with h | h | h
  · by_cases g : limE r = 0
    · right
      cases ht : timeB t with
      | false =>
        by_cases q : 0 ≤ t ∧ t ≤ 268435456
        · rw [timeB_t q.1 q.2] at ht; cases ht
        · omega
      | true => exact absurd (atE_ok g ht) h
    · exact .inl g
  · exact .inr (.inr (.inr (.inl h)))
  · exact .inr (.inr (.inr (.inr h)))
theorem pathL_len_le {F : List Feed} : ∀ (last : Nat) (i : Int), (pathL F last i).length ≤ last := by
  intro last
  induction last using Nat.strongRecOn with
  | _ last ih =>
    intro i
    rw [pathL]
    split
    · rename_i h
      have := ih i.toNat (by omega) (match F[i.toNat]? with | some f => f.parent | none => -1)
      rw [List.length_cons]
      exact Nat.le_trans (Nat.succ_le_succ this) (by omega)
    · simp

set_option maxRecDepth 100000 in
set_option maxHeartbeats 12800000 in
theorem limPath_any (r : RulR) (fv pv cv uv : Value) (f t : Int) (w : World) (hv : LenV w) (hI : LimIn w r fv pv cv uv) :
    Calls Tryz.prog 20 #[.agg #[.string r.S.name, fv, pv, .int .i64 r.z.off, .bool r.z.sum, cv, uv], .int .i64 f, .int .i64 t] w fun e w' => e = .returned (.int .i64 (pathA r f t)) ∧ Below w.heap.size w w' := by
  have HI := Lib.hid hI
  obtain ⟨A, B, C, D, a, b, c, d, rfl, rfl, rfl, rfl, hA⟩ := hI.ad
  obtain ⟨W0, hW0, hb0, hg0, hx0⟩ := box1 w #[.string r.S.name, .slice A r.S.F.length a, .slice B r.S.P.length b, .int .i64 r.z.off, .bool r.z.sum, .slice C r.C.length c, .slice D r.U.length d] 31
  have HI0 := Lib.hid (HI.out.below hb0)
  have HV0 := Lib.hid (hv.below hb0)
  have hfm := Nat.le_trans hA.lF.1 hA.lF.2
  unfold maxLen at hfm
  clear hA hI hv
  go_enter Tryz.func20, Tryz.ntmps20
  go_wp2_with fail
  rw [← hW0]
  clear hW0
  refine (limAt_any r _ _ _ _ t W0 HV0.out HI0.out).mono ?_
  rintro e w1 ⟨v1, rfl, hs1, hb1⟩
  have y0 : ∀ j, w1.cell? ⟨w.heap.size, j, none⟩ = _ := fun j => (hb1.cell (p := ⟨w.heap.size, j, none⟩) hg0).trans (hx0 j)
  have y1 : w.heap.size < w1.heap.size := Nat.lt_of_lt_of_le hg0 hb1.size
  have HI1 := Lib.hid (HI0.out.below hb1)
  have hb01 := below_step hb0 hb1
  clear hx0 hg0 hb1 HI0 HV0
  by_cases he : atE r t = 0
  · have HOK : Hid (LimOk r) := by
      refine LimOk.of ?_
      unfold atE at he
      split at he
      · rename_i g; exact absurd he g
      · rename_i g; exact Classical.not_not.1 g
    have HAE := Lib.hid he
    rw [atL_ok he] at hs1
    rw [he]
    obtain ⟨G, gc, rfl, hgl, hgm, hgs⟩ := islen' hs1
    have hln := capsL_len r t
    have hl32 := HOK.out.lens.1
    clear he hs1
    rw [hln] at hgl ⊢
    unfold maxLen at hgm
    have HGS := Lib.hid hgs
    clear hgs
    by_cases hf : 0 ≤ f ∧ f < r.S.F.length
    · obtain ⟨f0, f1⟩ := hf
      obtain ⟨q, rfl⟩ : ∃ q : Nat, f = q := ⟨f.toNat, by omega⟩
      have HFULL := Lib.hid (pathN_full HAE.out f0 f1)
      have hq : q < (capsL r t).length := by omega
      obtain ⟨g, off, rfl, hgb, c0, c1, c2, c3⟩ := cap_at HGS.out hq
      rw [capsL_at hq] at c3
      replace c3 : w1.cell? ⟨g, off + q * 4 + 3, none⟩ = some (.int .i64 (capF r.lim q t)) := c3
      have q1 : ¬ (q : Int) < 0 := by omega
      have q2 : ¬ (r.S.F.length : Int) ≤ (q : Int) := by omega
      clear c0 c1 c2
      go_wp2_with fail
      refine (path_any r.S.name r.S.F _ _ _ _ q _ HI1.out.hF (by omega)).mono ?_
      rintro e w2 ⟨v2, rfl, hs2, hb2⟩
      obtain ⟨P, pc, rfl, hpl, hpm, hps⟩ := islen' hs2
      have hpl2 := pathL_len_le (F := r.S.F) r.S.F.length q
      have HPS := Lib.hid hps
      have HGS2 := Lib.hid (HGS.out.below hb2)
      have HLT := Lib.hid (fun x h => pathL_lt (F := r.S.F) (last := r.S.F.length) (i := q) x h)
      have hb02 := below_step hb01 hb2
      have HP0 : Hid (capF r.lim q t = pathN r q t 0) := rfl
      have HPN := Lib.hid (fun k h => pathN_step (r := r) (f := q) (t := t) (k := k) h)
      clear hs2 hps c3 y0 y1 hb01 hb2 hgb HGS HI1
      go_wp2_with fail
      rw [HP0.out]
      generalize w2 = wm at *
      go_loopw [9, 40] (fun n i wr => ∃ k : Nat, k ≤ (pathL r.S.F r.S.F.length q).length ∧ n = .int .i64 (pathN r q t k) ∧ i = .int .i64 k ∧ wr = wm) (fun _ i _ => (pathL r.S.F r.S.F.length q).length - (intOf i).toNat)
      case atStart => exact ⟨0, by omega, rfl, rfl, rfl⟩
      case round =>
        obtain ⟨k, hk, rfl, rfl, rfl⟩ := hrel
        by_cases hlt : k < (pathL r.S.F r.S.F.length q).length
        · have hki : (k : Int) < ((pathL r.S.F r.S.F.length q).length : Int) := by omega
          obtain ⟨b3, off3, rfl, hb3, d0⟩ := natL_at HPS.out hlt
          have HS := Lib.hid (HPN.out k hlt)
          have hx := HLT.out _ (List.getElem_mem hlt)
          generalize (pathL r.S.F r.S.F.length q)[k] = x at *
          have hxc : x < (capsL r t).length := by omega
          have hxi : (x : Int) < (r.S.F.length : Int) := by omega
          have hx0 : (0 : Int) ≤ (x : Int) := by omega
          obtain ⟨b4, off4, hA4, hb4, c0, c1, c2, c3⟩ := cap_at HGS2.out hxc
          injection hA4 with hA4
          injection hA4 with hA4 hA5 _
          subst hA4; subst hA5
          rw [capsL_at hxc] at c3
          replace c3 : wr.cell? ⟨g, off + x * 4 + 3, none⟩ = some (.int .i64 (capF r.lim x t)) := c3
          clear c0 c1 c2
          go_wp2_with fail
          go_roundw
          case measure => simp [intOf]; omega
          case rel => exact ⟨k + 1, by omega, by first | exact minW HS.out | rw [HS.out], by go_num, trivial⟩
        · have hki : ¬ (k : Int) < ((pathL r.S.F r.S.F.length q).length : Int) := by omega
          obtain rfl : k = (pathL r.S.F r.S.F.length q).length := by omega
          go_wp2_with fail
          go_ret
          exact ⟨ret_int HFULL.out, hb02⟩
    · have HE := Lib.hid (pathA_out (r := r) (f := f) (t := t) (by omega))
      have hcase : f < 0 ∨ (¬ f < 0 ∧ (r.S.F.length : Int) ≤ f) := by omega
      clear hf
      rcases hcase with q1 | ⟨q1, q2⟩
      all_goals
        go_wp2_with fail
        go_ret
        exact ⟨ret_int HE.out.symm, hb01⟩
  · have HE := Lib.hid (pathA_out (r := r) (f := f) (t := t) (.inl he))
    have hne : (atE r t != 0) = true := by simpa using he
    obtain ⟨G, gc, rfl, hgl, hgm, hgs⟩ := islen' hs1
    clear hs1 hgs
    go_wp2_with fail
    go_ret
    exact ⟨ret_int HE.out.symm, hb01⟩

set_option maxRecDepth 100000 in
set_option maxHeartbeats 12800000 in
theorem refLimPath_any (r : RulR) (fv pv cv uv : Value) (f t : Int) (w : World) (hI : LimIn w r fv pv cv uv) :
    Calls Tryz.prog 21 #[.agg #[.string r.S.name, fv, pv, .int .i64 r.z.off, .bool r.z.sum, cv, uv], .int .i64 f, .int .i64 t] w fun e w' => e = .returned (.int .i64 (pathA r f t)) ∧ Below w.heap.size w w' := by
  have HI := Lib.hid hI
  obtain ⟨A, B, C, D, a, b, c, d, rfl, rfl, rfl, rfl, hA⟩ := hI.ad
  obtain ⟨W0, hW0, hb0, hg0, hx0⟩ := box1 w #[.string r.S.name, .slice A r.S.F.length a, .slice B r.S.P.length b, .int .i64 r.z.off, .bool r.z.sum, .slice C r.C.length c, .slice D r.U.length d] 31
  have HI0 := Lib.hid (HI.out.below hb0)
  have hfm := Nat.le_trans hA.lF.1 hA.lF.2
  unfold maxLen at hfm
  clear hA hI
  go_enter Tryz.func21, Tryz.ntmps21
  go_wp2_with fail
  rw [← hW0]
  clear hW0
  refine (refLimAt_any r _ _ _ _ t W0 HI0.out).mono ?_
  rintro e w1 ⟨v1, rfl, hs1, hb1⟩
  have y0 : ∀ j, w1.cell? ⟨w.heap.size, j, none⟩ = _ := fun j => (hb1.cell (p := ⟨w.heap.size, j, none⟩) hg0).trans (hx0 j)
  have y1 : w.heap.size < w1.heap.size := Nat.lt_of_lt_of_le hg0 hb1.size
  have HI1 := Lib.hid (HI0.out.below hb1)
  have hb01 := below_step hb0 hb1
  clear hx0 hg0 hb1 HI0
  by_cases he : atE r t = 0
  · have HOK : Hid (LimOk r) := by
      refine LimOk.of ?_
      unfold atE at he
      split at he
      · rename_i g; exact absurd he g
      · rename_i g; exact Classical.not_not.1 g
    have HAE := Lib.hid he
    rw [atL_ok he] at hs1
    rw [he]
    obtain ⟨G, gc, rfl, hgl, hgm, hgs⟩ := islen' hs1
    have hln := capsL_len r t
    have hl32 := HOK.out.lens.1
    clear he hs1
    rw [hln] at hgl ⊢
    unfold maxLen at hgm
    have HGS := Lib.hid hgs
    clear hgs
    by_cases hf : 0 ≤ f ∧ f < r.S.F.length
    · obtain ⟨f0, f1⟩ := hf
      obtain ⟨q, rfl⟩ : ∃ q : Nat, f = q := ⟨f.toNat, by omega⟩
      have HFULL := Lib.hid (pathN_full HAE.out f0 f1)
      have hq : q < (capsL r t).length := by omega
      obtain ⟨g, off, rfl, hgb, c0, c1, c2, c3⟩ := cap_at HGS.out hq
      rw [capsL_at hq] at c3
      replace c3 : w1.cell? ⟨g, off + q * 4 + 3, none⟩ = some (.int .i64 (capF r.lim q t)) := c3
      have q1 : ¬ (q : Int) < 0 := by omega
      have q2 : ¬ (r.S.F.length : Int) ≤ (q : Int) := by omega
      clear c0 c1 c2
      go_wp2_with fail
      refine (refPath_any r.S.name r.S.F _ _ _ _ q _ HI1.out.hF (by omega)).mono ?_
      rintro e w2 ⟨v2, rfl, hs2, hb2, hfr2⟩
      have c9 := (hb2.cell (p := ⟨g, off + q * 4 + 3, none⟩) hgb).trans c3
      have hg9 := Nat.lt_of_lt_of_le hgb hb2.size
      clear hfr2
      obtain ⟨P, pc, rfl, hpl, hpm, hps⟩ := islen' hs2
      have hpl2 := pathL_len_le (F := r.S.F) r.S.F.length q
      have HPS := Lib.hid hps
      have HGS2 := Lib.hid (HGS.out.below hb2)
      have HLT := Lib.hid (fun x h => pathL_lt (F := r.S.F) (last := r.S.F.length) (i := q) x h)
      have hb02 := below_step hb01 hb2
      have HP0 : Hid (capF r.lim q t = pathN r q t 0) := rfl
      have HPN := Lib.hid (fun k h => pathN_step (r := r) (f := q) (t := t) (k := k) h)
      clear hs2 hps c3 y0 y1 hb01 hb2 hgb HGS HI1
      go_wp2_with fail
      rw [HP0.out]
      generalize w2 = wm at *
      go_loopw [10, 11] (fun n i wr => ∃ k : Nat, k ≤ (pathL r.S.F r.S.F.length q).length ∧ n = .int .i64 (pathN r q t k) ∧ i = .int .i64 k ∧ wr = wm) (fun _ i _ => (pathL r.S.F r.S.F.length q).length - (intOf i).toNat)
      case atStart => exact ⟨0, by omega, rfl, rfl, rfl⟩
      case round =>
        obtain ⟨k, hk, rfl, rfl, rfl⟩ := hrel
        by_cases hlt : k < (pathL r.S.F r.S.F.length q).length
        · have hki : (k : Int) < ((pathL r.S.F r.S.F.length q).length : Int) := by omega
          obtain ⟨b3, off3, rfl, hb3, d0⟩ := natL_at HPS.out hlt
          have HS := Lib.hid (HPN.out k hlt)
          have hx := HLT.out _ (List.getElem_mem hlt)
          generalize (pathL r.S.F r.S.F.length q)[k] = x at *
          have hxc : x < (capsL r t).length := by omega
          have hxi : (x : Int) < (r.S.F.length : Int) := by omega
          have hx0 : (0 : Int) ≤ (x : Int) := by omega
          obtain ⟨b4, off4, hA4, hb4, c0, c1, c2, c3⟩ := cap_at HGS2.out hxc
          injection hA4 with hA4
          injection hA4 with hA4 hA5 _
          subst hA4; subst hA5
          rw [capsL_at hxc] at c3
          replace c3 : wr.cell? ⟨g, off + x * 4 + 3, none⟩ = some (.int .i64 (capF r.lim x t)) := c3
          clear c0 c1 c2
          go_wp2_with fail
          go_roundw
          case measure => simp [intOf]; omega
          case rel => exact ⟨k + 1, by omega, by first | exact minW HS.out | rw [HS.out], by go_num, trivial⟩
        · have hki : ¬ (k : Int) < ((pathL r.S.F r.S.F.length q).length : Int) := by omega
          obtain rfl : k = (pathL r.S.F r.S.F.length q).length := by omega
          go_wp2_with fail
          go_ret
          exact ⟨ret_int HFULL.out, hb02⟩
    · have HE := Lib.hid (pathA_out (r := r) (f := f) (t := t) (by omega))
      have hcase : f < 0 ∨ (¬ f < 0 ∧ (r.S.F.length : Int) ≤ f) := by omega
      clear hf
      rcases hcase with q1 | ⟨q1, q2⟩
      all_goals
        go_wp2_with fail
        go_ret
        exact ⟨ret_int HE.out.symm, hb01⟩
  · have HE := Lib.hid (pathA_out (r := r) (f := f) (t := t) (.inl he))
    have hne : (atE r t != 0) = true := by simpa using he
    obtain ⟨G, gc, rfl, hgl, hgm, hgs⟩ := islen' hs1
    clear hs1 hgs
    go_wp2_with fail
    go_ret
    exact ⟨ret_int HE.out.symm, hb01⟩

end Go.Proofs.YtmappmeojmdekaaGreatDoor
