/-
  Walks: the law LimitsValues.
-/
import Derived.Test.YtmappmeojmdekaaGreatDoorWLaw14b
namespace Go.Proofs.YtmappmeojmdekaaGreatDoor
open Go.RowKit Go.Lib Go.Maps
attribute [local go_sem] after_cell
set_option linter.unusedVariables false

def spanL (a b : Int) : Bool := decide (0 ≤ a) && (decide (a ≤ b) && decide (b ≤ 268435456))
theorem spanL_t {a b : Int} (h : spanL a b = true) : 0 ≤ a ∧ a ≤ b ∧ b ≤ 268435456 := by unfold spanL at h; simpa using h
set_option maxRecDepth 100000 in
theorem limSpan_any (a b : Int) (w : World) : Calls Tryz.prog 23 #[.agg #[.int .i64 a, .int .i64 b]] w fun e w' => e = .returned (.bool (spanL a b)) ∧ Below w.heap.size w w' := by
  have hcase : ¬ 0 ≤ a ∨ (0 ≤ a ∧ ¬ a ≤ b) ∨ (0 ≤ a ∧ a ≤ b ∧ ¬ b ≤ 268435456) ∨ (0 ≤ a ∧ a ≤ b ∧ b ≤ 268435456) := by omega
  rcases hcase with h1 | ⟨h1, h2⟩ | ⟨h1, h2, h3⟩ | ⟨h1, h2, h3⟩
  all_goals
    go_enter Tryz.func23, Tryz.ntmps23
    go_wp2_with fail
    go_ret
    exact ⟨ret_bool (by symm; first | (cases q : spanL a b with | false => rfl | true => (have := spanL_t q; omega)) | (unfold spanL; simp [h1, h2, h3])), below_alloc (Below.refl _ _) _⟩

theorem lserL_none {r : RulR} {f a b : Int} (h : lserE r f a b ≠ 0) : lserL r f a b = [] := if_neg h
theorem lser_ok {r : RulR} {f a b : Int} (h : lserE r f a b = 0) : limE r = 0 ∧ restR (capF r.lim f) b a [] = some (lserL r f a b) := by
  have h0 := h
  unfold lserE at h
  split at h
  · rename_i g; exact absurd h g
  · rename_i g
    split at h
    · cases h
    · split at h
      · cases h
      · split at h
        · rename_i q
          refine ⟨Classical.not_not.1 g, ?_⟩
          unfold lserL
          rw [if_pos h0]
          obtain ⟨L, hL⟩ := Option.isSome_iff_exists.1 q
          rw [hL]; rfl
        · cases h

set_option maxRecDepth 100000 in
set_option maxHeartbeats 25600000 in
theorem lawLimValues (r : RulR) (fv pv cv uv : Value) (f a0 b0 : Int) (w : World) (hv : LenV w) (hI : LimIn w r fv pv cv uv) :
    Calls Tryz.prog 8 #[.agg #[.string r.S.name, fv, pv, .int .i64 r.z.off, .bool r.z.sum, cv, uv], .int .i64 f, .agg #[.int .i64 a0, .int .i64 b0]] w fun e w' => e = .returned (.bool true) ∧ Below w.heap.size w w' := by
  have HI := Lib.hid hI
  obtain ⟨A, B, C, D, a, b, c, d, rfl, rfl, rfl, rfl, hA⟩ := hI.ad
  obtain ⟨W0, hW0, hb0, hg1, hg0, hx0, hs0⟩ := box2 w #[.string r.S.name, .slice A r.S.F.length a, .slice B r.S.P.length b, .int .i64 r.z.off, .bool r.z.sum, .slice C r.C.length c, .slice D r.U.length d] 31 #[.int .i64 a0, .int .i64 b0] 46
  have HI0 := Lib.hid (HI.out.below hb0)
  have HV0 := Lib.hid (hv.below hb0)
  have hfm := Nat.le_trans hA.lF.1 hA.lF.2
  unfold maxLen at hfm
  clear hA hI hv
  go_enter Tryz.func8, Tryz.ntmps8
  go_wp2_with fail
  rw [← hW0]
  clear hW0
  refine (limLight_any r _ _ _ _ a0 W0 HI0.out).mono ?_
  rintro e w1 ⟨b1, rfl, hb1⟩
  have y0 : ∀ j, w1.cell? ⟨w.heap.size, j, none⟩ = _ := fun j => (hb1.cell (p := ⟨w.heap.size, j, none⟩) hg0).trans (hx0 j)
  have y1 : w.heap.size < w1.heap.size := Nat.lt_of_lt_of_le hg0 hb1.size
  have s0 : ∀ j, w1.cell? ⟨w.heap.size + 1, j, none⟩ = _ := fun j => (hb1.cell (p := ⟨w.heap.size + 1, j, none⟩) hg1).trans (hs0 j)
  have s1 : w.heap.size + 1 < w1.heap.size := Nat.lt_of_lt_of_le hg1 hb1.size
  have HI1 := Lib.hid (HI0.out.below hb1)
  have HV1 := Lib.hid (HV0.out.below hb1)
  have hb01 := below_step hb0 hb1
  clear hx0 hg0 hs0 hg1 hb1 HI0 HV0
  cases b1 with
  | false =>
    go_wp2_with fail
    refine (limEx_any _ HV1.out).mono ?_
    rintro e w2 ⟨rfl, hb2⟩
    go_wp2_with fail
    go_ret
    exact ⟨rfl, below_step hb01 hb2⟩
  | true =>
    go_wp2_with fail
    refine (limSpan_any a0 b0 w1).mono ?_
    rintro e w2 ⟨rfl, hb2⟩
    have z0 : ∀ j, w2.cell? ⟨w.heap.size, j, none⟩ = _ := fun j => (hb2.cell (p := ⟨w.heap.size, j, none⟩) y1).trans (y0 j)
    have z1 : w.heap.size < w2.heap.size := Nat.lt_of_lt_of_le y1 hb2.size
    have r0 : ∀ j, w2.cell? ⟨w.heap.size + 1, j, none⟩ = _ := fun j => (hb2.cell (p := ⟨w.heap.size + 1, j, none⟩) s1).trans (s0 j)
    have r1 : w.heap.size + 1 < w2.heap.size := Nat.lt_of_lt_of_le s1 hb2.size
    have HI2 := Lib.hid (HI1.out.below hb2)
    have HV2 := Lib.hid (HV1.out.below hb2)
    have hb02 := below_step hb01 hb2
    clear y0 y1 s0 s1 hb2 HI1 HV1 hb01
    have HEX := Lib.hid (limEx_any _ HV2.out)
    cases hsp : spanL a0 b0 with
    | false =>
      go_wp2_with fail
      refine HEX.out.mono ?_
      rintro e w3 ⟨rfl, hb3⟩
      go_wp2_with fail
      go_ret
      exact ⟨rfl, below_step hb02 hb3⟩
    | true =>
      obtain ⟨sa, sab, sb⟩ := spanL_t hsp
      have hwd : IntKind.i64.wrap (b0 - a0) = b0 - a0 := IntWalk.i64_in _ (by omega)
      by_cases hin : ¬ 60000 < b0 - a0 ∧ ¬ f < 0 ∧ ¬ (r.S.F.length : Int) ≤ f
      · obtain ⟨q1, q2, q3⟩ := hin
        obtain ⟨q, rfl⟩ : ∃ q : Nat, f = q := ⟨f.toNat, by omega⟩
        have hq : q < r.S.F.length := by omega
        clear HEX
        go_wp2_with fail
        refine (limSeries_any r _ _ _ _ q a0 b0 w2 HV2.out HI2.out).mono ?_
        rintro e w3 ⟨v3, rfl, hs3, hb3⟩
        have y0 : ∀ j, w3.cell? ⟨w.heap.size, j, none⟩ = _ := fun j => (hb3.cell (p := ⟨w.heap.size, j, none⟩) z1).trans (z0 j)
        have y1 : w.heap.size < w3.heap.size := Nat.lt_of_lt_of_le z1 hb3.size
        have s0 : ∀ j, w3.cell? ⟨w.heap.size + 1, j, none⟩ = _ := fun j => (hb3.cell (p := ⟨w.heap.size + 1, j, none⟩) r1).trans (r0 j)
        have s1 : w.heap.size + 1 < w3.heap.size := Nat.lt_of_lt_of_le r1 hb3.size
        have HI3 := Lib.hid (HI2.out.below hb3)
        have HV3 := Lib.hid (HV2.out.below hb3)
        have hb03 := below_step hb02 hb3
        clear z0 z1 r0 r1 hb3 HI2 HV2 hb02
        by_cases he : lserE r q a0 b0 = 0
        · obtain ⟨hE, hR⟩ := lser_ok he
          have HE := Lib.hid hE
          have HOK := Lib.hid (LimOk.of hE)
          have HIS := Lib.hid (restR_is sa sb sab (b0 - a0).toNat a0 [] _ (by omega) (fun h => Int.le_refl _) (.inl ⟨rfl, rfl⟩) hR)
          rw [he]
          clear he hE hR
          obtain ⟨G, gc, rfl, hgl, hgm, hgs⟩ := islen' hs3
          have HLS := Lib.hid hgs
          clear hs3 hgs
          generalize lserL r q a0 b0 = L at *
          unfold maxLen at hgm
          have hD := quot_bd (a := b0 - a0) (b := 40) (by omega) (by omega) (by omega)
          obtain ⟨Dv, hDv⟩ : ∃ Dv, (b0 - a0).tdiv 40 = Dv := ⟨_, rfl⟩
          have hD0 : Dv ≤ 268435457 := by
            have := Int.natAbs_tdiv_le_natAbs (b0 - a0) 40
            omega
          rw [hDv] at hD
          have p2 : IntKind.i64.wrap Dv = Dv := IntWalk.i64_in _ (by omega)
          have hl32 := HOK.out.lens.1
          go_wp2_with fail
          go_loopw [9] (fun s wr => ∃ t : Int, a0 ≤ t ∧ t ≤ 600000000 ∧ s = .int .i64 t ∧ Below w3.heap.size w3 wr) (fun s _ => (b0 - intOf s).toNat)
          case atStart => exact ⟨a0, by omega, by omega, rfl, Below.refl _ _⟩
          case round =>
            obtain ⟨t, ht0, ht1, rfl, hbw⟩ := hrel
            have z0 : ∀ j, wr.cell? ⟨w.heap.size, j, none⟩ = _ := fun j => (hbw.cell (p := ⟨w.heap.size, j, none⟩) y1).trans (y0 j)
            have z1 : w.heap.size < wr.heap.size := Nat.lt_of_lt_of_le y1 hbw.size
            have r0 : ∀ j, wr.cell? ⟨w.heap.size + 1, j, none⟩ = _ := fun j => (hbw.cell (p := ⟨w.heap.size + 1, j, none⟩) s1).trans (s0 j)
            have r1 : w.heap.size + 1 < wr.heap.size := Nat.lt_of_lt_of_le s1 hbw.size
            have HIr := Lib.hid (HI3.out.below hbw)
            have HVr := Lib.hid (HV3.out.below hbw)
            have hb0r := below_step hb03 hbw
            by_cases hlt : t < b0
            · have HLr := Lib.hid (HLS.out.below hbw)
              have HTEL := Lib.hid (HIS.out.to.tells (-1) t ht0 hlt)
              have HVT := Lib.hid (fun (k : Nat) (h : k < L.length) => valL_take h (-1) t)
              go_wp2_with fail
              generalize wr = wm at *
              go_loopw [10, 80] (fun n i wx => ∃ k : Nat, k ≤ L.length ∧ n = .int .i64 (valL (-1) (L.take k) t) ∧ i = .int .i64 k ∧ wx = wm) (fun _ i _ => L.length - (intOf i).toNat)
              case atStart => exact ⟨0, by omega, rfl, rfl, rfl⟩
              case round =>
                obtain ⟨k, hk, rfl, rfl, rfl⟩ := hrel
                by_cases hkl : k < L.length
                · have hki : (k : Int) < (L.length : Int) := by omega
                  obtain ⟨g, o, rfl, hgb, c0, c1⟩ := pair_at HLr.out (List.getElem?_eq_getElem hkl)
                  have HT := Lib.hid (HVT.out k hkl)
                  generalize L[k] = x at *
                  generalize valL (-1) (L.take k) t = n at *
                  by_cases hx : x.1 ≤ t
                  · have H : Hid (valL (-1) (L.take (k + 1)) t = x.2) := by unfold Hid; rw [HT.out, if_pos hx]
                    go_wp2_with fail
                    go_roundw
                    case measure => simp [intOf]; omega
                    case rel => exact ⟨k + 1, by omega, by rw [H.out], by go_num, trivial⟩
                  · have H : Hid (valL (-1) (L.take (k + 1)) t = n) := by unfold Hid; rw [HT.out, if_neg hx]
                    go_wp2_with fail
                    go_roundw
                    case measure => simp [intOf]; omega
                    case rel => exact ⟨k + 1, by omega, by rw [H.out], by go_num, trivial⟩
                · have hki : ¬ (k : Int) < (L.length : Int) := by omega
                  rw [show valL (-1) (L.take k) t = capF r.lim q t by rw [List.take_of_length_le (by omega)]; exact HTEL.out]
                  clear hk hkl HLr HVT HTEL
                  have ht268 : t ≤ 268435456 := by omega
                  have ht00 : 0 ≤ t := by omega
                  go_wp2_with fail
                  refine (limAt_in r _ _ _ _ t wr HVr.out HIr.out HE.out ht00 ht268).mono ?_
                  rintro e w4 ⟨v4, rfl, hs4, hb4⟩
                  obtain ⟨H, hcc, rfl, hhl, hhm, hhs⟩ := islen' hs4
                  have hln := capsL_len r t
                  have hqc : q < (capsL r t).length := by omega
                  obtain ⟨g, o, rfl, hgb, c0, c1, c2, c3⟩ := cap_at hhs hqc
                  rw [capsL_at hqc] at c3
                  replace c3 : w4.cell? ⟨g, o + q * 4 + 3, none⟩ = some (.int .i64 (capF r.lim q t)) := c3
                  rw [hln] at hhl ⊢
                  unfold maxLen at hhm
                  have HHS := Lib.hid hhs
                  have x0 : ∀ j, w4.cell? ⟨w.heap.size, j, none⟩ = _ := fun j => (hb4.cell (p := ⟨w.heap.size, j, none⟩) z1).trans (z0 j)
                  have x1 : w.heap.size < w4.heap.size := Nat.lt_of_lt_of_le z1 hb4.size
                  have u0 : ∀ j, w4.cell? ⟨w.heap.size + 1, j, none⟩ = _ := fun j => (hb4.cell (p := ⟨w.heap.size + 1, j, none⟩) r1).trans (r0 j)
                  have u1 : w.heap.size + 1 < w4.heap.size := Nat.lt_of_lt_of_le r1 hb4.size
                  have HI4 := Lib.hid (HIr.out.below hb4)
                  have HV4 := Lib.hid (HVr.out.below hb4)
                  have hbw4 := below_step hbw hb4
                  have k2 : ¬ (r.S.F.length : Int) ≤ (q : Int) := by omega
                  have k3 : ¬ (q : Int) < 0 := by omega
                  have k4 : (capF r.lim q t != capF r.lim q t) = false := by simp
                  have hFUL : pathN r q t (pathL r.S.F r.S.F.length q).length = pathA r q t := pathN_full (at_in HE.out ht00 ht268).1 (by omega) (by omega)
                  have HFUL := Lib.hid hFUL
                  have HP0 : Hid (capF r.lim q t = pathN r q t 0) := rfl
                  have HPN := Lib.hid (fun k h => pathN_step (r := r) (f := q) (t := t) (k := k) h)
                  have HPLT := Lib.hid (fun x h => pathL_lt (F := r.S.F) (last := r.S.F.length) (i := (q : Int)) x h)
                  have hpl2 := pathL_len_le (F := r.S.F) r.S.F.length q
                  clear hs4 hhs hFUL c0 c1 c2 z0 z1 r0 r1 hb4 hb0r HIr HVr
                  go_wp2_with fail
                  refine (path_any r.S.name r.S.F _ _ _ _ q _ HI4.out.hF (by omega)).mono ?_
                  rintro e w5 ⟨v5, rfl, hs5, hb5⟩
                  obtain ⟨P, pc, rfl, hpl, hpm, hps⟩ := islen' hs5
                  have HPS := Lib.hid hps
                  have HH5 := Lib.hid (HHS.out.below hb5)
                  have z0 : ∀ j, w5.cell? ⟨w.heap.size, j, none⟩ = _ := fun j => (hb5.cell (p := ⟨w.heap.size, j, none⟩) x1).trans (x0 j)
                  have z1 : w.heap.size < w5.heap.size := Nat.lt_of_lt_of_le x1 hb5.size
                  have r0 : ∀ j, w5.cell? ⟨w.heap.size + 1, j, none⟩ = _ := fun j => (hb5.cell (p := ⟨w.heap.size + 1, j, none⟩) u1).trans (u0 j)
                  have r1 : w.heap.size + 1 < w5.heap.size := Nat.lt_of_lt_of_le u1 hb5.size
                  have HI5 := Lib.hid (HI4.out.below hb5)
                  have HV5 := Lib.hid (HV4.out.below hb5)
                  have hbw5 := below_step hbw4 hb5
                  clear hs5 hps c3 x0 x1 u0 u1 hb5 HI4 HV4 hbw4 HHS hgb
                  go_wp2_with fail
                  rw [HP0.out]
                  generalize w5 = wn at *
                  go_loopw [14, 129] (fun n i wx => ∃ k : Nat, k ≤ (pathL r.S.F r.S.F.length q).length ∧ n = .int .i64 (pathN r q t k) ∧ i = .int .i64 k ∧ wx = wn) (fun _ i _ => (pathL r.S.F r.S.F.length q).length - (intOf i).toNat)
                  case atStart => exact ⟨0, by omega, rfl, rfl, rfl⟩
                  case round =>
                    obtain ⟨k, hk, rfl, rfl, rfl⟩ := hrel
                    by_cases hkl : k < (pathL r.S.F r.S.F.length q).length
                    · have hki : (k : Int) < ((pathL r.S.F r.S.F.length q).length : Int) := by omega
                      obtain ⟨b3, off3, rfl, hb3, d0⟩ := natL_at HPS.out hkl
                      have HS := Lib.hid (HPN.out k hkl)
                      have hx := HPLT.out _ (List.getElem_mem hkl)
                      generalize (pathL r.S.F r.S.F.length q)[k] = x at *
                      have hxc : x < (capsL r t).length := by omega
                      have hxi : (x : Int) < (r.S.F.length : Int) := by omega
                      have hxi2 : ¬ (r.S.F.length : Int) ≤ (x : Int) := by omega
                      have hx0 : (0 : Int) ≤ (x : Int) := by omega
                      have hx1 : ¬ (x : Int) < 0 := by omega
                      obtain ⟨b4, off4, hA4, hb4, c0, c1, c2, c3⟩ := cap_at HH5.out hxc
                      injection hA4 with hA4
                      injection hA4 with hA4 hA5 _
                      subst hA4; subst hA5
                      rw [capsL_at hxc] at c3
                      replace c3 : wr.cell? ⟨g, o + x * 4 + 3, none⟩ = some (.int .i64 (capF r.lim x t)) := c3
                      clear c0 c1 c2
                      go_wp2_with fail
                      go_roundw
                      case measure => simp [intOf]; omega
                      case rel => exact ⟨k + 1, by omega, by first | exact minW HS.out | rw [HS.out], by go_num, trivial⟩
                    · have hki : ¬ (k : Int) < ((pathL r.S.F r.S.F.length q).length : Int) := by omega
                      obtain rfl : k = (pathL r.S.F r.S.F.length q).length := by omega
                      rw [HFUL.out]
                      have e9 : (pathA r q t != pathA r q t) = false := by simp
                      have p3 : IntKind.i64.wrap (t + max 1 Dv) = t + max 1 Dv := IntWalk.i64_in _ (by omega)
                      go_wp2_with fail
                      refine (limPath_any r _ _ _ _ q t wr HV5.out HI5.out).mono ?_
                      rintro e w6 ⟨rfl, hb6⟩
                      have n0 : ∀ j, w6.cell? ⟨w.heap.size + 1, j, none⟩ = _ := fun j => (hb6.cell (p := ⟨w.heap.size + 1, j, none⟩) r1).trans (r0 j)
                      have n1 : w.heap.size + 1 < w6.heap.size := Nat.lt_of_lt_of_le r1 hb6.size
                      have hbw6 := below_step hbw5 hb6
                      go_wp2_with fail
                      go_roundw
                      case measure => simp only [intOf]; omega
                      case rel => exact ⟨t + max 1 Dv, by omega, by omega, rfl, hbw6⟩
            · go_wp2_with fail
              refine (limEx_any _ HVr.out).mono ?_
              rintro e w4 ⟨rfl, hb4⟩
              go_wp2_with fail
              go_ret
              exact ⟨rfl, below_step hb0r hb4⟩
        · have hne : (lserE r q a0 b0 != 0) = true := by simpa using he
          rw [lserL_none he] at hs3
          obtain ⟨G, gc, rfl, _⟩ := islen' hs3
          clear hs3
          go_wp2_with fail
          refine (limEx_any _ HV3.out).mono ?_
          rintro e w4 ⟨rfl, hb4⟩
          go_wp2_with fail
          go_ret
          exact ⟨rfl, below_step hb03 hb4⟩
      · have hcase : 60000 < b0 - a0 ∨ (¬ 60000 < b0 - a0 ∧ f < 0) ∨ (¬ 60000 < b0 - a0 ∧ ¬ f < 0 ∧ (r.S.F.length : Int) ≤ f) := by omega
        clear hin
        rcases hcase with q1 | ⟨q1, q2⟩ | ⟨q1, q2, q3⟩
        all_goals
          go_wp2_with fail
          refine HEX.out.mono ?_
          rintro e w3 ⟨rfl, hb3⟩
          go_wp2_with fail
          go_ret
          exact ⟨rfl, below_step hb02 hb3⟩

end Go.Proofs.YtmappmeojmdekaaGreatDoor
