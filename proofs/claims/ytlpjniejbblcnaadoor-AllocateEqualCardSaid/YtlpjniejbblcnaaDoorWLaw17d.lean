/-
  Walks: the law AllocateEqual.
-/
import Derived.Test.YtlpjniejbblcnaaDoorM14
namespace Go.Proofs.YtlpjniejbblcnaaDoor
open Go.RowKit Go.Lib Go.Maps
attribute [local go_sem] after_cell
set_option linter.unusedVariables false

def LawEndD (w : World) (e : Ending) (w' : World) : Prop := e = .returned (.bool true) ∧ Below w.heap.size w w'

set_option maxRecDepth 100000 in
set_option maxHeartbeats 12800000 in
theorem lawEqual17 (a : SiteV) (C : List CapR) (W : List WantR) (cv wv : Value) (w : World) (hI : SiteIn w a) (hC : IsSl w 4 cv (C.map CapR.cells)) (hW : IsSl w 3 wv (W.map WantR.cells)) :
    Calls Tryd.prog 6 #[.agg #[.string a.S.name, a.fv, a.pv], cv, wv] w (LawEndD w) := by
  obtain ⟨S, fv, pv⟩ := a
  obtain ⟨hF, hP, hn, fF, fP⟩ := hI
  simp only at hF hP hn fF fP ⊢
  obtain ⟨A, c, rfl, hlc, hcm, hsl⟩ := islen' hF
  obtain ⟨B, d, rfl, hld, hdm, hsp⟩ := islen' hP
  obtain ⟨C', c', rfl, hlc', hcm', hsc⟩ := islen' hC
  obtain ⟨D, d', rfl, hld', hdm', hsw⟩ := islen' hW
  obtain ⟨W0, hW0, hb0, hg0, hx0⟩ := box1 w #[.string S.name, .slice A S.F.length c, .slice B S.P.length d] 30
  have HF := Lib.hid (hF.below hb0)
  have HP := Lib.hid (hP.below hb0)
  have HC := Lib.hid (hC.below hb0)
  have HW := Lib.hid (hW.below hb0)
  have HN := Lib.hid (And.intro hn (And.intro fF fP))
  clear hF hP hC hW hsl hsp hsc hsw hlc hld hlc' hld' hcm hdm hcm' hdm' hn fF fP
  have HBG := Lib.hid (big_any S C W _ _ _ _ W0 HF.out HP.out HC.out HW.out)
  go_enter Tryd.func6, Tryd.ntmps6
  go_wp2_with fail
  rw [← hW0]
  clear hW0
  refine HBG.out.mono ?_
  rintro e w1 ⟨hb1, b, rfl, hbig⟩
  cases b with
  | true =>
    go_wp2_with fail
    refine (ex17Holds_any _).mono ?_
    rintro e w2 ⟨rfl, hb2⟩
    go_wp2_with fail
    go_ret
    exact ⟨rfl, below_step hb0 (below_step hb1 hb2)⟩
  | false =>
    have HSZ := Lib.hid (hbig rfl)
    clear hbig HBG
    have hx1 := fun j => (hb1.cell (p := ⟨w.heap.size, j, none⟩) hg0).trans (hx0 j)
    have hg1 : w.heap.size < w1.heap.size := Nat.lt_of_lt_of_le hg0 hb1.size
    go_wp2_with fail
    refine (arun_any S C W _ _ _ _ w1 (HF.out.below hb1) (HP.out.below hb1) (HC.out.below hb1) (HW.out.below hb1) HN.out.1 HN.out.2.1 HN.out.2.2 (by have := HSZ.out; omega) (by have := HSZ.out; omega)).mono ?_
    rintro e w2 ⟨hb2, hp2⟩
    have hb02 := below_step hb1 hb2
    have hx2 := fun j => (hb2.cell (p := ⟨w.heap.size, j, none⟩) hg1).trans (hx1 j)
    have hg2 : w.heap.size < w2.heap.size := Nat.lt_of_lt_of_le hg1 hb2.size
    rcases hp2 with ⟨hne, rfl⟩ | ⟨h0, v2, x2, rfl, hx2', hs2, hf2⟩
    · go_wp2_with fail
      refine (ex17Holds_any _).mono ?_
      rintro e w5 ⟨rfl, hb5⟩
      go_wp2_with fail
      go_ret
      exact ⟨rfl, below_step hb0 (below_step hb02 hb5)⟩
    · have HA := Lib.hid (allocE_ok h0)
      have HTW := Lib.hid (fun (i k : Nat) (hki : k < i) (hi : i < W.length) (ht : Twin S.P W[i] (W[k]'(by omega))) => alloc_twin HA.out hx2' hki hi ht)
      have HRG := Lib.hid (alloc_kept HA.out hx2').rng
      have HGB := Lib.hid (fun (i : Nat) (hi : i < W.length) => great_bd HA.out hi)
      have HS2 := Lib.hid hs2
      obtain ⟨G, g, hv2, hg1', hg2', hsx⟩ := islen' hs2
      subst hv2
      rw [listV_len]
      rw [listV_len] at HS2
      have hsx' := hsx
      have HSX := Lib.hid hsx
      have hne : ((W.length : Int) != (W.length : Int)) = false := by simp
      have HSP := Lib.hid (show SlAt w2 5 B (S.P.map Pnt.cells) by obtain ⟨_, _, e3, _, _, h⟩ := islen' (HP.out.below hb02); injection e3 with e5; subst e5; exact h)
      have HSW := Lib.hid (show SlAt w2 3 D (W.map WantR.cells) by obtain ⟨_, _, e3, _, _, h⟩ := islen' (HW.out.below hb02); injection e3 with e5; subst e5; exact h)
      have hlW : W.length ≤ 40 := HSZ.out.2.2.2
      clear hs2 hsx hx2' hf2 hg1' hg2' HF HP HC HW HS2 hx1 hx0
      go_wp2_with fail
      go_loopw [35] (fun i wr => ∃ k : Nat, k ≤ W.length ∧ i = .int .i64 k ∧ Below w2.heap.size w2 wr) (fun i _ => W.length - (intOf i).toNat)
      case atStart => exact ⟨0, by omega, rfl, Below.refl _ _⟩
      case round =>
        obtain ⟨k, hk, rfl, hbw⟩ := hrel
        by_cases hlt : k < W.length
        · have hki : (k : Int) < (W.length : Int) := by omega
          go_wp2_with fail
          go_loopw [39] (fun i wi => ∃ m : Nat, m ≤ k ∧ i = .int .i64 m ∧ Below w2.heap.size w2 wi) (fun i _ => k - (intOf i).toNat)
          case atStart => exact ⟨0, by omega, rfl, hbw⟩
          case round =>
            clear hbw
            obtain ⟨m, hm, rfl, hbw⟩ := hrel
            by_cases hmk : m < k
            · have hmi : (m : Int) < (k : Int) := by omega
              have hmW : m < W.length := by omega
              have hmWi : (m : Int) < (W.length : Int) := by omega
              have HWT := Lib.hid (HA.out.want hlt).1
              have HWM := Lib.hid (HA.out.want hmW).1
              have hp0 := HWT.out.p0
              have hp1 := HWM.out.p0
              obtain ⟨j, hj⟩ : ∃ j : Nat, W[k].point = j := ⟨W[k].point.toNat, by omega⟩
              obtain ⟨n, hn⟩ : ∃ n : Nat, W[m].point = n := ⟨W[m].point.toNat, by omega⟩
              have hjl : j < S.P.length := by have := HWT.out.p1; rw [hj] at this; simpa using this
              have hnl : n < S.P.length := by have := HWM.out.p1; rw [hn] at this; simpa using this
              have hjli : (j : Int) < (S.P.length : Int) := by omega
              have hnli : (n : Int) < (S.P.length : Int) := by omega
              obtain ⟨bw, offw, hD, hbb, c0, c1, c2⟩ := want_at HSW.out hlt
              obtain ⟨bw', offw', hD', hbb', d0, d1, d2⟩ := want_at HSW.out hmW
              rw [hD] at hD'
              injection hD' with hD'
              injection hD' with hD1 hD2
              subst hD1 hD2
              obtain ⟨bp, offp, hB, hbp, e0, e1, e2, e3, e4⟩ := pnt_at HSP.out hjl
              obtain ⟨bp', offp', hB', hbp', f0, f1, f2, f3, f4⟩ := pnt_at HSP.out hnl
              rw [hB] at hB'
              injection hB' with hB'
              injection hB' with hB1 hB2
              subst hB1 hB2
              obtain ⟨bx, offx, hG, hbx, x0⟩ := vec_at HSX.out hlt
              obtain ⟨bx', offx', hG', hbx', y0⟩ := vec_at HSX.out hmW
              rw [hG] at hG'
              injection hG' with hG'
              injection hG' with hG1 hG2
              subst hG1 hG2
              subst hD hB hG
              rw [hj] at c0
              rw [hn] at d0
              have C0 := (hbw.cell (p := ⟨bw, offw + k * 3, none⟩) hbb).trans c0
              have D0 := (hbw.cell (p := ⟨bw, offw + m * 3, none⟩) hbb).trans d0
              have E0 := (hbw.cell (p := ⟨bp, offp + j * 5, none⟩) hbp).trans e0
              have E1 := (hbw.cell (p := ⟨bp, offp + j * 5 + 1, none⟩) hbp).trans e1
              have E2 := (hbw.cell (p := ⟨bp, offp + j * 5 + 2, none⟩) hbp).trans e2
              have E3 := (hbw.cell (p := ⟨bp, offp + j * 5 + 3, none⟩) hbp).trans e3
              have E4 := (hbw.cell (p := ⟨bp, offp + j * 5 + 4, none⟩) hbp).trans e4
              have F0 := (hbw.cell (p := ⟨bp, offp + n * 5, none⟩) hbp).trans f0
              have F1 := (hbw.cell (p := ⟨bp, offp + n * 5 + 1, none⟩) hbp).trans f1
              have F2 := (hbw.cell (p := ⟨bp, offp + n * 5 + 2, none⟩) hbp).trans f2
              have F3 := (hbw.cell (p := ⟨bp, offp + n * 5 + 3, none⟩) hbp).trans f3
              have F4 := (hbw.cell (p := ⟨bp, offp + n * 5 + 4, none⟩) hbp).trans f4
              have Y0 := fun j => (hbw.cell (p := ⟨w.heap.size, j, none⟩) hg2).trans (hx2 j)
              have hzw := hbw.size
              have k1 : bw < wr.heap.size := by omega
              have k2 : bp < wr.heap.size := by omega
              have k3 : bx < wr.heap.size := by omega
              have k4 : w.heap.size < wr.heap.size := by omega
              have HC1 := Lib.hid (And.intro c1 (And.intro c2 (And.intro d1 d2)))
              have HXX := Lib.hid (And.intro x0 y0)
              have HYY := Lib.hid Y0
              have o1 := old_alloc (w := wr.drew) (b := bw) k1
              have o2 := old_alloc (w := wr.drew) (b := bp) k2
              have o4 := old_alloc (w := wr.drew) (b := w.heap.size) k4
              have p1 := old_alloc2 (w := wr.drew) (b := bw) k1
              have p2 := old_alloc2 (w := wr.drew) (b := bp) k2
              have p4 := old_alloc2 (w := wr.drew) (b := w.heap.size) k4
              clear c0 c1 c2 d0 d1 d2 e0 e1 e2 e3 e4 f0 f1 f2 f3 f4 x0 y0
              go_wp2_with fail
              go_cut [11, 12] (fun p q wx => ∃ pb qb, p = .pointer (some ⟨pb, 0, none⟩) ∧ q = .pointer (some ⟨qb, 0, none⟩) ∧ Below wr.heap.size wr wx ∧ Blk wx pb 34 S.P[j].cells ∧ Blk wx qb 34 S.P[n].cells)
              case first =>
                clear HTW HRG HGB HWT HWM HXX HC1 HYY HA HSP HSW HSX HN HSZ o1 o2 o4 p1 p2 p4
                refine wp_blind ?_
                go_region
                all_goals simp only [noPanic]
                all_goals (go_wp2_with fail; go_meet)
                all_goals exact ⟨_, _, rfl, rfl, by repeat (first | exact Below.refl _ _ | refine below_alloc ?_ _ | refine below_drew ?_), by repeat (first | (refine Blk.new' ?_ _ _ rfl; simp; done) | refine Blk.alloc ?_ _ | refine Blk.drew ?_), by repeat (first | (refine Blk.new' ?_ _ _ rfl; simp; done) | refine Blk.alloc ?_ _ | refine Blk.drew ?_)⟩
              case rest =>
                obtain ⟨pb, qb, rfl, rfl, hbx', HBp, HBq⟩ := hcut
                have P1 : wc.cell? ⟨pb, 1, none⟩ = some (.int .i64 S.P[j].feeder) := (HBp.cell 1).trans rfl
                have P3 : wc.cell? ⟨pb, 3, none⟩ = some (.int .i64 S.P[j].rated) := (HBp.cell 3).trans rfl
                have P4 : wc.cell? ⟨pb, 4, none⟩ = some (.int .i64 S.P[j].least) := (HBp.cell 4).trans rfl
                have Q1 : wc.cell? ⟨qb, 1, none⟩ = some (.int .i64 S.P[n].feeder) := (HBq.cell 1).trans rfl
                have Q3 : wc.cell? ⟨qb, 3, none⟩ = some (.int .i64 S.P[n].rated) := (HBq.cell 3).trans rfl
                have Q4 : wc.cell? ⟨qb, 4, none⟩ = some (.int .i64 S.P[n].least) := (HBq.cell 4).trans rfl
                have lp := HBp.lt
                have lq := HBq.lt
                obtain ⟨c1, c2, d1, d2⟩ := HC1.out
                obtain ⟨x0, y0⟩ := HXX.out
                have hb2c := hbw.trans (hbx'.mono hzw)
                have hz2c := hb2c.size
                have C1 := (hb2c.cell (p := ⟨bw, offw + k * 3 + 1, none⟩) hbb).trans c1
                have C2 := (hb2c.cell (p := ⟨bw, offw + k * 3 + 2, none⟩) hbb).trans c2
                have D1 := (hb2c.cell (p := ⟨bw, offw + m * 3 + 1, none⟩) hbb).trans d1
                have D2 := (hb2c.cell (p := ⟨bw, offw + m * 3 + 2, none⟩) hbb).trans d2
                have n1 : bw < wc.heap.size := by omega
                have hbc := Below.refl wc.heap.size wc
                have HB2C := Lib.hid hb2c
                have HTK : Hid (S.P[j].feeder = S.P[n].feeder ∧ S.P[j].least = 0 ∧ S.P[n].least = 0 ∧ W[k].phases = W[m].phases ∧ min W[k].top S.P[j].rated = min W[m].top S.P[n].rated → x2 k - x2 m ≤ 1 ∧ x2 m - x2 k ≤ 1) := fun ⟨t1, t2, t3, t4, t5⟩ => by
                  have h1 : pntOf S.P W[k] = S.P[j] := by rw [pntOf_eq HWT.out.p1]; simp only [hj, Int.toNat_natCast]
                  have h2 : pntOf S.P W[m] = S.P[n] := by rw [pntOf_eq HWM.out.p1]; simp only [hn, Int.toNat_natCast]
                  exact HTW.out k m hmk hlt ⟨by rw [h1, h2]; exact t1, by rw [h1]; exact t2, by rw [h2]; exact t3, t4, by unfold greatW; rw [h1, h2]; exact t5⟩
                have hrk := HRG.out k hlt
                have hrm := HRG.out m hmW
                have hgk := HGB.out k hlt
                have hgm := HGB.out m hmW
                have hxr : (0 ≤ x2 k ∧ x2 k ≤ 1048576) ∧ (0 ≤ x2 m ∧ x2 m ≤ 1048576) := by omega
                have HXR := Lib.hid hxr
                have HXY := Lib.hid (And.intro x0 y0)
                clear hrk hrm hgk hgm hxr x0 y0 c1 c2 d1 d2 HC1 HXX HTW HRG HGB HWT HWM HBp HBq C0 D0 E0 E1 E2 E3 E4 F0 F1 F2 F3 F4 Y0 HYY hbx' o1 o2 o4 p1 p2 p4
                generalize S.P[j].feeder = pf at *
                generalize S.P[n].feeder = qf at *
                generalize S.P[j].least = pl at *
                generalize S.P[n].least = ql at *
                generalize S.P[j].rated = pr at *
                generalize S.P[n].rated = qr at *
                generalize W[k].phases = kp at *
                generalize W[m].phases = mp at *
                generalize W[k].top = kt at *
                generalize W[m].top = mt at *
                have HLT := Lib.hid (And.intro hlt hmk)
                have hcase : pf ≠ qf ∨ (pf = qf ∧ pl ≠ 0) ∨ (pf = qf ∧ pl = 0 ∧ ql ≠ 0) ∨ (pf = qf ∧ pl = 0 ∧ ql = 0 ∧ kp ≠ mp) ∨ (pf = qf ∧ pl = 0 ∧ ql = 0 ∧ kp = mp ∧ min kt pr ≠ min mt qr) ∨ (pf = qf ∧ pl = 0 ∧ ql = 0 ∧ kp = mp ∧ min kt pr = min mt qr) := by
                  by_cases a1 : pf = qf <;> by_cases a2 : pl = 0 <;> by_cases a3 : ql = 0 <;> by_cases a4 : kp = mp <;> by_cases a5 : min kt pr = min mt qr <;> simp [a1, a2, a3, a4, a5]
                rcases hcase with a1 | ⟨a1, a2⟩ | ⟨a1, a2, a3⟩ | ⟨a1, a2, a3, a4⟩ | ⟨a1, a2, a3, a4, a5⟩ | ⟨a1, a2, a3, a4, a5⟩
                · have e0 : (pf != qf) = true := by simpa using a1
                  go_wp2_with fail
                  (refine wp_region_kept wc (by kernel_rfl) (by kernel_rfl) (by assumption) ?_; (repeat (go_big_quiet_step ((first | fail)))); refine wpQuiet_nil ?_; intro _ hw'; obtain ⟨x9, hw''⟩ := hw'; subst hw''; have hk9 := after_kept x9; generalize after x9 = w9 at *)
                  obtain ⟨hc9, hb9⟩ := hk9
                  have HB9 := Lib.hid (HB2C.out.trans (hb9.mono HB2C.out.size))
                  clear hc9
                  go_wp2_with fail
                  go_roundw
                  case measure =>
                    have := HLT.out.2
                    simp [intOf] <;> omega
                  case rel => exact ⟨m + 1, HLT.out.2, by go_num, HB9.out⟩
                · have e0 : (pf != qf) = false := by simpa using a1
                  have e1 : (pl != 0) = true := by simpa using a2
                  go_wp2_with fail
                  (refine wp_region_kept wc (by kernel_rfl) (by kernel_rfl) (by assumption) ?_; (repeat (go_big_quiet_step ((first | fail)))); refine wpQuiet_nil ?_; intro _ hw'; obtain ⟨x9, hw''⟩ := hw'; subst hw''; have hk9 := after_kept x9; generalize after x9 = w9 at *)
                  obtain ⟨hc9, hb9⟩ := hk9
                  have HB9 := Lib.hid (HB2C.out.trans (hb9.mono HB2C.out.size))
                  clear hc9
                  go_wp2_with fail
                  go_roundw
                  case measure =>
                    have := HLT.out.2
                    simp [intOf] <;> omega
                  case rel => exact ⟨m + 1, HLT.out.2, by go_num, HB9.out⟩
                · have e0 : (pf != qf) = false := by simpa using a1
                  have e1 : (pl != 0) = false := by simpa using a2
                  have e2 : (ql != 0) = true := by simpa using a3
                  go_wp2_with fail
                  (refine wp_region_kept wc (by kernel_rfl) (by kernel_rfl) (by assumption) ?_; (repeat (go_big_quiet_step ((first | fail)))); refine wpQuiet_nil ?_; intro _ hw'; obtain ⟨x9, hw''⟩ := hw'; subst hw''; have hk9 := after_kept x9; generalize after x9 = w9 at *)
                  obtain ⟨hc9, hb9⟩ := hk9
                  have HB9 := Lib.hid (HB2C.out.trans (hb9.mono HB2C.out.size))
                  clear hc9
                  go_wp2_with fail
                  go_roundw
                  case measure =>
                    have := HLT.out.2
                    simp [intOf] <;> omega
                  case rel => exact ⟨m + 1, HLT.out.2, by go_num, HB9.out⟩
                · have e0 : (pf != qf) = false := by simpa using a1
                  have e1 : (pl != 0) = false := by simpa using a2
                  have e2 : (ql != 0) = false := by simpa using a3
                  have e3 : (kp != mp) = true := by simpa using a4
                  go_wp2_with fail
                  (refine wp_region_kept wc (by kernel_rfl) (by kernel_rfl) (by assumption) ?_; (repeat (go_big_quiet_step ((first | fail)))); refine wpQuiet_nil ?_; intro _ hw'; obtain ⟨x9, hw''⟩ := hw'; subst hw''; have hk9 := after_kept x9; generalize after x9 = w9 at *)
                  obtain ⟨hc9, hb9⟩ := hk9
                  have HB9 := Lib.hid (HB2C.out.trans (hb9.mono HB2C.out.size))
                  clear hc9
                  go_wp2_with fail
                  go_roundw
                  case measure =>
                    have := HLT.out.2
                    simp [intOf] <;> omega
                  case rel => exact ⟨m + 1, HLT.out.2, by go_num, HB9.out⟩
                · have e0 : (pf != qf) = false := by simpa using a1
                  have e1 : (pl != 0) = false := by simpa using a2
                  have e2 : (ql != 0) = false := by simpa using a3
                  have e3 : (kp != mp) = false := by simpa using a4
                  have e4 : (min kt pr != min mt qr) = true := by simpa using a5
                  go_wp2_with fail
                  (refine wp_region_kept wc (by kernel_rfl) (by kernel_rfl) (by assumption) ?_; (repeat (go_big_quiet_step ((first | fail)))); refine wpQuiet_nil ?_; intro _ hw'; obtain ⟨x9, hw''⟩ := hw'; subst hw''; have hk9 := after_kept x9; generalize after x9 = w9 at *)
                  obtain ⟨hc9, hb9⟩ := hk9
                  have HB9 := Lib.hid (HB2C.out.trans (hb9.mono HB2C.out.size))
                  clear hc9
                  go_wp2_with fail
                  go_roundw
                  case measure =>
                    have := HLT.out.2
                    simp [intOf] <;> omega
                  case rel => exact ⟨m + 1, HLT.out.2, by go_num, HB9.out⟩
                · have e0 : (pf != qf) = false := by simpa using a1
                  have e1 : (pl != 0) = false := by simpa using a2
                  have e2 : (ql != 0) = false := by simpa using a3
                  have e3 : (kp != mp) = false := by simpa using a4
                  have e4 : (min kt pr != min mt qr) = false := by simpa using a5
                  go_wp2_with fail
                  (refine wp_region_kept wc (by kernel_rfl) (by kernel_rfl) (by assumption) ?_; (repeat (go_big_quiet_step ((first | fail)))); refine wpQuiet_nil ?_; intro _ hw'; obtain ⟨x9, hw''⟩ := hw'; subst hw''; have hk9 := after_kept x9; generalize after x9 = w9 at *)
                  obtain ⟨hc9, hb9⟩ := hk9
                  have HB9 := Lib.hid (HB2C.out.trans (hb9.mono HB2C.out.size))
                  have htw := HTK.out ⟨a1, a2, a3, a4, a5⟩
                  obtain ⟨⟨r1, r2⟩, r3, r4⟩ := HXR.out
                  obtain ⟨x0, y0⟩ := HXY.out
                  have X0 := (HB9.out.cell (p := ⟨bx, offx + k, none⟩) hbx).trans x0
                  have Y0 := (HB9.out.cell (p := ⟨bx, offx + m, none⟩) hbx).trans y0
                  have n3 : bx < w9.heap.size := Nat.lt_of_lt_of_le hbx HB9.out.size
                  have hbr9 := Below.refl w9.heap.size w9
                  have q1 : IntKind.i64.wrap (x2 k - x2 m) = x2 k - x2 m := IntWalk.i64_in _ (by omega)
                  have q2 : IntKind.i64.wrap (x2 m - x2 k) = x2 m - x2 k := IntWalk.i64_in _ (by omega)
                  have q3 : decide (1 < x2 k - x2 m) = false := decide_eq_false (by omega)
                  have q4 : decide (1 < x2 m - x2 k) = false := decide_eq_false (by omega)
                  clear hc9 x0 y0 hbc C1 C2 D1 D2 P1 P3 P4 Q1 Q3 Q4
                  go_wp2_with fail
                  generalize hwk : w9 = wk at *
                  clear hwk
                  (refine wp_region_kept wk (by kernel_rfl) (by kernel_rfl) (by assumption) ?_; (repeat (go_big_quiet_step ((first | fail)))); refine wpQuiet_nil ?_; intro _ hw'; obtain ⟨x9, hw''⟩ := hw'; subst hw''; have hk9 := after_kept x9; generalize after x9 = w9 at *)
                  obtain ⟨hc9, hb9'⟩ := hk9
                  have HB8 := Lib.hid (HB9.out.trans (hb9'.mono HB9.out.size))
                  clear hc9
                  go_wp2_with fail
                  go_roundw
                  case measure =>
                    have := HLT.out.2
                    simp [intOf] <;> omega
                  case rel => exact ⟨m + 1, HLT.out.2, by go_num, HB8.out⟩
            · have hmi : ¬ (m : Int) < (k : Int) := by omega
              go_wp2_with fail
              go_roundw
              case measure => simp [intOf] <;> omega
              case rel => exact ⟨k + 1, by omega, by go_num, hbw⟩
        · have hki : ¬ (k : Int) < (W.length : Int) := by omega
          go_wp2_with fail
          refine (ex17Holds_any _).mono ?_
          rintro e w5 ⟨rfl, hb5⟩
          go_wp2_with fail
          go_ret
          exact ⟨rfl, below_step hb0 (below_step (below_step hb02 hbw) hb5)⟩

end Go.Proofs.YtlpjniejbblcnaaDoor
