/-
  Walks: Valid of package limits.
-/
import Derived.Test.YtlpjniejbblcnaaDoorWLmt2K
import Derived.Test.YtlpjniejbblcnaaDoorWCon8K
import Derived.Test.YtlpjniejbblcnaaDoorM2
import Derived.Test.YtlpjniejbblcnaaDoorM3
namespace Go.Proofs.YtlpjniejbblcnaaDoor
open Go.RowKit Go.Lib Go.Maps
attribute [local go_sem] after_cell
set_option linter.unusedVariables false

theorem anyC_take {C : List ConR} {s : ByteArray} {j : Nat} (hj : j < C.length) (h : (C.take j).any (fun d => sameS d.nm s) = false) (e : sameS C[j].nm s = false) : (C.take (j + 1)).any (fun d => sameS d.nm s) = false := by
  rw [List.take_succ_eq_append_getElem hj, List.any_append, h]
  simp [e]
theorem any_hit {C : List ConR} {s : ByteArray} {j k : Nat} (hj : j < k) (hk : k ≤ C.length) (e : sameS (C[j]'(by omega)).nm s = true) : (C.take k).any (fun d => sameS d.nm s) = true := by
  rw [List.any_eq_true]
  exact ⟨C[j], List.mem_iff_getElem.2 ⟨j, by rw [List.length_take]; omega, by rw [List.getElem_take]⟩, e⟩
theorem zone_cases {z : ZoneR} (h : zoneB z = false) : z.off < -840 ∨ (¬ z.off < -840 ∧ 840 < z.off) := by
  unfold zoneB at h
  simp at h
  omega
theorem zone_in {z : ZoneR} (h : zoneB z = true) : ¬ z.off < -840 ∧ ¬ 840 < z.off := by
  unfold zoneB at h
  simp at h
  omega
theorem feeds_of {w : World} {r : RulR} {fv pv cv uv : Value} (h : LimIn w r fv pv cv uv) {k : Nat} (hk : k < r.C.length) : r.C[k].nm.size ≤ maxLen := (h.fC _ (List.getElem_mem hk)).1
theorem curs_of {w : World} {r : RulR} {fv pv cv uv : Value} (h : LimIn w r fv pv cv uv) {k : Nat} (hk : k < r.U.length) : r.U[k].nm.size ≤ maxLen := (h.fU _ (List.getElem_mem hk)).1

set_option maxRecDepth 100000 in
set_option maxHeartbeats 25600000 in
theorem limValid_any (r : RulR) (fv pv cv uv : Value) (w : World) (hI : LimIn w r fv pv cv uv) :
    Calls Tryd.prog 17 #[.agg #[.string r.S.name, fv, pv, .int .i64 r.z.off, .bool r.z.sum, cv, uv]] w fun e w' => e = .returned (.int .i64 (limE r)) ∧ Below w.heap.size w w' := by
  have HI := Lib.hid hI
  obtain ⟨A, B, C, D, a, b, c, d, rfl, rfl, rfl, rfl, hA⟩ := hI.ad
  obtain ⟨W0, hW0, hb0, hg0, hx0⟩ := box1 w #[.string r.S.name, .slice A r.S.F.length a, .slice B r.S.P.length b, .int .i64 r.z.off, .bool r.z.sum, .slice C r.C.length c, .slice D r.U.length d] 56
  obtain ⟨l1, l2⟩ := hA.lC
  obtain ⟨m1, m2⟩ := hA.lU
  have hfm := Nat.le_trans hA.lF.1 hA.lF.2
  have HFM := Lib.hid hfm
  unfold maxLen at l2 m2 hfm
  have HA0 := Lib.hid (hA.below hb0)
  have HI0 := Lib.hid (HI.out.below hb0)
  clear hA hI
  go_enter Tryd.func17, Tryd.ntmps17
  go_wp2_with fail
  rw [← hW0]
  clear hW0
  refine (siteValid_any r.S _ _ W0 HI0.out.hF HI0.out.hP HI0.out.hn HI0.out.fF HI0.out.fP).mono ?_
  rintro e w1 ⟨rfl, hb1⟩
  have y0 : ∀ j, w1.cell? ⟨w.heap.size, j, none⟩ = _ := fun j => (hb1.cell (p := ⟨w.heap.size, j, none⟩) hg0).trans (hx0 j)
  have y1 : w.heap.size < w1.heap.size := Nat.lt_of_lt_of_le hg0 hb1.size
  have HA1 := Lib.hid (HA0.out.below hb1)
  have HI1 := Lib.hid (HI0.out.below hb1)
  have hb01 := below_step hb0 hb1
  clear hx0 hg0 hb1 HA0 HI0
  by_cases hs : siteE r.S = 0
  · have HS := Lib.hid hs
    rw [hs]
    clear hs
    cases hz : zoneB r.z with
    | false =>
      have HE := Lib.hid (limE_zone HS.out hz)
      have hcase := zone_cases hz
      clear hz
      rcases hcase with q1 | ⟨q1, q2⟩
      all_goals
        go_wp2_with fail
        go_ret
        exact ⟨ret_int HE.out.symm, hb01⟩
    | true =>
      have HZ := Lib.hid hz
      obtain ⟨q1, q2⟩ := zone_in hz
      clear hz
      by_cases hn : 16 < r.C.length
      · have HE := Lib.hid (limE_many HS.out HZ.out hn)
        have hni : (16 : Int) < (r.C.length : Int) := by omega
        go_wp2_with fail
        go_ret
        exact ⟨ret_int HE.out.symm, hb01⟩
      · have hni : ¬ (16 : Int) < (r.C.length : Int) := by omega
        have HN := Lib.hid hn
        go_wp2_with fail
        go_loopw [35] (fun i wr => ∃ k : Nat, k ≤ r.C.length ∧ i = .int .i64 k ∧ Hid (firstE (conAtE r.C r.S.F.length) k = 0) ∧ Below w1.heap.size w1 wr) (fun i _ => r.C.length - (intOf i).toNat)
        case atStart => exact ⟨0, by omega, rfl, rfl, Below.refl _ _⟩
        case round =>
          obtain ⟨k, hk, rfl, HK, hbw⟩ := hrel
          have z0 : ∀ j, wr.cell? ⟨w.heap.size, j, none⟩ = _ := fun j => (hbw.cell (p := ⟨w.heap.size, j, none⟩) y1).trans (y0 j)
          have z1 : w.heap.size < wr.heap.size := Nat.lt_of_lt_of_le y1 hbw.size
          have HAr := Lib.hid (HA1.out.below hbw)
          by_cases hlt : k < r.C.length
          · have hki : (k : Int) < (r.C.length : Int) := by omega
            obtain ⟨blk, off, rfl, hb, c0, c1, c2, c3, c4, c5, c6, c7⟩ := con_at HAr.out.sC hlt
            have HBAD := Lib.hid (fun e => limE_con HS.out HZ.out HN.out hlt HK.out e)
            have HC0 := Lib.hid (fun e => conAtE_bad (C := r.C) (n := r.S.F.length) hlt e)
            have HC1 := Lib.hid (fun e g => conAtE_two (C := r.C) (n := r.S.F.length) hlt e g)
            have HC2 := Lib.hid (fun e g => conAtE_ok (C := r.C) (n := r.S.F.length) hlt e g)
            have HHIT := Lib.hid (fun (j : Nat) (hj : j < k) (e : sameS (r.C[j]'(Nat.lt_of_lt_of_le hj hk)).nm (r.C[k]'hlt).nm = true) => any_hit (C := r.C) (s := (r.C[k]'hlt).nm) hj hk e)
            have HNXT := Lib.hid (fun (j : Nat) (hj : j < k) h (e : sameS (r.C[j]'(Nat.lt_of_lt_of_le hj hk)).nm (r.C[k]'hlt).nm = false) => anyC_take (C := r.C) (s := (r.C[k]'hlt).nm) (j := j) (Nat.lt_of_lt_of_le hj hk) h e)
            have HNM := Lib.hid (feeds_of HI.out hlt)
            generalize hx : r.C[k] = x at *
            clear hx
            obtain ⟨W2, hW2, hb2, hg2, hx2⟩ := box1 wr #[.string x.nm, .int .i64 x.fd, .int .i64 x.w.dy, .int .i64 x.w.st, .int .i64 x.w.en, .int .i64 x.w.fr, .int .i64 x.w.to, .int .i64 x.tot] 84
            have v0 : ∀ j, W2.cell? ⟨w.heap.size, j, none⟩ = _ := fun j => (hb2.cell (p := ⟨w.heap.size, j, none⟩) z1).trans (z0 j)
            have v1 : w.heap.size < W2.heap.size := Nat.lt_of_lt_of_le z1 hb2.size
            go_wp2_with fail
            rw [← hW2]
            clear hW2 z0 z1 c0 c1 c2 c3 c4 c5 c6 c7 hb
            refine (conValid_any x _ _ _ r.S.F.length a r.S.P.length b _ HNM.out HFM.out).mono ?_
            rintro e w3 ⟨rfl, hb3⟩
            have u0 : ∀ j, w3.cell? ⟨w.heap.size, j, none⟩ = _ := fun j => (hb3.cell (p := ⟨w.heap.size, j, none⟩) v1).trans (v0 j)
            have u1 : w.heap.size < w3.heap.size := Nat.lt_of_lt_of_le v1 hb3.size
            have p0 : ∀ j, w3.cell? ⟨wr.heap.size, j, none⟩ = _ := fun j => (hb3.cell (p := ⟨wr.heap.size, j, none⟩) hg2).trans (hx2 j)
            have p1 : wr.heap.size < w3.heap.size := Nat.lt_of_lt_of_le hg2 hb3.size
            have hbw3 := below_step hbw (below_step hb2 hb3)
            have HA3 := Lib.hid (HA1.out.below hbw3)
            clear v0 v1 hx2 hg2 hb2 hb3
            by_cases he : conE x r.S.F.length = 0
            · have HE0 := Lib.hid he
              rw [he]
              clear he
              have hk0 : (0 : Int) ≤ (k : Int) := by omega
              have hkc : (k : Int) ≤ (c : Int) := by omega
              have hkl : ¬ r.C.length < k := by omega
              have hkc2 : ¬ c < k := by omega
              generalize wr.heap.size = gr at *
              go_wp2_with fail
              generalize w3 = wm at *
              go_loopw [52] (fun i wx => ∃ j : Nat, j ≤ k ∧ i = .int .i64 j ∧ Hid ((r.C.take j).any (fun d => sameS d.nm x.nm) = false) ∧ Below wm.heap.size wm wx) (fun i _ => k - (intOf i).toNat)
              case atStart => exact ⟨0, by omega, rfl, rfl, Below.refl _ _⟩
              case round =>
                obtain ⟨j, hj, rfl, HJ, hbx⟩ := hrel
                by_cases hjk : j < k
                · have hji : (j : Int) < (k : Int) := by omega
                  have hjl : j < r.C.length := by omega
                  obtain ⟨b3, off3, hA3, hb3, d0, d1, d2, d3, d4, d5, d6, d7⟩ := con_at (HA3.out.below hbx).sC hjl
                  injection hA3 with hA3
                  injection hA3 with hA3 hA4 _
                  subst hA3; subst hA4
                  have HH := Lib.hid (fun e => HHIT.out j hjk e)
                  have HX := Lib.hid (fun e => HNXT.out j hjk HJ.out e)
                  have HNJ := Lib.hid (feeds_of HI.out hjl)
                  generalize r.C[j] = y at *
                  obtain ⟨W4, hW4, hb4, hg4, hx4⟩ := box1 wr #[.string y.nm, .int .i64 y.fd, .int .i64 y.w.dy, .int .i64 y.w.st, .int .i64 y.w.en, .int .i64 y.w.fr, .int .i64 y.w.to, .int .i64 y.tot] 84
                  have g0 : ∀ j, wr.cell? ⟨gr, j, none⟩ = _ := fun j => (hbx.cell (p := ⟨gr, j, none⟩) p1).trans (p0 j)
                  have g1 : gr < wr.heap.size := Nat.lt_of_lt_of_le p1 hbx.size
                  go_wp2_with fail
                  rw [← hW4]
                  clear hW4
                  refine (same_any y.nm x.nm _ HNJ.out).mono ?_
                  rintro e w5 ⟨rfl, hd5⟩
                  have hbx5 := below_step (below_step hbx hb4) (drewN_belowU hd5)
                  cases hsm : sameS y.nm x.nm with
                  | true =>
                    have he9 := HC1.out HE0.out (HH.out hsm)
                    have HE := Lib.hid (HBAD.out (by rw [he9]; decide))
                    have HE9 := Lib.hid he9
                    clear he9 hsm
                    go_wp2_with fail
                    go_ret
                    exact ⟨ret_int (by rw [HE.out, HE9.out]), below_step hb01 (below_step hbw3 hbx5)⟩
                  | false =>
                    have HN2 := Lib.hid (HX.out hsm)
                    clear hsm
                    go_wp2_with fail
                    go_roundw
                    case measure => simp [intOf]; omega
                    case rel => exact ⟨j + 1, by omega, by go_num, HN2, hbx5⟩
                · have hji : ¬ (j : Int) < (k : Int) := by omega
                  obtain rfl : j = k := by omega
                  have HK2 := Lib.hid (firstE_go HK.out (HC2.out HE0.out HJ.out))
                  go_wp2_with fail
                  go_roundw
                  case measure => simp [intOf]; omega
                  case rel => exact ⟨j + 1, by omega, by go_num, HK2, below_step hbw3 hbx⟩
            · have he9 := HC0.out he
              have HE := Lib.hid (HBAD.out (by rw [he9]; exact he))
              have HE9 := Lib.hid he9
              have hne : (conE x r.S.F.length != 0) = true := by simpa using he
              clear he9
              go_wp2_with fail
              go_ret
              exact ⟨ret_int (by rw [HE.out, HE9.out]), below_step hb01 hbw3⟩
          · have hki : ¬ (k : Int) < (r.C.length : Int) := by omega
            obtain rfl : k = r.C.length := by omega
            have HCC := Lib.hid HK.out
            by_cases hu : 64 < r.U.length
            · have HE := Lib.hid (limE_events HS.out HZ.out HN.out HCC.out hu)
              have hui : (64 : Int) < (r.U.length : Int) := by omega
              go_wp2_with fail
              go_ret
              exact ⟨ret_int HE.out.symm, below_step hb01 hbw⟩
            · have hui : ¬ (64 : Int) < (r.U.length : Int) := by omega
              have HU := Lib.hid hu
              have hbwm := below_step hb01 hbw
              clear hk hlt hki hbw HK y0 y1 HA1
              go_wp2_with fail
              generalize wr = wm at *
              go_loopw [70] (fun i wx => ∃ k : Nat, k ≤ r.U.length ∧ i = .int .i64 k ∧ Hid (firstE (curAtE r.U r.S.F.length) k = 0) ∧ Below wm.heap.size wm wx) (fun i _ => r.U.length - (intOf i).toNat)
              case atStart => exact ⟨0, by omega, rfl, rfl, Below.refl _ _⟩
              case round =>
                obtain ⟨k, hk, rfl, HK, hbx⟩ := hrel
                have y0 : ∀ j, wr.cell? ⟨w.heap.size, j, none⟩ = _ := fun j => (hbx.cell (p := ⟨w.heap.size, j, none⟩) z1).trans (z0 j)
                have y1 : w.heap.size < wr.heap.size := Nat.lt_of_lt_of_le z1 hbx.size
                have HAx := Lib.hid (HAr.out.below hbx)
                by_cases hlt : k < r.U.length
                · have hki : (k : Int) < (r.U.length : Int) := by omega
                  obtain ⟨blk, off, rfl, hb, c0, c1, c2, c3, c4, c5, c6⟩ := cur_at HAx.out.sU hlt
                  have HBAD := Lib.hid (fun e => limE_cur HS.out HZ.out HN.out HCC.out HU.out hlt HK.out e)
                  have HC0 := Lib.hid (fun e => curAtE_bad (U := r.U) (n := r.S.F.length) hlt e)
                  have HNM := Lib.hid (curs_of HI.out hlt)
                  generalize hx : r.U[k] = x at *
                  obtain ⟨W2, hW2, hb2, hg2, hx2⟩ := box1 wr #[.string x.nm, .int .i64 x.ver, .int .i64 x.fd, .int .i64 x.fr, .int .i64 x.to, .int .i64 x.tot, .bool x.off] 90
                  have v0 : ∀ j, W2.cell? ⟨w.heap.size, j, none⟩ = _ := fun j => (hb2.cell (p := ⟨w.heap.size, j, none⟩) y1).trans (y0 j)
                  have v1 : w.heap.size < W2.heap.size := Nat.lt_of_lt_of_le y1 hb2.size
                  have HA2 := Lib.hid (HAx.out.below hb2)
                  have HX := Lib.hid hx
                  clear hx
                  go_wp2_with fail
                  rw [← hW2]
                  clear hW2 y0 y1 c0 c1 c2 c3 c4 c5 c6 hb
                  refine (curValid_any x _ _ _ r.S.F.length a r.S.P.length b _ HNM.out HFM.out).mono ?_
                  rintro e w3 ⟨rfl, hb3⟩
                  have u0 : ∀ j, w3.cell? ⟨w.heap.size, j, none⟩ = _ := fun j => (hb3.cell (p := ⟨w.heap.size, j, none⟩) v1).trans (v0 j)
                  have u1 : w.heap.size < w3.heap.size := Nat.lt_of_lt_of_le v1 hb3.size
                  have p0 : ∀ j, w3.cell? ⟨wr.heap.size, j, none⟩ = _ := fun j => (hb3.cell (p := ⟨wr.heap.size, j, none⟩) hg2).trans (hx2 j)
                  have p1 : wr.heap.size < w3.heap.size := Nat.lt_of_lt_of_le hg2 hb3.size
                  have hbx3 := below_step hbx (below_step hb2 hb3)
                  have HA3 := Lib.hid (HA2.out.below hb3)
                  clear v0 v1 hx2 hg2 hb2 hb3
                  by_cases he : curE x r.S.F.length = 0
                  · have HE0 := Lib.hid he
                    rw [he]
                    clear he
                    have hbr := Below.refl w3.heap.size w3
                    cases k with
                    | zero =>
                      have HK2 : Hid (firstE (curAtE r.U r.S.F.length) 1 = 0) := firstE_go HK.out (curAtE_zero hlt (by rw [HX.out]; exact HE0.out))
                      generalize wr.heap.size = gr at *
                      go_wp2_with fail
                      (refine wp_region_kept w3 (by kernel_rfl) (by kernel_rfl) (by assumption) ?_; (repeat (go_big_quiet_step ((first | fail)))); refine wpQuiet_nil ?_; intro _ hw'; obtain ⟨x9, hw''⟩ := hw'; subst hw''; have hk9 := after_kept x9; generalize after x9 = w9 at *)
                      obtain ⟨hc9, hb9⟩ := hk9
                      go_wp2_with fail
                      go_roundw
                      case measure => simp [intOf]; omega
                      case rel => exact ⟨1, by omega, by go_num, HK2, below_step hbx3 hb9⟩
                    | succ j =>
                      have hjl : j < r.U.length := by omega
                      have hj0 : (0 : Int) < ((j + 1 : Nat) : Int) := by omega
                      have hj1 : IntKind.i64.wrap (((j + 1 : Nat) : Int) - 1) = (j : Int) := by rw [show ((j + 1 : Nat) : Int) - 1 = j by omega]; exact IntWalk.i64_in _ (by omega)
                      have hj2 : (j : Int) < (r.U.length : Int) := by omega
                      obtain ⟨b3, off3, hA3, hb3, d0, d1, d2, d3, d4, d5, d6⟩ := cur_at HA3.out.sU hjl
                      injection hA3 with hA3
                      injection hA3 with hA3 hA4 _
                      subst hA3; subst hA4
                      have HT1 : Hid (nameLe x.nm (r.U[j]'hjl).nm = true → curAtE r.U r.S.F.length (j + 1) = 1) := fun g => curAtE_two hlt (by rw [HX.out]; exact HE0.out) (by rw [HX.out]; exact g)
                      have HT2 : Hid (nameLe x.nm (r.U[j]'hjl).nm = false → curAtE r.U r.S.F.length (j + 1) = 0) := fun g => curAtE_ok hlt (by rw [HX.out]; exact HE0.out) (by rw [HX.out]; exact g)
                      generalize r.U[j] = y at *
                      clear d1 d2 d3 d4 d5 d6
                      generalize wr.heap.size = gr at *
                      cases hq : nameLe x.nm y.nm with
                      | true =>
                        have he1 := HT1.out hq
                        have HE := Lib.hid (HBAD.out (by rw [he1]; decide))
                        have HE1 := Lib.hid he1
                        have hq2 : (Op.bytesLess x.nm.toList y.nm.toList || x.nm.toList == y.nm.toList) = true := hq
                        clear he1 hq
                        go_wp2_with fail
                        (refine wp_region_kept w3 (by kernel_rfl) (by kernel_rfl) (by assumption) ?_; (repeat (go_big_quiet_step ((first | fail)))); refine wpQuiet_nil ?_; intro _ hw'; obtain ⟨x9, hw''⟩ := hw'; subst hw''; have hk9 := after_kept x9; generalize after x9 = w9 at *)
                        obtain ⟨hc9, hb9⟩ := hk9
                        go_wp2_with fail
                        go_ret
                        exact ⟨ret_int (by rw [HE.out, HE1.out]), below_step hbwm (below_step hbx3 hb9)⟩
                      | false =>
                        have HK2 := Lib.hid (firstE_go HK.out (HT2.out hq))
                        have hq2 : (Op.bytesLess x.nm.toList y.nm.toList || x.nm.toList == y.nm.toList) = false := hq
                        clear hq
                        go_wp2_with fail
                        (refine wp_region_kept w3 (by kernel_rfl) (by kernel_rfl) (by assumption) ?_; (repeat (go_big_quiet_step ((first | fail)))); refine wpQuiet_nil ?_; intro _ hw'; obtain ⟨x9, hw''⟩ := hw'; subst hw''; have hk9 := after_kept x9; generalize after x9 = w9 at *)
                        obtain ⟨hc9, hb9⟩ := hk9
                        go_wp2_with fail
                        go_roundw
                        case measure => simp [intOf]; omega
                        case rel => exact ⟨j + 1 + 1, by omega, by go_num, HK2, below_step hbx3 hb9⟩
                  · have he9 := HC0.out he
                    have HE := Lib.hid (HBAD.out (by rw [he9]; exact he))
                    have HE9 := Lib.hid he9
                    have hne : (curE x r.S.F.length != 0) = true := by simpa using he
                    clear he9
                    go_wp2_with fail
                    go_ret
                    exact ⟨ret_int (by rw [HE.out, HE9.out]), below_step hbwm hbx3⟩
                · have hki : ¬ (k : Int) < (r.U.length : Int) := by omega
                  obtain rfl : k = r.U.length := by omega
                  have HE := Lib.hid (limE_done HS.out HZ.out HN.out HCC.out HU.out HK.out)
                  go_wp2_with fail
                  go_ret
                  exact ⟨ret_int HE.out.symm, below_step hbwm hbx⟩
  · have HE := Lib.hid (limE_site hs)
    have hne : (siteE r.S != 0) = true := by simpa using hs
    go_wp2_with fail
    go_ret
    exact ⟨ret_int HE.out.symm, hb01⟩

end Go.Proofs.YtlpjniejbblcnaaDoor
