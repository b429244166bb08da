/-
  Walks: the filling of the reference of package allocate.
  Plain facts: powers keep the limits, nothing is wasted; equal wants; one want.
-/
import Derived.Test.YtlpjniejbblcnaaDoorM10
import Derived.Test.YtlpjniejbblcnaaDoorM7
import Derived.IntWalk
import Derived.Test.YtlpjniejbblcnaaDoorM6

namespace Go.Proofs.YtlpjniejbblcnaaDoor
open Go.RowKit Go.Lib Go.Maps
attribute [local go_sem] after_cell
set_option linter.unusedVariables false

theorem Blk.own {w : World} {g N n : Nat} {T : TypeId} {l : List Int} (h : Blk w g T (l.flatMap encZ)) (hN : N ≤ g) (hl : l.length = n) (hn : n ≤ 1000) : w.ownsRow N T 1 (.slice (some ⟨g, 0, none⟩) n n) n (l.flatMap encZ) := by
  have hlen : (l.flatMap encZ).length = n * 1 := by rw [flat_len encZ 1 encZ_len, hl]
  exact ⟨hlen, .inr ⟨g, n, _, rfl, hN, h, Nat.le_refl _, by unfold maxLen; omega, by rw [List.size_toArray]; exact hlen, by show List.take (n * 1) (l.flatMap encZ) = _; rw [← hlen, List.take_length]⟩⟩
theorem own_far {w : World} {g k N n : Nat} {v : Value} {xs : List Value} (h : w.ownsRow N 3 1 v n xs) (hv : v.ownBlock ≠ some g) (u : Value) : (w.setCell ⟨g, k, none⟩ u).ownsRow N 3 1 v n xs :=
  kept_own h (grown_set (w := w) (w' := w) (g := g) ⟨rfl, rfl, rfl, Nat.le_refl _, fun _ _ _ => rfl⟩ k u) (fun b e => by injection e with e; subst e; exact hv)
theorem own_step {w w1 w2 : World} (h : Below w.heap.size w w1) {e : TypeId} {s n : Nat} {v : Value} {xs : List Value} (ho : w2.ownsRow w1.heap.size e s v n xs) : w2.ownsRow w.heap.size e s v n xs := own_mono ho h.size
/-- the reference's filling under way -/
structure FilM (w : World) (N ab n : Nat) (xv : Value) (x : Vec) (a : Act) : Prop where
  x : w.ownsRow N 3 1 xv n ((listV n x).flatMap encZ)
  d : xv.ownBlock ≠ some ab
  a : Blk w ab 4 (rowV Value.bool n a)
theorem FilM.below {w w' : World} {N ab n : Nat} {xv : Value} {x : Vec} {a : Act} (h : FilM w N ab n xv x a) (hb : Below w.heap.size w w') : FilM w' N ab n xv x a := ⟨own_below h.x hb, h.d, h.a.below hb h.a.lt⟩
theorem FilM.put {w w' : World} {N ab n : Nat} {xv v : Value} {x y : Vec} {a : Act} (h : FilM w N ab n xv x a) (hb : Below w.heap.size w w') (hN : N ≤ w.heap.size) (ho : w'.ownsRow w.heap.size 3 1 v n ((listV n y).flatMap encZ)) : FilM w' N ab n v y a :=
  ⟨own_mono ho hN, fun e => by have := (ho.lt ab e).1; have := h.a.lt; omega, h.a.below hb h.a.lt⟩
theorem FilM.setA {w : World} {N ab n k : Nat} {xv : Value} {x : Vec} {a : Act} (h : FilM w N ab n xv x a) (hk : k < n) (b : Bool) : FilM (w.setCell ⟨ab, k, none⟩ (.bool b)) N ab n xv x (updF a k b) := by
  refine ⟨own_far h.x h.d _, h.d, ?_⟩
  have := h.a.set k (.bool b)
  rw [rowV_set hk] at this
  exact this
theorem FilM.sl {w : World} {N ab n : Nat} {xv : Value} {x : Vec} {a : Act} (h : FilM w N ab n xv x a) : IsSl w 1 xv ((listV n x).map encZ) := IsSl.of_own encZ_len h.x (listV_len n x)

set_option maxRecDepth 100000 in
set_option maxHeartbeats 12800000 in
theorem rfill_any (S : SiteR) (C : List CapR) (W : List WantR) (c : Vec) (fv pv cv wv zv : Value) (w : World) (hF : IsSl w 5 fv (S.F.map Feed.cells)) (hP : IsSl w 5 pv (S.P.map Pnt.cells)) (hC : IsSl w 4 cv (C.map CapR.cells)) (hW : IsSl w 3 wv (W.map WantR.cells)) (hZ : IsSl w 1 zv ((listV W.length c).map encZ))
    (hA : AllocOk S C W) (hlW : W.length ≤ 64) (hcb : ∀ i, i < W.length → 0 ≤ c i ∧ c i ≤ 1048576) :
    Calls Tryd.prog 32 #[.agg #[.string S.name, fv, pv], cv, wv, zv] w fun e w' => ∃ v, e = .returned v ∧ IsSl w' 1 v ((listV W.length (fillX W.length (siteV S C W) c)).map encZ) ∧ Below w.heap.size w w' ∧ Fresh w v := by
  obtain ⟨A, cA, rfl, hlc, hcm, hsl⟩ := islen' hF
  obtain ⟨B, d, rfl, hld, hdm, hsp⟩ := islen' hP
  obtain ⟨C', c', rfl, hlc', hcm', hsc⟩ := islen' hC
  obtain ⟨D, d', rfl, hld', hdm', hsw⟩ := islen' hW
  obtain ⟨E, e', rfl, hle', hem', hsz⟩ := islen' hZ
  rw [listV_len] at hZ
  simp only [listV_len]
  obtain ⟨W0, hW0, hb0, hg0, hx0⟩ := box1 w #[.string S.name, .slice A S.F.length cA, .slice B S.P.length d] 30
  have HCR : Hid (∀ w', Below W0.heap.size W0 w' → ∀ zv x, IsSl w' 1 zv ((listV W.length x).map encZ) → Calls Tryd.prog 50 #[.agg #[.string S.name, .slice A S.F.length cA, .slice B S.P.length d], .slice C' C.length c', .slice D W.length d', zv] w' fun e w'' => e = .returned (.bool (siteV S C W x)) ∧ Below w'.heap.size w' w'') := fun w' hb zv x hz =>
    carries_any S C W x _ _ _ _ zv w' ((hF.below hb0).below hb) ((hP.below hb0).below hb) ((hC.below hb0).below hb) ((hW.below hb0).below hb) hz hA (by omega)
  have HSZ := Lib.hid (hsz.below hb0)
  have HZ0 := Lib.hid (hZ.below hb0)
  have HO := Lib.hid (siteV_mono S C W)
  have HZ := Lib.hid (siteV_zero hA)
  have HCB := Lib.hid hcb
  have HCAP : Hid (Capped W.length c) := ⟨1048576, fun i hi => by have := hcb i hi; omega⟩
  clear hF hP hC hW hZ hsl hsp hsc hsw hsz hlc hld hlc' hld' hcm hdm hcm' hdm' hle' hem' hA hcb
  generalize siteV S C W = F at *
  generalize W.length = n at *
  obtain ⟨i0, hi0, hz0, hz1, hz2⟩ := info_parts intInfo
  obtain ⟨i1, hj0, hjz, hj1, hj2⟩ := info_parts boolInfo
  have hmk := fun W => run_make_rowZ (P := Tryd.prog) 22 3 i0 _ Tryd.underlying22 hi0 hz0 .i64 .i64 n n (n : Int) (n : Int) rfl rfl (by omega) (by rw [hz2]; omega) (by omega) W
  have hmb := fun W => run_make_rowZ (P := Tryd.prog) 97 4 i1 _ Tryd.underlying97 hj0 hjz .i64 .i64 n n (n : Int) (n : Int) rfl rfl (by omega) (by rw [hj2]; omega) (by omega) W
  rw [hz1] at hmk
  rw [hj1] at hmb
  have HZC := Lib.hid (zeros_int n)
  have HZB := Lib.hid (zeros_bool n)
  generalize madeCells _ (n * 1) = ZC at hmk HZC
  generalize madeCells _ (n * 1) = ZB at hmb HZB
  go_enter Tryd.func32, Tryd.ntmps32
  go_wp2_with fail
  rw [← hW0]
  have hs0 : W0.heap.size = w.heap.size + 1 := by rw [hW0]; simp
  rw [← hs0]
  have HS0 := Lib.hid hs0
  clear hW0 hs0
  have HX1 : Hid ((W0.alloc (.cells ZC 3)).ownsRow W0.heap.size 3 1 (.slice (some ⟨W0.heap.size, 0, none⟩) n n) n ((listV n zeroV).flatMap encZ)) := by
    have h : Blk (W0.alloc (.cells ZC 3)) W0.heap.size 3 ((listV n zeroV).flatMap encZ) := by
      refine Blk.new' rfl _ _ ?_
      rw [HZC.out, rowV_flat]
    exact h.own (Nat.le_refl _) (listV_len _ _) (by omega)
  refine (HCR.out _ (below_alloc (Below.refl _ _) _) _ zeroV (IsSl.of_own encZ_len HX1.out (listV_len _ _))).mono ?_
  rintro e w2 ⟨rfl, hb2⟩
  rw [HZ.out]
  have hb02 := below_step (below_alloc (Below.refl W0.heap.size W0) (.cells ZC 3)) hb2
  have hbA := below_alloc (Below.refl w2.heap.size w2) (.cells ZB 4)
  have hlt2 : W0.heap.size < w2.heap.size := Nat.lt_of_lt_of_le (by simp) hb2.size
  have HM1 : Hid (FilM (w2.alloc (.cells ZB 4)) W0.heap.size w2.heap.size n (.slice (some ⟨W0.heap.size, 0, none⟩) n n) zeroV (fun j => decide (j < 0))) := by
    refine ⟨own_below (own_below HX1.out hb2) hbA, by simp [Value.ownBlock]; omega, ?_⟩
    refine Blk.new' rfl _ _ ?_
    rw [HZB.out]
    exact rowV_congr fun i _ => by simp
  clear hmk HZC HX1 HZB
  go_wp2_with fail
  clear hmb
  have hbA0 := below_alloc hb02 (.cells ZB 4)
  go_loopw [12] (fun i wr => ∃ k : Nat, k ≤ n ∧ i = .int .i64 k ∧ Below W0.heap.size W0 wr ∧ w2.heap.size ≤ wr.heap.size ∧ FilM wr W0.heap.size w2.heap.size n (.slice (some ⟨W0.heap.size, 0, none⟩) n n) zeroV (fun j => decide (j < k))) (fun i _ => n - (intOf i).toNat)
  case atStart => exact ⟨0, by omega, rfl, hbA0, by simp, HM1.out⟩
  case round =>
    obtain ⟨k, hk, rfl, hbw, hz2, hM⟩ := hrel
    have HM := Lib.hid hM
    clear hM HM1 hbA0
    obtain ⟨hc, hf⟩ := bcell hbw
    by_cases hlt : k < n
    · have hki : (k : Int) < (n : Int) := by omega
      have a0 := (HM.out.a.cell k).trans (rowV_at hlt)
      have f0 := HM.out.a.free k
      have HS : Hid (FilM (wr.setCell ⟨w2.heap.size, k, none⟩ (.bool true)) W0.heap.size w2.heap.size n (.slice (some ⟨W0.heap.size, 0, none⟩) n n) zeroV (fun j => decide (j < k + 1))) := by
        have h := HM.out.setA hlt true
        rw [show updF (fun j => decide (j < k)) k true = fun j => decide (j < k + 1) from (by
          funext j
          unfold updF
          by_cases q : j = k
          · subst q; simp
          · rw [if_neg q]; simp; omega)] at h
        exact h
      have HBS := Lib.hid (hbw.setCell (p := ⟨w2.heap.size, k, none⟩) (Nat.le_of_lt hlt2) (.bool true))
      go_wp2_with fail
      go_roundw
      case measure => simp [intOf]; omega
      case rel => exact ⟨k + 1, by omega, by go_num, HBS.out, by simpa using hz2, HS.out⟩
    · have hki : ¬ (k : Int) < (n : Int) := by omega
      have hkn : k = n := by omega
      have HM0 : Hid (FilM wr W0.heap.size w2.heap.size n (.slice (some ⟨W0.heap.size, 0, none⟩) n n) (startF n).x (startF n).a) := by have h := HM.out; rw [hkn] at h; exact h
      have HOK0 := Lib.hid (start_ok HCAP.out HZ.out)
      have HCT := Lib.hid (cnt_start n n (Nat.le_refl _))
      clear HM hc hf
      go_wp2_with fail
      go_loopw [9, 11] (fun xv lv wi => ∃ s : FSt, lv = .int .i64 (cntF s.a n : Nat) ∧ Below W0.heap.size W0 wi ∧ w2.heap.size ≤ wi.heap.size ∧ FilM wi W0.heap.size w2.heap.size n xv s.x s.a ∧ s.ok n F c ∧ RndsF n F c s) (fun _ lv _ => (intOf lv).toNat)
      case atStart => exact ⟨startF n, by rw [HCT.out], hbw, hz2, HM0.out, HOK0.out, RndsF.start n F c⟩
      case round =>
        clear HM0 HOK0 HCT hbw hz2 hk hki hkn hlt
        obtain ⟨s, rfl, hbw, hz2, hM, hOK, hRN⟩ := hrel
        have HM := Lib.hid hM
        have HOK := Lib.hid hOK
        have HRN := Lib.hid hRN
        clear hM hOK hRN
        obtain ⟨A9, c9, hv9⟩ := own_shape HM.out.x
        subst hv9
        have hcnt : cntF s.a n ≤ n := cnt_top _ n
        have hN2 : W0.heap.size ≤ wr.heap.size := hbw.size
        have HXB : Hid (∀ i, i < n → 0 ≤ s.x i ∧ s.x i ≤ 1048576) := fun i hi => by have := HOK.out.rng i hi; have := HCB.out i hi; omega
        by_cases hm : 0 < cntF s.a n
        · have hmi : (0 : Int) < (cntF s.a n : Nat) := by omega
          have HNX := Lib.hid (fun d (hd : IsTop n F c s d) => HRN.out.next HO.out HOK.out (by omega) hd)
          have HSK := Lib.hid (SeekF.start HO.out HOK.out)
          go_wp2_with fail
          go_loopw [13, 14] (fun dv sv wi => ∃ d step : Int, dv = .int .i64 d ∧ sv = .int .i64 step ∧ Below wr.heap.size wr wi ∧ SeekF n F c s step d) (fun _ sv _ => (intOf sv).toNat)
          case atStart => exact ⟨0, 1048576, rfl, rfl, Below.refl _ _, HSK.out⟩
          case round =>
            clear HSK
            obtain ⟨dd, step, rfl, rfl, hbi, hSK⟩ := hrel
            have HSK := Lib.hid hSK
            clear hSK
            obtain ⟨hs0, hs1, hd1⟩ := HSK.out.bd
            have hd0 := HSK.out.d0
            have hb0i := hbw.trans (hbi.mono hN2)
            have HMI := Lib.hid (HM.out.below hbi)
            have hzi := hbi.size
            by_cases hst : 0 < step
            · have q1 : IntKind.i64.wrap (dd + step) = dd + step := IntWalk.i64_in _ (by omega)
              have q2 : step.tdiv 2 = step / 2 := Int.tdiv_eq_ediv_of_nonneg (by omega)
              have q3 : IntKind.i64.wrap (step / 2) = step / 2 := IntWalk.i64_in _ (by omega)
              have q4 : IntKind.i64.wrap (step.tdiv 2) = step / 2 := by rw [q2]; exact q3
              have HLV := Lib.hid (fun w' (h : (∀ b o, b < wr.heap.size → w'.cell? ⟨b, o, none⟩ = wr.cell? ⟨b, o, none⟩) ∧ Below wr.heap.size wr w') => level_any n s.x c s.a (dd + step) w2.heap.size (.slice A9 n c9) (.slice E n e') w' ((HMI.out.below h.2).sl) ((HZ0.out.below hb0i).below h.2) (HMI.out.below h.2).a (by omega) (fun i hi => by have := HXB.out i hi; omega) (by omega))
              have HCV := Lib.hid (fun v w' (h : (∀ b o, b < wr.heap.size → w'.cell? ⟨b, o, none⟩ = wr.cell? ⟨b, o, none⟩) ∧ Below wr.heap.size wr w') (ho : w'.ownsRow wr.heap.size 3 1 v n ((listV n (levF s.x c s.a (dd + step))).flatMap encZ)) => HCR.out w' (hb0i.trans (h.2.mono (by omega))) v _ (IsSl.of_own encZ_len ho (listV_len _ _)))
              have Y0 : ∀ j, wr.cell? ⟨w.heap.size, j, none⟩ = (#[.string S.name, .slice A S.F.length cA, .slice B S.P.length d] : Array Value)[j]? := fun j => (hb0i.cell (p := ⟨w.heap.size, j, none⟩) hg0).trans (hx0 j)
              have g4 : w.heap.size < wr.heap.size := by have := HS0.out; have := hb0i.size; omega
              have hbr := Below.refl wr.heap.size wr
              go_wp2_with fail
              go_cut [57] (fun v wx => v = .bool (F (levF s.x c s.a (dd + step))) ∧ Below wr.heap.size wr wx)
              case first =>
                go_region_held3 (fun w' => (∀ b o, b < wr.heap.size → w'.cell? ⟨b, o, none⟩ = wr.cell? ⟨b, o, none⟩) ∧ Below wr.heap.size wr w') (first | exact ⟨(bcell (W := wr) (by assumption)).1, by assumption⟩ | exact ⟨(bcell (W := wr) (Below.drew (by assumption))).1, Below.drew (by assumption)⟩) ((first
                  | (go_at_call 51; refine (HLV.out _ (by assumption)).mono ?_; rintro e w7 ⟨v7, rfl, ho7, hb7⟩; have hb67 := below_step (w := wr) (And.right (by assumption)) hb7; have ho67 := own_step (w := wr) (And.right (by assumption)) ho7)
                  | (go_at_call 50; refine (HCV.out _ _ (by assumption) ho67).mono ?_; rintro e w8 ⟨rfl, hb8⟩; have hb68 := below_step (w := wr) (And.right (by assumption)) hb8)))
                all_goals
                  go_wp2_with fail
                  go_meet
                  exact ⟨rfl, hb68⟩
              case rest =>
                obtain ⟨rfl, hbx⟩ := hcut
                have HBX := Lib.hid (below_step hbi hbx)
                clear HLV HCV Y0 hbr hbx
                cases hF : F (levF s.x c s.a (dd + step)) with
                | true =>
                  have HN := Lib.hid (HSK.out.yes hst hF)
                  go_wp2_with fail
                  go_roundw
                  case measure => simp [intOf]; omega
                  case rel => exact ⟨dd + step, step / 2, by go_num, by go_num, HBX.out, HN.out⟩
                | false =>
                  have HN := Lib.hid (HSK.out.no hst hF)
                  go_wp2_with fail
                  go_roundw
                  case measure => simp [intOf]; omega
                  case rel => exact ⟨dd, step / 2, rfl, by go_num, HBX.out, HN.out⟩
            · have HTP := Lib.hid (HSK.out.stop hst HOK.out (fun i hi => (HCB.out i hi).2))
              have HL := Lib.hid (level_any n s.x c s.a dd w2.heap.size (.slice A9 n c9) (.slice E n e') wr HMI.out.sl (HZ0.out.below hb0i) HMI.out.a (by omega) (fun i hi => by have := HXB.out i hi; omega) (by omega))
              have HLK := Lib.hid (lev_ok HO.out HOK.out HTP.out)
              go_wp2_with (go_at_call 51; refine HL.out.mono ?_; rintro e w5 ⟨v5, rfl, ho5, hb5⟩)
              have HM5 := Lib.hid (HMI.out.put hb5 (by omega) ho5)
              have hb05 := below_step hb0i hb5
              have hz5 := hb5.size
              clear HL
              go_loopw [9, 11, 15] (fun xv lv iv wi => ∃ k : Nat, k ≤ n ∧ iv = .int .i64 k ∧ lv = .int .i64 (cntF (passF F c ⟨levF s.x c s.a dd, s.a⟩ k).a n : Nat) ∧ Below W0.heap.size W0 wi ∧ w2.heap.size ≤ wi.heap.size ∧ FilM wi W0.heap.size w2.heap.size n xv (passF F c ⟨levF s.x c s.a dd, s.a⟩ k).x (passF F c ⟨levF s.x c s.a dd, s.a⟩ k).a) (fun _ _ iv _ => n - (intOf iv).toNat)
              case atStart => exact ⟨0, by omega, rfl, rfl, hb05, by omega, HM5.out⟩
              case round =>
                clear HM5 hb05 hz5 hb5 ho5
                obtain ⟨k, hk, rfl, rfl, hbq, hzq, hM⟩ := hrel
                have HMQ := Lib.hid hM
                clear hM
                have HOQ := Lib.hid (pass_ok HO.out HLK.out k)
                have hps : passF F c ⟨levF s.x c s.a dd, s.a⟩ (k + 1) = stepF F c (passF F c ⟨levF s.x c s.a dd, s.a⟩ k) k := rfl
                have HPS := Lib.hid hps
                clear hps
                obtain ⟨A6, c6, hv6⟩ := own_shape HMQ.out.x
                subst hv6
                by_cases hlt : k < n
                · have hki : (k : Int) < (n : Int) := by omega
                  generalize passF F c ⟨levF s.x c s.a dd, s.a⟩ k = p at *
                  obtain ⟨bc, offc, rfl, hbc, c0⟩ := vec_at HSZ.out hlt
                  obtain ⟨g, cap, e, hgb, hgl, hcap, hcap2, hcl⟩ := own_split HMQ.out.x (by omega)
                  injection e with e1 e2 e3
                  subst e1 e3
                  have x0 := hcl k _ (flatZ_at (by rw [listV_len]; exact hlt))
                  rw [listV_get] at x0
                  have a0 := (HMQ.out.a.cell k).trans (rowV_at hlt)
                  have f0 := HMQ.out.a.free k
                  have C0 := (hbq.cell (p := ⟨bc, offc + k, none⟩) hbc).trans c0
                  have hxb := HOQ.out.rng k hlt
                  have hcb2 := HCB.out k hlt
                  have hzz := hbq.size
                  have k1 : bc < wr.heap.size := by omega
                  have hal := HMQ.out.a.lt
                  clear hcl c0
                  cases ha : p.a k with
                  | false =>
                    rw [ha] at a0
                    have HN : Hid (passF F c ⟨levF s.x c s.a dd, s.a⟩ (k + 1) = p) := by unfold Hid; rw [HPS.out, step_off ha]
                    go_wp2_with fail
                    go_roundw
                    case measure => simp [intOf]; omega
                    case rel => exact ⟨k + 1, by omega, by go_num, by rw [HN.out], hbq, hzq, by rw [HN.out]; exact HMQ.out⟩
                  | true =>
                    rw [ha] at a0
                    have q1 : IntKind.i64.wrap (p.x k + 1) = p.x k + 1 := IntWalk.i64_in _ (by omega)
                    have HCH := Lib.hid (changed_any n p.x k (p.x k + 1) (.slice (some ⟨g, 0, none⟩) n c6) wr HMQ.out.sl hlt (by omega))
                    have HOFF := Lib.hid (cnt_off ha n hlt)
                    go_wp2_with (go_at_call 33; refine HCH.out.mono ?_; rintro e w6 ⟨v6, rfl, ho6, hb6⟩)
                    have hb06 := below_step hbq hb6
                    have HSL6 := Lib.hid (IsSl.of_own encZ_len ho6 (listV_len n _))
                    have HM6 := Lib.hid (HMQ.out.below hb6)
                    have HM7 := Lib.hid (HMQ.out.put hb6 (by omega) ho6)
                    have hz6 := hb6.size
                    have X6 := (hb6.cell (p := ⟨g, k, none⟩) hgl).trans x0
                    have C6 := (hb6.cell (p := ⟨bc, offc + k, none⟩) k1).trans C0
                    have Y6 : ∀ j, w6.cell? ⟨w.heap.size, j, none⟩ = (#[.string S.name, .slice A S.F.length cA, .slice B S.P.length d] : Array Value)[j]? := fun j => (hb06.cell (p := ⟨w.heap.size, j, none⟩) hg0).trans (hx0 j)
                    have g4 : w.heap.size < w6.heap.size := by have := HS0.out; have := hb06.size; omega
                    have g5 : g < w6.heap.size := by omega
                    have g6 : bc < w6.heap.size := by omega
                    have hbr := Below.refl w6.heap.size w6
                    have hN6 := hb06.size
                    clear HCH x0 C0 hb6 ho6 a0 f0
                    by_cases hxc : p.x k < c k
                    · have d1 : decide (p.x k < c k) = true := decide_eq_true hxc
                      cases hF : F (updF p.x k (p.x k + 1)) with
                      | true =>
                        have HN : Hid (passF F c ⟨levF s.x c s.a dd, s.a⟩ (k + 1) = ⟨updF p.x k (p.x k + 1), p.a⟩) := by unfold Hid; rw [HPS.out, step_up ha hxc hF]
                        have HCV := Lib.hid (fun w' (h : Below w6.heap.size w6 w') => HCR.out w' (hb06.trans (h.mono hN6)) v6 _ (HSL6.out.below h))
                        rw [hF] at HCV
                        (refine wp_region_kept w6 (by kernel_rfl) (by kernel_rfl) (by assumption) ?_; (repeat (go_big_quiet_step ((first | (go_at_call 50; exact kept_call (HCV.out _ (after_kept _).2)))))); refine wpQuiet_nil ?_; intro _ hw'; obtain ⟨x9, hw''⟩ := hw'; subst hw''; have hk9 := after_kept x9; generalize after x9 = w9 at *)
                        obtain ⟨hc9, hb9⟩ := hk9
                        have HM9 := Lib.hid (HM7.out.below hb9)
                        have hz9 := hb9.size
                        have HB9 := Lib.hid (hb06.trans (hb9.mono hN6))
                        clear hc9
                        go_wp2_with fail
                        go_roundw
                        case measure => simp [intOf]; omega
                        case rel => exact ⟨k + 1, by omega, by go_num, by rw [HN.out], HB9.out, by omega, by rw [HN.out]; exact HM9.out⟩
                      | false =>
                        have HN : Hid (passF F c ⟨levF s.x c s.a dd, s.a⟩ (k + 1) = ⟨p.x, updF p.a k false⟩) := by unfold Hid; rw [HPS.out, step_out ha (fun h => by rw [hF] at h; exact absurd h.2 (by decide))]
                        have HCV := Lib.hid (fun w' (h : Below w6.heap.size w6 w') => HCR.out w' (hb06.trans (h.mono hN6)) v6 _ (HSL6.out.below h))
                        rw [hF] at HCV
                        (refine wp_region_kept w6 (by kernel_rfl) (by kernel_rfl) (by assumption) ?_; (repeat (go_big_quiet_step ((first | (go_at_call 50; exact kept_call (HCV.out _ (after_kept _).2)))))); refine wpQuiet_nil ?_; intro _ hw'; obtain ⟨x9, hw''⟩ := hw'; subst hw''; have hk9 := after_kept x9; generalize after x9 = w9 at *)
                        obtain ⟨hc9, hb9⟩ := hk9
                        have HM9 := Lib.hid (HM6.out.below hb9)
                        have hz9 := hb9.size
                        have a9 := (HM9.out.a.cell k).trans (rowV_at hlt)
                        have f9 := HM9.out.a.free k
                        have HB9 := Lib.hid ((hb06.trans (hb9.mono hN6)).setCell (p := ⟨w2.heap.size, k, none⟩) (Nat.le_of_lt hlt2) (.bool false))
                        have HMS := Lib.hid (HM9.out.setA hlt false)
                        have q5 : IntKind.i64.wrap ((cntF p.a n : Nat) - 1 : Int) = (cntF (updF p.a k false) n : Nat) := by
                          have := HOFF.out
                          have h2 : cntF p.a n ≤ n := cnt_top _ n
                          rw [IntWalk.i64_in _ (by omega)]; omega
                        clear hc9
                        go_wp2_with fail
                        go_roundw
                        case measure => simp [intOf]; omega
                        case rel => exact ⟨k + 1, by omega, by go_num, by rw [HN.out], HB9.out, by simp; omega, by rw [HN.out]; exact HMS.out⟩
                    · have d1 : decide (p.x k < c k) = false := decide_eq_false hxc
                      have HN : Hid (passF F c ⟨levF s.x c s.a dd, s.a⟩ (k + 1) = ⟨p.x, updF p.a k false⟩) := by unfold Hid; rw [HPS.out, step_out ha (fun h => hxc h.1)]
                      (refine wp_region_kept w6 (by kernel_rfl) (by kernel_rfl) (by assumption) ?_; (repeat (go_big_quiet_step ((first | fail)))); refine wpQuiet_nil ?_; intro _ hw'; obtain ⟨x9, hw''⟩ := hw'; subst hw''; have hk9 := after_kept x9; generalize after x9 = w9 at *)
                      obtain ⟨hc9, hb9⟩ := hk9
                      have HM9 := Lib.hid (HM6.out.below hb9)
                      have hz9 := hb9.size
                      have a9 := (HM9.out.a.cell k).trans (rowV_at hlt)
                      have f9 := HM9.out.a.free k
                      have HB9 := Lib.hid ((hb06.trans (hb9.mono hN6)).setCell (p := ⟨w2.heap.size, k, none⟩) (Nat.le_of_lt hlt2) (.bool false))
                      have HMS := Lib.hid (HM9.out.setA hlt false)
                      have q5 : IntKind.i64.wrap ((cntF p.a n : Nat) - 1 : Int) = (cntF (updF p.a k false) n : Nat) := by
                        have := HOFF.out
                        have h2 : cntF p.a n ≤ n := cnt_top _ n
                        rw [IntWalk.i64_in _ (by omega)]; omega
                      clear hc9
                      go_wp2_with fail
                      go_roundw
                      case measure => simp [intOf]; omega
                      case rel => exact ⟨k + 1, by omega, by go_num, by rw [HN.out], HB9.out, by simp; omega, by rw [HN.out]; exact HMS.out⟩
                · have hki : ¬ (k : Int) < (n : Int) := by omega
                  have hkn : k = n := by omega
                  subst hkn
                  have HR := Lib.hid (HNX.out dd HTP.out)
                  have HRK := Lib.hid (rnd_ok HO.out HOK.out HTP.out)
                  go_wp2_with fail
                  go_roundw
                  case measure =>
                    have := HR.out.2
                    simp [intOf]
                    exact this
                  case rel => exact ⟨rndF k F c s dd, rfl, hbq, hzq, HMQ.out, HRK.out, HR.out.1⟩
        · have hm0 : cntF s.a n = 0 := by omega
          have hmi : ¬ (0 : Int) < (cntF s.a n : Nat) := by omega
          have HEQ : Hid (fillX n F c = s.x) := by unfold Hid; rw [fillX_eq HZ.out, ← HRN.out.stop hm0]
          have HSLF := Lib.hid HM.out.sl
          have HFR := Lib.hid (fresh_own (w := w) HM.out.x hb0.size)
          clear hm0
          go_wp2_with fail
          go_ret
          exact ⟨_, rfl, by rw [HEQ.out]; exact HSLF.out, below_step hb0 hbw, HFR.out⟩

end Go.Proofs.YtlpjniejbblcnaaDoor

namespace Go.Proofs.YtlpjniejbblcnaaDoor
set_option linter.unusedVariables false

theorem ask_or (P : List Pnt) (x : WantR) : (askW P x = 0 ∧ greatW P x < (pntOf P x).least) ∨ (askW P x = greatW P x ∧ (pntOf P x).least ≤ greatW P x) := by
  unfold askW
  split
  · exact .inl ⟨rfl, by assumption⟩
  · exact .inr ⟨rfl, by omega⟩
/-- the powers fit, and nothing is wasted -/
structure Kept17 (S : SiteR) (C : List CapR) (W : List WantR) (x : Vec) : Prop where
  fit : siteV S C W x = true
  rng : ∀ i (h : i < W.length), 0 ≤ x i ∧ x i ≤ greatW S.P W[i]
  least : ∀ i (h : i < W.length), x i ≠ 0 → (pntOf S.P W[i]).least ≤ x i
  more : ∀ i (h : i < W.length), x i < greatW S.P W[i] → (0 < x i ∨ (pntOf S.P W[i]).least = 0) → siteV S C W (updF x i (x i + 1)) = false
theorem alloc_kept {S : SiteR} {C : List CapR} {W : List WantR} (h : AllocOk S C W) {x : Vec} (hx : AllocTo S C W x) : Kept17 S C W x := by
  have hF := siteV_mono S C W
  have hz := siteV_zero h
  obtain ⟨d, rfl, hn, hc, hd, hm⟩ := runs_keep hF hz hx (ask_capped h)
  have hf := fillX_is hF hc hz
  refine ⟨hf.fit, fun i hi => ((siteV_iff h _).1 hf.fit).1 i hi, fun i hi h0 => ?_, fun i hi h1 h2 => ?_⟩
  · have h3 := hn i hi
    have h4 := hf.rng i hi
    have h5 : d i ≠ 0 := by omega
    rw [minV_eq hi] at h3
    have : ¬ fillX W.length (siteV S C W) d i < (pntOf S.P W[i]).least := fun g => h3 ⟨h5, g⟩
    omega
  · have hg : d i = greatW S.P W[i] := by
      have ha := ask_or S.P W[i]
      rcases h2 with h2 | h2
      · have := hf.rng i hi
        rcases hd i with g | g
        · rw [g, ask_eq hi] at this ⊢
          rcases ha with ⟨a, b⟩ | ⟨a, b⟩
          · omega
          · exact a
        · omega
      · rw [hm i hi (by rw [minV_eq hi]; exact h2), ask_eq hi]
        have := great_bd h hi
        rcases ha with ⟨a, b⟩ | ⟨a, b⟩
        · omega
        · exact a
    rcases hf.out i hi with g | g
    · omega
    · exact g

theorem ctr_add (F : List Feed) (P : List Pnt) (f : Nat) (x : WantR) (p q : Int) : ctr F P f (x, p + q) = plusC (ctr F P f (x, p)) (ctr F P f (x, q)) := by
  unfold ctr
  simp only
  split
  · apply CapR.ext' <;> simp only [addC, zeroC, plusC] <;> rw [Int.add_mul] <;> omega
  · rfl
theorem capAt_set (F : List Feed) (P : List Pnt) (f : Nat) (q : Int) : ∀ (W : List WantR) (Z : List Int) (i : Nat) (h1 : i < W.length) (h2 : i < Z.length), capAt F P f (W.zip (Z.set i (Z[i] + q))) = plusC (capAt F P f (W.zip Z)) (ctr F P f (W[i], q))
  | [], Z, i, h, _ => by simp at h
  | x :: W, [], i, _, h => by simp at h
  | x :: W, z :: Z, 0, _, _ => by
    simp only [List.set_cons_zero, List.zip_cons_cons, List.getElem_cons_zero]
    rw [capAt_cons, capAt_cons, ctr_add, plusC_assoc, plusC_assoc, plusC_comm (ctr F P f (x, q))]
  | x :: W, z :: Z, i + 1, h1, h2 => by
    simp only [List.set_cons_succ, List.zip_cons_cons, List.getElem_cons_succ]
    rw [capAt_cons, capAt_cons, capAt_set F P f q W Z i (by simpa using h1) (by simpa using h2), plusC_assoc]
theorem capAt_up1 (F : List Feed) (P : List Pnt) (f : Nat) {W : List WantR} {v : Vec} {i : Nat} (h : i < W.length) : capAt F P f (W.zip (listV W.length (updF v i (v i + 1)))) = plusC (capAt F P f (W.zip (listV W.length v))) (ctr F P f (W[i], 1)) := by
  rw [listV_upd h]
  have := capAt_set F P f 1 W (listV W.length v) i h (by rw [listV_len]; exact h)
  rw [listV_get] at this
  exact this
theorem ctr_same {F : List Feed} {P : List Pnt} {f : Nat} {x y : WantR} (hx : x.point.toNat < P.length) (hy : y.point.toNat < P.length) (h1 : P[x.point.toNat].feeder = P[y.point.toNat].feeder) (h2 : x.phases = y.phases) (p : Int) : ctr F P f (x, p) = ctr F P f (y, p) := by
  have : wantPath F P x = wantPath F P y := by
    unfold wantPath
    rw [List.getElem?_eq_getElem hx, List.getElem?_eq_getElem hy]
    simp only [h1]
  unfold ctr
  simp only [this, h2]
/-- two wants that are equal -/
structure Twin (P : List Pnt) (x y : WantR) : Prop where
  feeder : (pntOf P x).feeder = (pntOf P y).feeder
  l1 : (pntOf P x).least = 0
  l2 : (pntOf P y).least = 0
  phases : x.phases = y.phases
  great : greatW P x = greatW P y
theorem twin_alike {S : SiteR} {C : List CapR} {W : List WantR} (h : AllocOk S C W) {i k : Nat} (hi : i < W.length) (hk : k < W.length) (ht : Twin S.P W[i] W[k]) {d : Vec} (hdi : d i ≤ greatW S.P W[i]) (hdk : d k ≤ greatW S.P W[k]) : Alike W.length (siteV S C W) d i k := by
  have hwi := (h.want hi).1
  have hwk := (h.want hk).1
  have hf := ht.feeder
  rw [pntOf_eq hwi.p1, pntOf_eq hwk.p1] at hf
  have key : ∀ (i k : Nat) (hi : i < W.length) (hk : k < W.length), d i ≤ greatW S.P W[i] → d k ≤ greatW S.P W[k] → (∀ f, ctr S.F S.P f (W[i], 1) = ctr S.F S.P f (W[k], 1)) → ∀ v : Vec, (∀ j, j < W.length → 0 ≤ v j) → v i + 1 ≤ d i → v k + 1 ≤ d k → siteV S C W (updF v i (v i + 1)) = true → siteV S C W (updF v k (v k + 1)) = true := by
    intro i k hi hk hdi hdk hc v h0 h1 h2 h3
    rw [siteV_iff h] at h3 ⊢
    refine ⟨fun j hj => ?_, ?_⟩
    · have := h3.1 j hj
      have h0j := h0 j hj
      by_cases q : j = k
      · subst q; rw [upd_same]; omega
      · rw [upd_other q]
        by_cases q2 : j = i
        · subst q2; omega
        · rw [upd_other q2] at this; exact this
    · have h4 := (over_nil (W := W) h.len _).1 h3.2
      refine (over_nil (W := W) h.len _).2 fun f hf => ?_
      rw [capAt_up1 S.F S.P f hk, ← hc f, ← capAt_up1 S.F S.P f hi]
      exact h4 f hf
  intro v h0 h1 h2
  rw [Bool.eq_iff_iff]
  have hc : ∀ f, ctr S.F S.P f (W[i], 1) = ctr S.F S.P f (W[k], 1) := fun f => ctr_same hwi.p1 hwk.p1 hf ht.phases 1
  exact ⟨key i k hi hk hdi hdk hc v h0 h1 h2, key k i hk hi hdk hdi (fun f => (hc f).symm) v h0 h2 h1⟩
/-- equal wants get equal powers, up to one -/
theorem alloc_twin {S : SiteR} {C : List CapR} {W : List WantR} (h : AllocOk S C W) {x : Vec} (hx : AllocTo S C W x) {i k : Nat} (hki : k < i) (hi : i < W.length) (ht : Twin S.P W[i] (W[k]'(by omega))) : x i - x k ≤ 1 ∧ x k - x i ≤ 1 := by
  have hF := siteV_mono S C W
  have hz := siteV_zero h
  have hk : k < W.length := by omega
  obtain ⟨d, rfl, hn, hc, hd, hm⟩ := runs_keep hF hz hx (ask_capped h)
  have ei := hm i hi (by rw [minV_eq hi]; exact ht.l1)
  have ek := hm k hk (by rw [minV_eq hk]; exact ht.l2)
  have gi := ask_bd h hi
  have gk := ask_bd h hk
  have e : d k = d i := by
    rw [ei, ek, ask_eq hi, ask_eq hk]
    unfold askW
    rw [ht.l1, ht.l2, ht.great]
  have hal : Alike W.length (siteV S C W) d k i := twin_alike h hk hi ⟨ht.feeder.symm, ht.l2, ht.l1, ht.phases.symm, ht.great.symm⟩ (by omega) (by omega)
  have := fill_even hF hc hki hi e hal
  omega
/-- one want gets as much as fits -/
theorem alloc_one {S : SiteR} {C : List CapR} {y : WantR} (h : AllocOk S C [y]) {x : Vec} (hx : AllocTo S C [y] x) {more : Int} (hm : 1 ≤ more) (hf : fitsB S C [y] [x 0 + more] = true) : x 0 = 0 ∧ more < (pntOf S.P y).least := by
  have hF := siteV_mono S C [y]
  have hz := siteV_zero h
  have hc := ask_capped h
  have hv : siteV S C [y] (fun _ => x 0 + more) = true := hf
  have hg := ((siteV_iff h _).1 hv).1 0 (by simp)
  simp only [List.getElem_cons_zero] at hg
  have ha := ask_or S.P y
  have e0 : vecL (askL S.P [y]) 0 = askW S.P y := ask_eq (W := [y]) (i := 0) (by simp)
  have m0 : minV S.P [y] 0 = (pntOf S.P y).least := minV_eq (W := [y]) (i := 0) (by simp)
  rcases runs_one hF hz hc hx with ⟨e, hn⟩ | ⟨hx0, hc0, z, hzF, hlow⟩
  · have hfl := fillX_is hF hc hz
    have e' : x = fillX [y].length (siteV S C [y]) (vecL (askL S.P [y])) := e
    rw [← e'] at hfl
    have hr := hfl.rng 0 (by simp)
    rcases hfl.out 0 (by simp) with g | g
    · rw [g, e0] at hg ⊢
      rcases ha with ⟨a, b⟩ | ⟨a, b⟩
      · omega
      · omega
    · have := hF.mono (updF x 0 (x 0 + 1)) (fun _ => x 0 + more) (fun j hj => by
        have hj0 : j = 0 := by simpa using hj
        subst hj0
        rw [upd_same]; omega) hv
      rw [this] at g; cases g
  · refine ⟨hx0, ?_⟩
    rw [m0] at hlow
    have hr := hzF.rng 0 (by simp)
    apply Classical.byContradiction
    intro hge
    have := hF.mono (updF z 0 (z 0 + 1)) (fun _ => x 0 + more) (fun j hj => by
      have hj0 : j = 0 := by simpa using hj
      subst hj0
      rw [upd_same]; omega) hv
    rcases hzF.out 0 (by simp) with g | g
    · rw [g, e0] at hlow
      rw [e0] at hc0
      rcases ha with ⟨a, b⟩ | ⟨a, b⟩
      · omega
      · omega
    · rw [this] at g; cases g

end Go.Proofs.YtlpjniejbblcnaaDoor
