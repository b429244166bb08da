/-
  Walks: the law ContractSteps.
-/
import Derived.Test.YtpknjblgbpndlaaDoorWConB
namespace Go.Proofs.YtpknjblgbpndlaaDoor
open Go.RowKit Go.Lib Go.Maps
attribute [local go_sem] after_cell
set_option linter.unusedVariables false

/-- At, with what it returns -/
theorem conAtD {l : List ConR} {z : ZoneR} {f t r : Int} (h : cAt l z f t = r) (v : Value) (w : World) (hv : LenV w) (hL : IsSl w 8 v (l.map ConR.cells)) :
    Calls Tryd.prog 19 #[v, .agg #[.int .i64 z.off, .bool z.sum], .int .i64 f, .int .i64 t] w fun e w' => e = .returned (.int .i64 r) ∧ Below w.heap.size w w' := by
  have := conAt_any l v z f t w hv hL
  rw [h] at this
  exact this

set_option maxRecDepth 100000 in
set_option maxHeartbeats 12800000 in
theorem lawConSteps (v : Value) (l : List ConR) (z : ZoneR) (f a b p : Int) (w : World) (hv : LenV w) (hL : IsSl w 8 v (l.map ConR.cells)) (hfit : ∀ c ∈ l, c.fits) (ha : I64 a) (hb : I64 b) (hp : (Lit.int .u32 p).wf = true) :
    Calls Tryd.prog 8 #[.agg #[v, .int .i64 z.off, .bool z.sum, .int .i64 f, .int .i64 a, .int .i64 b], .int .u32 p] w fun e w' => e = .returned (.bool true) ∧ Below w.heap.size w w' := by
  have hL0 := hL
  obtain ⟨A, c, rfl, hlc, hcm, hsl⟩ := hL
  rw [List.length_map] at hlc
  unfold maxLen at hcm
  simp only [List.length_map] at hL0 ⊢
  obtain ⟨W0, hW0, hb0, hg0, hx0⟩ := box1 w #[.slice A l.length c, .int .i64 z.off, .bool z.sum, .int .i64 f, .int .i64 a, .int .i64 b] 58
  have HV := Lib.hid (hv.below hb0)
  have HIS := Lib.hid (hL0.below hb0)
  have HF := Lib.hid hfit
  have hp2 : 0 ≤ p ∧ p ≤ 4294967295 := by
    have h2 : (decide (IntKind.u32.min ≤ p) && decide (p ≤ IntKind.u32.max)) = true := hp
    simp only [Bool.and_eq_true, decide_eq_true_eq] at h2
    exact ⟨h2.1, h2.2⟩
  clear hv hL0 hsl hfit hp
  by_cases hout : (6 : Int) < (l.length : Int) ∨ a < 0 ∨ 268435456 < b ∨ b ≤ a ∨ 20160 < b - a
  · have hcase : (6 : Int) < (l.length : Int) ∨ (¬ (6 : Int) < (l.length : Int) ∧ a < 0) ∨ (¬ (6 : Int) < (l.length : Int) ∧ ¬ a < 0 ∧ 268435456 < b) ∨ (¬ (6 : Int) < (l.length : Int) ∧ ¬ a < 0 ∧ ¬ 268435456 < b ∧ b ≤ a) ∨ (¬ (6 : Int) < (l.length : Int) ∧ ¬ a < 0 ∧ ¬ 268435456 < b ∧ ¬ b ≤ a ∧ 20160 < b - a) := by omega
    clear hout
    rcases hcase with h1 | ⟨h1, h2⟩ | ⟨h1, h2, h3⟩ | ⟨h1, h2, h3, h4⟩ | ⟨h1, h2, h3, h4, h5⟩
    · go_enter Tryd.func8, Tryd.ntmps8
      go_wp2_with fail
      rw [← hW0]
      refine (awake12_any _ HV.out).mono ?_
      rintro e w2 ⟨rfl, hb2⟩
      go_wp2_with fail
      go_ret
      exact ⟨rfl, below_step hb0 hb2⟩
    · go_enter Tryd.func8, Tryd.ntmps8
      go_wp2_with fail
      rw [← hW0]
      refine (awake12_any _ HV.out).mono ?_
      rintro e w2 ⟨rfl, hb2⟩
      go_wp2_with fail
      go_ret
      exact ⟨rfl, below_step hb0 hb2⟩
    · go_enter Tryd.func8, Tryd.ntmps8
      go_wp2_with fail
      rw [← hW0]
      refine (awake12_any _ HV.out).mono ?_
      rintro e w2 ⟨rfl, hb2⟩
      go_wp2_with fail
      go_ret
      exact ⟨rfl, below_step hb0 hb2⟩
    · go_enter Tryd.func8, Tryd.ntmps8
      go_wp2_with fail
      rw [← hW0]
      refine (awake12_any _ HV.out).mono ?_
      rintro e w2 ⟨rfl, hb2⟩
      go_wp2_with fail
      go_ret
      exact ⟨rfl, below_step hb0 hb2⟩
    · have hwd : IntKind.i64.wrap (b - a) = b - a := IntWalk.i64_in _ (by omega)
      go_enter Tryd.func8, Tryd.ntmps8
      go_wp2_with fail
      rw [← hW0]
      refine (awake12_any _ HV.out).mono ?_
      rintro e w2 ⟨rfl, hb2⟩
      go_wp2_with fail
      go_ret
      exact ⟨rfl, below_step hb0 hb2⟩
  have h1 : ¬ (6 : Int) < (l.length : Int) := by omega
  have h2 : ¬ a < 0 := by omega
  have h3 : ¬ 268435456 < b := by omega
  have h4 : ¬ b ≤ a := by omega
  have h5 : ¬ 20160 < b - a := by omega
  have hwd : IntKind.i64.wrap (b - a) = b - a := IntWalk.i64_in _ (by omega)
  clear hout ha hb
  have hrs : (∃ L, CserIs l z f a b 0 L ∧ SerIs (cAt l z f) a b L) ∨ CserIs l z f a b 3 [] := by
    cases hr : restR (cAt l z f) b a [] with
    | none => exact .inr (cser_none (by omega) (by omega) hr)
    | some L => exact .inl ⟨L, cser_some (by omega) (by omega) hr, restR_is (by omega) (by omega) (by omega) (b - a).toNat a [] L (Nat.le_refl _) (fun _ => Int.le_refl _) (.inl ⟨rfl, rfl⟩) hr⟩
  go_enter Tryd.func8, Tryd.ntmps8
  go_wp2_with fail
  rw [← hW0]
  clear hW0
  refine (conSeries_any l _ z f a b _ HV.out HIS.out HF.out (by omega)).mono ?_
  rintro e w1 ⟨v5, rfl, hv5, hb1⟩
  obtain ⟨hc, hf⟩ := bcell hb1
  rcases hrs with ⟨L, hC, hS⟩ | hC
  · rw [hC.e]
    rw [hC.l] at hv5
    have HL5 := Lib.hid hv5
    obtain ⟨B, d, rfl, hld, hdm, hs5⟩ := hv5
    rw [List.length_map] at hld
    unfold maxLen at hdm
    simp only [List.length_map] at HL5 ⊢
    have hpos := hS.pos (by omega)
    have hfst := hS.to.first hpos
    have HS := Lib.hid hS.to
    clear hC hS
    obtain ⟨g, off, rfl, hbg, e0, e1⟩ := pair_at hs5 (List.getElem?_eq_getElem hpos)
    rw [hfst] at e0
    have hlp : ((L.length : Int) == 0) = false := by
      have : ¬ (L.length : Int) = 0 := by omega
      simpa using this
    have hlp2 : (0 : Int) < (L.length : Int) := by omega
    have hlp3 : decide (0 < L.length) = true := decide_eq_true hpos
    have haa : (a != a) = false := by simp
    have y1 : ∀ j, w1.cell? ⟨w.heap.size, j, none⟩ = (#[.slice A l.length c, .int .i64 z.off, .bool z.sum, .int .i64 f, .int .i64 a, .int .i64 b] : Array Value)[j]? := fun j => (hc _ _ hg0).trans (hx0 j)
    have y2 : w.heap.size < w1.heap.size := Nat.lt_of_lt_of_le hg0 hb1.size
    have hbr := Below.refl w1.heap.size w1
    clear hc hf hfst
    simp only [Nat.zero_mul, Nat.add_zero] at e0 e1
    go_wp2_with fail
    (refine wp_region_kept w1 (by kernel_rfl) (by kernel_rfl) (by assumption) ?_; (repeat (go_big_quiet_step ((first | fail)))); refine wpQuiet_nil ?_; intro _ hw'; obtain ⟨x9, hw''⟩ := hw'; subst hw''; have hk9 := after_kept x9; generalize after x9 = w9 at *)
    obtain ⟨hc9, hb9⟩ := hk9
    clear e0 e1
    go_wp2_with fail
    go_loopw [7] (fun i wx => ∃ k : Nat, 1 ≤ k ∧ k ≤ L.length ∧ i = .int .i64 k ∧ Below w1.heap.size w1 wx) (fun i _ => L.length - (intOf i).toNat)
    case atStart => exact ⟨1, Nat.le_refl _, hpos, rfl, hb9⟩
    case round =>
      clear hc9 hb9
      obtain ⟨k, hk1, hk, rfl, hbx⟩ := hrel
      have hbw := below_step hb1 hbx
      have z1 : ∀ j, wr.cell? ⟨w.heap.size, j, none⟩ = (#[.slice A l.length c, .int .i64 z.off, .bool z.sum, .int .i64 f, .int .i64 a, .int .i64 b] : Array Value)[j]? := fun j => ((bcell hbx).1 _ _ y2).trans (y1 j)
      have z2 : w.heap.size < wr.heap.size := Nat.lt_of_lt_of_le y2 hbx.size
      have hbr := Below.refl wr.heap.size wr
      by_cases hlt : k < L.length
      · obtain ⟨m, rfl⟩ : ∃ m, k = m + 1 := ⟨k - 1, by omega⟩
        have hst := HS.out.step m hlt
        have hrx := HS.out.rng _ (List.getElem_mem hlt)
        obtain ⟨g1, o1, eg, hbx1, c0, c1⟩ := pair_at (hs5.below hbx) (List.getElem?_eq_getElem hlt)
        injection eg with eg
        injection eg with eg1 eg2 _
        subst eg1
        subst eg2
        obtain ⟨g2, o2, eg, hbx2, d0, d1⟩ := pair_at (hs5.below hbx) (List.getElem?_eq_getElem (show m < L.length by omega))
        injection eg with eg
        injection eg with eg1 eg2 _
        subst eg1
        subst eg2
        generalize L[m + 1] = x at *
        generalize L[m] = y at *
        obtain ⟨s1, s2, s3⟩ := hst
        obtain ⟨r1, r2⟩ := hrx
        have HC := Lib.hid (fun w' hv hs => conAtD (l := l) (z := z) (f := f) s3 (.slice A l.length c) w' hv hs)
        generalize hkm : m + 1 = k at *
        have hki : (k : Int) < (L.length : Int) := by omega
        have hw : IntKind.i64.wrap ((k : Int) - 1) = (m : Int) := by rw [show (k : Int) - 1 = (m : Int) by omega]; exact IntWalk.i64_in _ (by omega)
        have hw2 : (0 : Int) ≤ (m : Int) := by omega
        have hw3 : (m : Int) < (L.length : Int) := by omega
        have hw4 : m < L.length := by omega
        have hwx : IntKind.i64.wrap (x.1 - 1) = x.1 - 1 := IntWalk.i64_in _ (by omega)
        have g1 : decide (x.1 ≤ y.1) = false := by simp; omega
        have g2 : decide (b ≤ x.1) = false := by simp; omega
        have g3 : (x.2 == y.2) = false := by simpa using s2
        have g4 : decide (x.2 = y.2) = false := by simpa using s2
        have g5 : (y.2 != y.2) = false := by simp
        clear hkm s1 s2 s3 r1 r2
        go_wp2_with fail
        (refine wp_region_kept wr (by kernel_rfl) (by kernel_rfl) (by assumption) ?_; (repeat (go_big_quiet_step ((first | (go_at_call 19; exact kept_call (HC.out _ (HV.out.below (below_step hbw (after_kept _).2)) (HIS.out.below (below_step hbw (after_kept _).2)))))))); refine wpQuiet_nil ?_; intro _ hw'; obtain ⟨x9, hw''⟩ := hw'; subst hw''; have hk9 := after_kept x9; generalize after x9 = w9 at *)
        obtain ⟨hc9, hb9⟩ := hk9
        go_wp2_with fail
        go_roundw
        case measure => simp [intOf]; omega
        case rel => exact ⟨k + 1, by omega, by omega, by go_num, below_step hbx hb9⟩
      · have hki : ¬ (k : Int) < (L.length : Int) := by omega
        have q5 := Int.emod_nonneg p (show b - a ≠ 0 by omega)
        have q6 := Int.emod_lt_of_pos p (show 0 < b - a by omega)
        have q7 : IntKind.i64.wrap (a + p % (b - a)) = a + p % (b - a) := IntWalk.i64_in _ (by omega)
        have q4 : IntKind.i64.wrap p = p := IntWalk.i64_in _ (by omega)
        have HT := Lib.hid (HS.out.tells 0 (a + p % (b - a)) (by omega) (by omega))
        go_wp2_with fail
        (refine wp_region_kept wr (by kernel_rfl) (by kernel_rfl) (by assumption) ?_; (repeat (go_big_quiet_step ((first | fail)))); refine wpQuiet_nil ?_; intro _ hw'; obtain ⟨x9, hw''⟩ := hw'; subst hw''; have hk9 := after_kept x9; generalize after x9 = w9 at *)
        obtain ⟨hc9, hb9⟩ := hk9
        generalize a + p % (b - a) = t at *
        have hb19 := below_step hbx hb9
        have hbw9 := below_step hb1 hb19
        clear q5 q6 q7 hbx hbw hbr
        go_wp2_with fail
        refine (conAt_any l _ z f t _ (HV.out.below hbw9) (HIS.out.below hbw9)).mono ?_
        rintro e w5 ⟨rfl, hb5⟩
        go_wp2_with fail
        refine (refValue_any12 L _ t _ (HL5.out.below (below_step hb19 hb5))).mono ?_
        rintro e w6 ⟨rfl, hb6⟩
        rw [HT.out]
        go_wp2_with fail
        refine (awake12_any _ (HV.out.below (below_step hbw9 (below_step hb5 hb6)))).mono ?_
        rintro e w7 ⟨rfl, hb7⟩
        go_wp2_with fail
        go_ret
        exact ⟨rfl, below_step hb0 (below_step hbw9 (below_step hb5 (below_step hb6 hb7)))⟩
  · rw [hC.e]
    rw [hC.l] at hv5
    obtain ⟨B, d, rfl, hld, hdm, hs5⟩ := hv5
    simp only [List.length_map, List.length_nil]
    clear hC
    go_wp2_with fail
    refine (awake12_any _ (HV.out.below hb1)).mono ?_
    rintro e w2 ⟨rfl, hb2⟩
    go_wp2_with fail
    go_ret
    exact ⟨rfl, below_step hb0 (below_step hb1 hb2)⟩

end Go.Proofs.YtpknjblgbpndlaaDoor
