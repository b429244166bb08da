/-
  Walks: the law WindowCovers.
-/
import Derived.Test.YtneoaakichcegaaDoorWLaw5e
import Derived.Test.YtneoaakichcegaaDoorWRefS
namespace Go.Proofs.YtneoaakichcegaaDoor
open Go.RowKit Go.Lib Go.Maps
set_option linter.unusedVariables false

theorem spans_cov (W : WinR) (z : ZoneR) {a b : Int} (a0 : 0 ≤ a) (ab : a ≤ b) (b1 : b ≤ 268435456) :
    (¬ spansE W z a b = 0 ∧ spansL W z a b = []) ∨ (spansE W z a b = 0 ∧ CovTo (holdsB W z) a b (spansL W z a b)) := by
  by_cases he : spansE W z a b = 0
  · refine .inr ⟨he, ?_⟩
    unfold spansL
    rw [if_pos he]
    have hr : (restS (holdsB W z) b a []).isSome = true := by
      unfold spansE at he
      split at he
      · split at he
        · split at he
          · assumption
          · omega
        · omega
      · omega
    cases hl : restS (holdsB W z) b a [] with
    | none => rw [hl] at hr; cases hr
    | some L => exact restS_cov b1 a0 (b - a).toNat a [] L (Nat.le_refl _) (Int.le_refl _) ab (CovTo.start _ _) (fun _ _ p hp => by simp at hp) hl
  · exact .inl ⟨he, if_neg he⟩

set_option maxRecDepth 100000 in
set_option maxHeartbeats 6400000 in
theorem lawWinCovers (W : WinR) (z : ZoneR) (s : Int × Int) (w : World) (hv : LenV w) :
    Calls Tryd.prog 9 #[.agg #[.int .i64 W.dy, .int .i64 W.st, .int .i64 W.en, .int .i64 W.fr, .int .i64 W.to], .agg #[.int .i64 z.off, .bool z.sum], .agg #[.int .i64 s.1, .int .i64 s.2]] w fun e w' => e = .returned (.bool true) ∧ Below w.heap.size w w' := by
  obtain ⟨a, b⟩ := s
  simp only
  obtain ⟨W0, hW0, hb0, hg2, hg1, hg0, hx0, hy0, hs0⟩ := box3p w #[.int .i64 W.dy, .int .i64 W.st, .int .i64 W.en, .int .i64 W.fr, .int .i64 W.to] 24 #[.int .i64 z.off, .bool z.sum] 26 #[.int .i64 a, .int .i64 b] 28
  have HV := Lib.hid (hv.below hb0)
  clear hv
  have hcase : (spanB a b = false ∨ (spanB a b = true ∧ 0 ≤ a ∧ a ≤ b ∧ b ≤ 268435456 ∧ 4000 < b - a)) ∨ (spanB a b = true ∧ 0 ≤ a ∧ a ≤ b ∧ b ≤ 268435456 ∧ ¬ 4000 < b - a) := by
    cases hs : spanB a b with
    | false => exact .inl (.inl rfl)
    | true =>
      have := spanB_iff.1 hs
      by_cases h : 4000 < b - a
      · exact .inl (.inr ⟨rfl, this.1, this.2.1, this.2.2, h⟩)
      · exact .inr ⟨rfl, this.1, this.2.1, this.2.2, h⟩
  rcases hcase with hout | ⟨hs, a0, ab, b1, hd⟩
  · rcases hout with hs | ⟨hs, a0, ab, b1, hd⟩
    all_goals
      have H3 := Lib.hid hs
      clear hs
      go_enter Tryd.func9, Tryd.ntmps9
      go_wp2_with fail
      rw [← hW0]
      clear hW0
      refine (refSpan_any a b _).mono ?_
      rintro e w1 ⟨rfl, hb1⟩
      rw [H3.out]
      obtain ⟨hc, hf⟩ := bcell hb1
      go_wp2_with fail
      refine (ex5_any _ (HV.out.below hb1)).mono ?_
      rintro e w2 ⟨rfl, hb2⟩
      go_wp2_with fail
      go_ret
      exact ⟨rfl, below_step hb0 (below_step hb1 hb2)⟩
  have H3 := Lib.hid hs
  clear hs
  have hcov := spans_cov W z a0 ab b1
  go_enter Tryd.func9, Tryd.ntmps9
  go_wp2_with fail
  rw [← hW0]
  clear hW0
  refine (refSpan_any a b _).mono ?_
  rintro e w1 ⟨rfl, hb1⟩
  rw [H3.out]
  obtain ⟨hc, hf⟩ := bcell hb1
  go_wp2_with fail
  refine (spans_any W z a b _ (HV.out.below hb1)).mono ?_
  rintro e w2 ⟨v2, rfl, hv2, hb2⟩
  have hbw2 := below_step hb1 hb2
  clear hc hf hb1 hb2
  obtain ⟨hc, hf⟩ := bcell hbw2
  generalize spansE W z a b = ee at *
  generalize spansL W z a b = l at *
  obtain ⟨A, c, rfl, hlc, hcm, hsl⟩ := hv2
  rw [List.length_map] at hlc
  unfold maxLen at hcm
  have hlm : l.length ≤ 9223372036854775807 := by omega
  simp only [List.length_map]
  rcases hcov with ⟨hee, rfl⟩ | ⟨rfl, hcov⟩
  · have e5 : (ee != 0) = true := by simpa using hee
    go_wp2_with fail
    refine (ex5_any _ (HV.out.below hbw2)).mono ?_
    rintro e w3 ⟨rfl, hb3⟩
    go_wp2_with fail
    go_ret
    exact ⟨rfl, below_step hb0 (below_step hbw2 hb3)⟩
  have HCV := Lib.hid hcov
  clear hcov
  go_wp2_with fail
  go_loopw [9, 10] (fun k i wr => ∃ (n : Nat) (t : Int), n ≤ l.length ∧ k = .int .i64 n ∧ i = .int .i64 t ∧ a ≤ t ∧ t ≤ b ∧ Hid (OverTo l n t) ∧ Below w2.heap.size w2 wr) (fun _ i _ => (b - intOf i).toNat)
  case atStart => exact ⟨0, a, by omega, rfl, rfl, by omega, by omega, OverTo.zero _ _, Below.refl _ _⟩
  case round =>
    obtain ⟨n, t, hn, rfl, rfl, t0, t1, HO, hbr⟩ := hrel
    have hbw := below_step hbw2 hbr
    clear hc hf
    obtain ⟨hc, hf⟩ := bcell hbw
    by_cases htb : t < b
    · go_wp2_with fail
      go_loopw [9] (fun k wr' => ∃ (m : Nat), m ≤ l.length ∧ k = .int .i64 m ∧ Hid (OverTo l m t) ∧ wr' = wr) (fun k _ => l.length - (intOf k).toNat)
      case atStart => exact ⟨n, hn, rfl, HO, rfl⟩
      case round =>
        obtain ⟨m, hm, rfl, HM, rfl⟩ := hrel
        by_cases hlt : m < l.length
        · have hmi : (m : Int) < (l.length : Int) := by omega
          obtain ⟨g, off, rfl, hb, c0, c1⟩ := span_at (hsl.below hbr) (List.getElem?_eq_getElem hlt)
          by_cases hle : l[m].2 ≤ t
          · have HM2 := Lib.hid (HM.out.step hlt hle)
            generalize l[m] = x at *
            go_wp2_with fail
            go_roundw
            case measure => simp [intOf]; omega
            case rel => exact ⟨m + 1, by omega, by go_num, HM2, trivial⟩
          · have HI := Lib.hid (cov_in HCV.out HM.out hlt t0 htb (by omega))
            have hx := HI.out
            generalize l[m] = x at *
            by_cases hfr : x.1 ≤ t
            · have HC := Lib.hid (holdsC (W := W) (z := z) (t := t) (b := true) (by rw [hx]; simp [hfr]))
              clear hx
              go_wp2_with fail
              refine (HC.out _ (HV.out.below hbw)).mono ?_
              rintro _ w3 ⟨rfl, hb3⟩
              have hbw3 := below_step hbr hb3
              have d0 := ((bcell hb3).1 _ _ hb).trans c0
              clear hc hf c0 c1
              obtain ⟨hc, hf⟩ := bcell (below_step hbw2 hbw3)
              go_wp2_with fail
              go_roundw
              case measure => simp [intOf]; omega
              case rel => exact ⟨m, t + 1, by omega, rfl, rfl, by omega, by omega, HM.out.mono (by omega), hbw3⟩
            · have HC := Lib.hid (holdsC (W := W) (z := z) (t := t) (b := false) (by rw [hx]; simp [hfr]))
              clear hx
              go_wp2_with fail
              refine (HC.out _ (HV.out.below hbw)).mono ?_
              rintro _ w3 ⟨rfl, hb3⟩
              have hbw3 := below_step hbr hb3
              have d0 := ((bcell hb3).1 _ _ hb).trans c0
              clear hc hf c0 c1
              obtain ⟨hc, hf⟩ := bcell (below_step hbw2 hbw3)
              go_wp2_with fail
              go_roundw
              case measure => simp [intOf]; omega
              case rel => exact ⟨m, t + 1, by omega, rfl, rfl, by omega, by omega, HM.out.mono (by omega), hbw3⟩
        · have hmi : ¬ (m : Int) < (l.length : Int) := by omega
          have hml : m = l.length := by omega
          have HC := Lib.hid (holdsC (W := W) (z := z) (t := t) (b := false) (cov_end HCV.out (hml ▸ HM.out) t0 htb))
          clear hml
          go_wp2_with fail
          refine (HC.out _ (HV.out.below hbw)).mono ?_
          rintro _ w3 ⟨rfl, hb3⟩
          have hbw3 := below_step hbr hb3
          clear hc hf
          obtain ⟨hc, hf⟩ := bcell (below_step hbw2 hbw3)
          go_wp2_with fail
          go_roundw
          case measure => simp [intOf]; omega
          case rel => exact ⟨m, t + 1, by omega, rfl, rfl, by omega, by omega, HM.out.mono (by omega), hbw3⟩
    · go_wp2_with fail
      go_loopw [82] (fun i wr' => ∃ n : Nat, n ≤ l.length ∧ i = .int .i64 n ∧ Below w2.heap.size w2 wr') (fun i _ => l.length - (intOf i).toNat)
      case atStart => exact ⟨0, by omega, rfl, hbr⟩
      case round =>
        clear hbw hbr hc hf HO
        rename_i wr'
        obtain ⟨k, hk, rfl, hbr⟩ := hrel
        have hbw := below_step hbw2 hbr
        obtain ⟨hc, hf⟩ := bcell hbw
        by_cases hlt : k < l.length
        · have hki : (k : Int) < (l.length : Int) := by omega
          obtain ⟨q1, q2, q3⟩ := cov_ok HCV.out hlt
          obtain ⟨g, off, rfl, hb, c0, c1⟩ := span_at (hsl.below hbr) (List.getElem?_eq_getElem hlt)
          have r1 : ¬ l[k].2 ≤ l[k].1 := by omega
          have r2 : ¬ l[k].1 < a := by omega
          have r3 : ¬ b < l[k].2 := by omega
          clear q1 q2 q3
          rcases Nat.eq_zero_or_pos k with hk0 | hk0
          · have hk1 : ¬ (0 : Int) < (k : Int) := by omega
            clear hk0
            generalize l[k] = x at *
            go_wp2_with fail
            have g1 : decide (x.2 ≤ x.1) = false := by simp; omega
            have g2 : decide (x.1 < a) = false := by simp; omega
            have g3 : decide (b < x.2) = false := by simp; omega
            have g4 : decide ((0 : Int) < (k : Int)) = false := by simp; omega
            have g6 : decide (0 < k) = false := by simp; omega
            go_quiet (fail)
            go_wp2_with fail
            go_roundw
            case measure => simp [intOf]; omega
            case rel => exact ⟨k + 1, by omega, by go_num, below_drewN hbr _⟩
          · obtain ⟨m, rfl⟩ : ∃ m, k = m + 1 := ⟨k - 1, by omega⟩
            have hq := cov_gap HCV.out hlt
            obtain ⟨g2, off2, eg, hb2, d0, d1⟩ := span_at (hsl.below hbr) (List.getElem?_eq_getElem (show m < l.length by omega))
            injection eg with eg
            injection eg with eg1 eg2 _
            subst eg1
            subst eg2
            have r4 : ¬ l[m + 1].1 ≤ l[m].2 := by omega
            clear hq
            generalize l[m + 1] = x at *
            generalize l[m] = y at *
            generalize hkm : m + 1 = k at *
            have hk1 : (0 : Int) < (k : Int) := by omega
            have hw : IntKind.i64.wrap ((k : Int) - 1) = (m : Int) := by rw [show (k : Int) - 1 = (m : Int) by omega]; exact IntWalk.i64_in _ (by omega)
            have hw2 : (0 : Int) ≤ (m : Int) := by omega
            have hw3 : (m : Int) < (l.length : Int) := by omega
            clear hkm
            go_wp2_with fail
            have g1 : decide (x.2 ≤ x.1) = false := by simp; omega
            have g2 : decide (x.1 < a) = false := by simp; omega
            have g3 : decide (b < x.2) = false := by simp; omega
            have g4 : decide ((0 : Int) < (k : Int)) = true := by simp; omega
            have g6 : decide (0 < k) = true := by simp; omega
            have g5 : decide (x.1 ≤ y.2) = false := by simp; omega
            go_quiet (fail)
            go_wp2_with fail
            go_roundw
            case measure => simp [intOf]; omega
            case rel => exact ⟨k + 1, by omega, by go_num, below_drewN hbr _⟩
        · have hki : ¬ (k : Int) < (l.length : Int) := by omega
          go_wp2_with fail
          refine (ex5_any _ (HV.out.below hbw)).mono ?_
          rintro e w5 ⟨rfl, hb5⟩
          go_wp2_with fail
          go_ret
          exact ⟨rfl, below_step hb0 (below_step hbw hb5)⟩

end Go.Proofs.YtneoaakichcegaaDoor
