/-
  Walks: the law WindowSpans.
-/
import Derived.Test.YtneoaakichcegaaDoorWRefS
import Derived.Test.YtneoaakichcegaaDoorWLaw5b
namespace Go.Proofs.YtneoaakichcegaaDoor
open Go.RowKit Go.Lib Go.Maps
set_option linter.unusedVariables false

theorem eq_span (x : Int × Int) (w : World) : (Op.equalIn 10000 28 (.agg #[.int .i64 x.1, .int .i64 x.2]) (.agg #[.int .i64 x.1, .int .i64 x.2])).run Tryd.prog w = .ok true w := by
  rw [run_equalIn_agg w 9999 _ _ _ Tryd.underlying28 Tryd.stoodInHeld28]
  simp only [Program.fieldsOf, Tryd.underlying28]
  simp [go_sem, Op.eqFields, part, run_equalIn_int _ _ _ _ _ _ _ Tryd.underlying3]
theorem neq_span (x : Int × Int) (w : World) : (binOp .neq 28 (.agg #[.int .i64 x.1, .int .i64 x.2]) (.agg #[.int .i64 x.1, .int .i64 x.2])).run Tryd.prog w = .ok (.bool false) w := by
  rw [run_neq_struct, eq_span]; rfl

set_option maxRecDepth 100000 in
set_option maxHeartbeats 6400000 in
theorem lawWinSpans (W : WinR) (z : ZoneR) (s : Int × Int) (w : World) (hv : LenV w) :
    Calls Tryd.prog 7 #[.agg #[.int .i64 W.dy, .int .i64 W.st, .int .i64 W.en, .int .i64 W.fr, .int .i64 W.to], .agg #[.int .i64 z.off, .bool z.sum], .agg #[.int .i64 s.1, .int .i64 s.2]] w fun e w' => e = .returned (.bool true) ∧ Below w.heap.size w w' := by
  obtain ⟨a, b⟩ := s
  simp only
  obtain ⟨W0, hW0, hb0, hg2, hg1, hg0, hx0, hy0, hs0⟩ := box3p w #[.int .i64 W.dy, .int .i64 W.st, .int .i64 W.en, .int .i64 W.fr, .int .i64 W.to] 24 #[.int .i64 z.off, .bool z.sum] 26 #[.int .i64 a, .int .i64 b] 28
  have HV := Lib.hid (hv.below hb0)
  clear hv
  by_cases hbig : spanB a b = true ∧ 800000 < b - a
  · obtain ⟨hs, hd⟩ := hbig
    obtain ⟨a0, ab, b1⟩ := spanB_iff.1 hs
    have H3 := Lib.hid hs
    clear hs
    go_enter Tryd.func7, Tryd.ntmps7
    go_wp2_with fail
    rw [← hW0]
    clear hW0
    refine (refSpan_any a b _).mono ?_
    rintro e w1 ⟨rfl, hb1⟩
    rw [H3.out]
    obtain ⟨hc, hf⟩ := bcell hb1
    go_wp2_with fail
    refine (ex5_any _ (HV.out.below hb1)).mono ?_
    rintro e w2 ⟨rfl, hb2⟩
    go_wp2_with fail
    go_ret
    exact ⟨rfl, below_step hb0 (below_step hb1 hb2)⟩
  have hcase : spanB a b = false ∨ (spanB a b = true ∧ 0 ≤ a ∧ a ≤ b ∧ b ≤ 268435456 ∧ ¬ 800000 < b - a) := by
    cases hs : spanB a b with
    | false => exact .inl rfl
    | true => have := spanB_iff.1 hs; exact .inr ⟨rfl, this.1, this.2.1, this.2.2, fun h => hbig ⟨hs, h⟩⟩
  clear hbig
  have hlen : True := trivial
  rcases hcase with hs | ⟨hs, a0, ab, b1, hd⟩
  all_goals
    have H3 := Lib.hid hs
    clear hs
    go_enter Tryd.func7, Tryd.ntmps7
    go_wp2_with fail
    rw [← hW0]
    clear hW0
    refine (refSpan_any a b _).mono ?_
    rintro e w1 ⟨rfl, hb1⟩
    rw [H3.out]
    obtain ⟨hc, hf⟩ := bcell hb1
    go_wp2_with fail
    refine (spans_any W z a b _ (HV.out.below hb1)).mono ?_
    rintro e w2 ⟨v2, rfl, hv2, hb2⟩
    have hbw2 := below_step hb1 hb2
    clear hc hf
    obtain ⟨hc, hf⟩ := bcell hbw2
    go_wp2_with fail
    refine (refSpans_any W z a b _).mono ?_
    rintro e w3 ⟨v3, rfl, hv3, hb3⟩
    have hbw3 := below_step hbw2 hb3
    replace hv2 := hv2.below hb3
    clear hc hf hb1 hb2 hb3 hbw2 hx0 hy0 hs0
    generalize spansE W z a b = ee at *
    generalize spansL W z a b = l at *
    obtain ⟨A, c, rfl, hlc, hcm, hsl⟩ := hv2
    obtain ⟨B, d, rfl, hld, hdm, hsm⟩ := hv3
    rw [List.length_map] at hlc hld
    unfold maxLen at hcm hdm
    have hlm : l.length ≤ 9223372036854775807 := by omega
    have hne : ((l.length : Int) != (l.length : Int)) = false := by simp
    have hee : (ee != ee) = false := by simp
    simp only [List.length_map]
    go_wp2_with fail
    go_loopw [49] (fun i wr => ∃ n : Nat, n ≤ l.length ∧ i = .int .i64 n ∧ Below w3.heap.size w3 wr) (fun i _ => l.length - (intOf i).toNat)
    case atStart => exact ⟨0, by omega, rfl, Below.refl _ _⟩
    case round =>
      obtain ⟨n, hn, rfl, hbw⟩ := hrel
      by_cases hlt : n < l.length
      · have hni : (n : Int) < (l.length : Int) := by omega
        obtain ⟨g, off, rfl, hb, c0, c1⟩ := span_at (hsl.below hbw) (List.getElem?_eq_getElem hlt)
        obtain ⟨g2, off2, rfl, hb2, d0, d1⟩ := span_at (hsm.below hbw) (List.getElem?_eq_getElem hlt)
        generalize l[n] = x at *
        have hnq := neq_span x
        have heg := fun w => run_eqGuard_agg (P := Tryd.prog) w .neq 28 (.tmp 55) (.tmp 59) #[.int .i64 x.1, .int .i64 x.2] #[.int .i64 x.1, .int .i64 x.2] Tryd.eqGuardType28
        go_wp2_with fail
        go_quiet (fail)
        go_wp2_with fail
        go_roundw
        case measure => simp [intOf]; omega
        case rel => exact ⟨n + 1, by omega, by go_num, below_drewN hbw _⟩
      · have hni : ¬ (n : Int) < (l.length : Int) := by omega
        go_wp2_with fail
        refine (ex5_any _ ((HV.out.below hbw3).below hbw)).mono ?_
        rintro e w5 ⟨rfl, hb5⟩
        go_wp2_with fail
        go_ret
        exact ⟨rfl, below_step hb0 (below_step hbw3 (below_step hbw hb5))⟩

end Go.Proofs.YtneoaakichcegaaDoor
