/-
  Walks: the reference's spans.
-/
import Derived.Test.YtneoaakichcegaaDoorWWin10
namespace Go.Proofs.YtneoaakichcegaaDoor
open Go.RowKit Go.Lib Go.Maps
set_option linter.unusedVariables false

def spanB (a b : Int) : Bool := decide (0 ≤ a) && (decide (a ≤ b) && decide (b ≤ 268435456))
theorem spanB_iff {a b : Int} : spanB a b = true ↔ 0 ≤ a ∧ a ≤ b ∧ b ≤ 268435456 := by unfold spanB; simp

set_option maxRecDepth 100000 in
set_option maxHeartbeats 400000 in
theorem refSpan_any (a b : Int) (w : World) :
    Calls Tryd.prog 22 #[.agg #[.int .i64 a, .int .i64 b]] w fun e w' => e = .returned (.bool (spanB a b)) ∧ Below w.heap.size w w' := by
  go_enter Tryd.func22, Tryd.ntmps22
  go_wp2
  all_goals go_ret
  all_goals exact ⟨ret_bool (by rw [Bool.eq_iff_iff, spanB_iff]; simp; omega), below_alloc (Below.refl _ _) _⟩

set_option maxRecDepth 100000 in
set_option maxHeartbeats 6400000 in
theorem refSpans_any (W : WinR) (z : ZoneR) (a b : Int) (w : World) :
    Calls Tryd.prog 23 #[.agg #[.int .i64 W.dy, .int .i64 W.st, .int .i64 W.en, .int .i64 W.fr, .int .i64 W.to], .agg #[.int .i64 z.off, .bool z.sum], .agg #[.int .i64 a, .int .i64 b]] w (SpansPost w W z a b) := by
  have hbw := Below.refl w.heap.size w
  cases hW : winB W with
  | false =>
    have H1 := Lib.hid (winE_false hW)
    have HN := Lib.hid (spans_bad (W := W) (z := z) (a := a) (b := b) (by rw [hW]; rfl))
    clear hW
    go_enter Tryd.func23, Tryd.ntmps23
    go_wp2_with (go_at_call 17; refine (refValid_any W _).mono ?_; rintro e w' ⟨rfl, hb⟩; obtain ⟨hc, hf⟩ := bcell hb; have hz := hb.size; (try simp only [World.size_alloc, Nat.add_one_le_iff] at hz); (try (have hz0 : w.heap.size < w'.heap.size := by omega)); (try (have hz1 : w.heap.size + 1 < w'.heap.size := by omega)); (try (have hz2 : w.heap.size < w'.heap.size := by omega)); replace hbw := below_step (w := w) (by repeat (first | exact hbw | refine below_alloc ?_ _ | refine below_drew ?_ | refine below_drewN ?_ _ | (refine below_set ?_ ?_ _; rotate_left; (first | exact Nat.le_refl _ | (simp only [World.size_alloc]; omega) | omega)))) hb; clear hb; rw [H1.out])
    go_ret2
    exact SpansPost.mk HN.out (IsSl.nil _ _) (by repeat (first | exact hbw | refine below_alloc ?_ _))
  | true =>
    cases hz : zoneB z with
    | false =>
      have H1 := Lib.hid (winE_true hW)
      have H2 := Lib.hid hz
      have HN := Lib.hid (spans_bad (W := W) (z := z) (a := a) (b := b) (by rw [hz]; simp))
      clear hW hz
      go_enter Tryd.func23, Tryd.ntmps23
      go_wp2_with (first | (go_at_call 17; refine (refValid_any W _).mono ?_; rintro e w' ⟨rfl, hb⟩; obtain ⟨hc, hf⟩ := bcell hb; have hz := hb.size; (try simp only [World.size_alloc, Nat.add_one_le_iff] at hz); (try (have hz0 : w.heap.size < w'.heap.size := by omega)); (try (have hz1 : w.heap.size + 1 < w'.heap.size := by omega)); (try (have hz2 : w.heap.size < w'.heap.size := by omega)); replace hbw := below_step (w := w) (by repeat (first | exact hbw | refine below_alloc ?_ _ | refine below_drew ?_ | refine below_drewN ?_ _ | (refine below_set ?_ ?_ _; rotate_left; (first | exact Nat.le_refl _ | (simp only [World.size_alloc]; omega) | omega)))) hb; clear hb; rw [H1.out]) | (go_at_call 31; refine (refZone_any z _).mono ?_; rintro e w' ⟨rfl, hb⟩; obtain ⟨hc, hf⟩ := bcell hb; have hz := hb.size; (try simp only [World.size_alloc, Nat.add_one_le_iff] at hz); (try (have hz0 : w.heap.size < w'.heap.size := by omega)); (try (have hz1 : w.heap.size + 1 < w'.heap.size := by omega)); (try (have hz2 : w.heap.size < w'.heap.size := by omega)); replace hbw := below_step (w := w) (by repeat (first | exact hbw | refine below_alloc ?_ _ | refine below_drew ?_ | refine below_drewN ?_ _ | (refine below_set ?_ ?_ _; rotate_left; (first | exact Nat.le_refl _ | (simp only [World.size_alloc]; omega) | omega)))) hb; clear hb; rw [H2.out]))
      go_ret2
      exact SpansPost.mk HN.out (IsSl.nil _ _) (by repeat (first | exact hbw | refine below_alloc ?_ _))
    | true =>
      have H1 := Lib.hid (winE_true hW)
      have H2 := Lib.hid hz
      have HW := Lib.hid hW
      cases hs : spanB a b with
      | false =>
        have H3 := Lib.hid hs
        have HN := Lib.hid (spans_range hW hz (a := a) (b := b) (fun h => by rw [spanB_iff.2 h] at hs; cases hs))
        clear hW hz hs
        go_enter Tryd.func23, Tryd.ntmps23
        go_wp2_with (first | (go_at_call 17; refine (refValid_any W _).mono ?_; rintro e w' ⟨rfl, hb⟩; obtain ⟨hc, hf⟩ := bcell hb; have hz := hb.size; (try simp only [World.size_alloc, Nat.add_one_le_iff] at hz); (try (have hz0 : w.heap.size < w'.heap.size := by omega)); (try (have hz1 : w.heap.size + 1 < w'.heap.size := by omega)); (try (have hz2 : w.heap.size < w'.heap.size := by omega)); replace hbw := below_step (w := w) (by repeat (first | exact hbw | refine below_alloc ?_ _ | refine below_drew ?_ | refine below_drewN ?_ _ | (refine below_set ?_ ?_ _; rotate_left; (first | exact Nat.le_refl _ | (simp only [World.size_alloc]; omega) | omega)))) hb; clear hb; rw [H1.out]) | (go_at_call 31; refine (refZone_any z _).mono ?_; rintro e w' ⟨rfl, hb⟩; obtain ⟨hc, hf⟩ := bcell hb; have hz := hb.size; (try simp only [World.size_alloc, Nat.add_one_le_iff] at hz); (try (have hz0 : w.heap.size < w'.heap.size := by omega)); (try (have hz1 : w.heap.size + 1 < w'.heap.size := by omega)); (try (have hz2 : w.heap.size < w'.heap.size := by omega)); replace hbw := below_step (w := w) (by repeat (first | exact hbw | refine below_alloc ?_ _ | refine below_drew ?_ | refine below_drewN ?_ _ | (refine below_set ?_ ?_ _; rotate_left; (first | exact Nat.le_refl _ | (simp only [World.size_alloc]; omega) | omega)))) hb; clear hb; rw [H2.out]) | (go_at_call 22; refine (refSpan_any a b _).mono ?_; rintro e w' ⟨rfl, hb⟩; obtain ⟨hc, hf⟩ := bcell hb; have hz := hb.size; (try simp only [World.size_alloc, Nat.add_one_le_iff] at hz); (try (have hz0 : w.heap.size < w'.heap.size := by omega)); (try (have hz1 : w.heap.size + 1 < w'.heap.size := by omega)); (try (have hz2 : w.heap.size < w'.heap.size := by omega)); replace hbw := below_step (w := w) (by repeat (first | exact hbw | refine below_alloc ?_ _ | refine below_drew ?_ | refine below_drewN ?_ _ | (refine below_set ?_ ?_ _; rotate_left; (first | exact Nat.le_refl _ | (simp only [World.size_alloc]; omega) | omega)))) hb; clear hb; rw [H3.out]))
        go_ret2
        exact SpansPost.mk HN.out (IsSl.nil _ _) (by repeat (first | exact hbw | refine below_alloc ?_ _))
      | true =>
        have H3 := Lib.hid hs
        have hr := spanB_iff.1 hs
        have HS1 := Lib.hid (fun h => spans_none hW hz hr h)
        have HS2 := Lib.hid (fun l h => spans_some (l := l) hW hz hr h)
        obtain ⟨a0, ab, b1⟩ := hr
        clear hW hz hbw hs
        obtain ⟨i1, hi, hz0, hz1, hz2⟩ := info_parts spanInfo
        obtain ⟨W0, hW0, hb0, hg2, hg1, hg0, hx0, hy0, hs0⟩ := box3p w #[.int .i64 W.dy, .int .i64 W.st, .int .i64 W.en, .int .i64 W.fr, .int .i64 W.to] 24 #[.int .i64 z.off, .bool z.sum] 26 #[.int .i64 a, .int .i64 b] 28
        go_enter Tryd.func23, Tryd.ntmps23
        go_wp2_with fail
        rw [← hW0]
        clear hW0
        refine (refValid_any W _).mono ?_
        rintro e w1 ⟨rfl, hb1⟩
        rw [H1.out]
        obtain ⟨hc, hf⟩ := bcell hb1
        go_wp2_with fail
        refine (refZone_any z _).mono ?_
        rintro e w2 ⟨rfl, hb2⟩
        rw [H2.out]
        have hbw := below_step hb1 hb2
        clear hc hf hb1 hb2
        obtain ⟨hc, hf⟩ := bcell hbw
        go_wp2_with fail
        refine (refSpan_any a b _).mono ?_
        rintro e w3 ⟨rfl, hb3⟩
        rw [H3.out]
        replace hbw := below_step hbw hb3
        clear hc hf hb3
        obtain ⟨hc, hf⟩ := bcell hbw
        go_wp2_with fail
        go_loopw [8, 9] (fun v t wr => ∃ (acc : List (Int × Int)) (x : Int), t = .int .i64 x ∧ a ≤ x ∧ x ≤ b ∧ acc.length ≤ 512 ∧ Below W0.heap.size W0 wr ∧ wr.ownsRow W0.heap.size 28 2 v acc.length (acc.flatMap encP) ∧ Hid (restS (holdsB W z) b a [] = restS (holdsB W z) b x acc)) (fun _ t _ => (b - intOf t).toNat)
        case atStart => exact ⟨[], a, rfl, by omega, by omega, by simp, hbw, World.ownsRow_nil _ _ _ _, rfl⟩
        case round =>
          clear hbw hc hf
          obtain ⟨acc, x, rfl, x0, x1, hal, hbw, hown, HR⟩ := hrel
          obtain ⟨hc, hf⟩ := bcell hbw
          obtain ⟨A, cap, rfl⟩ := own_shape hown
          by_cases hlt : x < b
          · have hst := restS_step (H := holdsB W z) (l := acc) (show -1 ≤ x by omega) hlt
            have htr := toF_rng (H := holdsB W z) (show -1 ≤ x by omega) hlt
            rw [← HR.out] at hst
            have HTF : Hid (toF (holdsB W z) b x = if nextF (holdsB W z) x < 0 ∨ b < nextF (holdsB W z) x then b else nextF (holdsB W z) x) := rfl
            have hnr := nextF_rng (holdsB W z) (show -1 ≤ x by omega)
            have hna := nextA_ok HW.out H2.out (timeB_iff.2 ⟨show 0 ≤ x by omega, by omega⟩)
            have HNX := Lib.hid (fun (w : World) => hna ▸ refNext_any W z x w)
            have HHX := Lib.hid (fun (w : World) => refHolds_any W z x w)
            generalize hTT : toF (holdsB W z) b x = tt at *
            generalize nextF (holdsB W z) x = r at *
            generalize holdsB W z x = q at *
            have HST := Lib.hid hst
            clear hst hTT HR hna
            have hr3 : (r < 0 ∧ Hid (tt = b)) ∨ (¬ r < 0 ∧ b < r ∧ Hid (tt = b)) ∨ (¬ r < 0 ∧ ¬ b < r ∧ Hid (tt = r)) := by
              have := HTF.out
              by_cases c1 : r < 0
              · exact .inl ⟨c1, by unfold Hid; rw [this, if_pos (.inl c1)]⟩
              · by_cases c2 : b < r
                · exact .inr (.inl ⟨c1, c2, by unfold Hid; rw [this, if_pos (.inr c2)]⟩)
                · exact .inr (.inr ⟨c1, c2, by unfold Hid; rw [this, if_neg (by omega)]⟩)
            cases q with
            | false =>
              have HST2 : Hid (restS (holdsB W z) b a [] = restS (holdsB W z) b tt acc) := by rw [Hid, HST.out, if_neg (by decide)]
              rcases hr3 with ⟨c1, ht⟩ | ⟨c1, c2, ht⟩ | ⟨c1, c2, ht⟩
              all_goals
                go_wp2_with fail
                refine (HNX.out _).mono ?_
                rintro e w4 ⟨rfl, hb4⟩
                have hbw4 := below_step hbw hb4
                clear hc hf
                obtain ⟨hc, hf⟩ := bcell hbw4
                go_wp2_with fail
                refine (HHX.out _).mono ?_
                rintro e w5 ⟨rfl, hb5⟩
                have hown5 := own_below (own_below hown hb4) hb5
                have hbw5 := below_step hbw4 hb5
                clear hc hf
                obtain ⟨hc, hf⟩ := bcell hbw5
                go_wp2_with fail
                go_roundw
                case measure => simp [intOf]; have := ht.out; omega
                case rel => exact ⟨acc, tt, by rw [ht.out], by omega, by omega, hal, hbw5, hown5, HST2⟩
            | true =>
              by_cases hl : acc.length = 512
              · have HSN := Lib.hid (HS1.out (by rw [HST.out, if_pos rfl, if_pos hl]))
                have e5 : ((acc.length : Int) == 512) = true := by simp; omega
                clear hl
                rcases hr3 with ⟨c1, ht⟩ | ⟨c1, c2, ht⟩ | ⟨c1, c2, ht⟩
                all_goals
                  go_wp2_with fail
                  refine (HNX.out _).mono ?_
                  rintro e w4 ⟨rfl, hb4⟩
                  have hbw4 := below_step hbw hb4
                  clear hc hf
                  obtain ⟨hc, hf⟩ := bcell hbw4
                  go_wp2_with fail
                  refine (HHX.out _).mono ?_
                  rintro e w5 ⟨rfl, hb5⟩
                  have hbw5 := below_step hbw4 hb5
                  go_wp2_with fail
                  go_ret2
                  exact SpansPost.mk HSN.out (IsSl.nil _ _) (below_step hb0 hbw5)
              · have HST2 : Hid (restS (holdsB W z) b a [] = restS (holdsB W z) b tt (acc ++ [(x, tt)])) := by rw [Hid, HST.out, if_pos rfl, if_neg hl]
                have e5 : ((acc.length : Int) == 512) = false := by simp; omega
                have hal2 : acc.length < 512 := by omega
                clear hl
                rcases hr3 with ⟨c1, ht⟩ | ⟨c1, c2, ht⟩ | ⟨c1, c2, ht⟩
                all_goals
                  go_wp2_with fail
                  refine (HNX.out _).mono ?_
                  rintro e w4 ⟨rfl, hb4⟩
                  have hbw4 := below_step hbw hb4
                  clear hc hf
                  obtain ⟨hc, hf⟩ := bcell hbw4
                  go_wp2_with fail
                  refine (HHX.out _).mono ?_
                  rintro e w5 ⟨rfl, hb5⟩
                  have hown5 := own_below (own_below hown hb4) hb5
                  have hbw5 := below_step hbw4 hb5
                  clear hc hf
                  obtain ⟨hc, hf⟩ := bcell hbw5
                  go_wp2_with (at_builtin; refine wpList_append_row _ _ rfl (.tmp 49) (.tmp 53) _ rfl W0.heap.size 28 i1 _ 2 16 Tryd.underlying34 hi hz0 hz1 hz2 rfl (by decide) _ _ _ rfl hown5 _ rfl rfl (by intro u hu; simp at hu; rcases hu with rfl | rfl <;> rfl) (by omega) (by omega) hbw5.size ?_; intro v' w6 hown6 hgrow hblk; have hb6 := below_grown hbw5 hown5 (Nat.le_refl _) hgrow; clear hc hf hgrow hblk; obtain ⟨hc, hf⟩ := bcell hb6)
                  go_roundw
                  case measure => simp [intOf]; have := ht.out; omega
                  case rel => exact ⟨acc ++ [(x, tt)], tt, by rw [ht.out], by omega, by omega, by simp; omega, hb6, by rw [List.length_append, List.flatMap_append, ht.out]; exact hown6, HST2⟩
          · have hxb : x = b := by omega
            have HX := Lib.hid (HS2.out acc (by rw [HR.out, hxb]; exact restS_end (Int.le_refl _)))
            clear hxb
            go_wp2_with fail
            go_ret2
            exact SpansPost.mk HX.out (IsSl.of_own encP_len hown rfl) (below_step hb0 hbw)

end Go.Proofs.YtneoaakichcegaaDoor
