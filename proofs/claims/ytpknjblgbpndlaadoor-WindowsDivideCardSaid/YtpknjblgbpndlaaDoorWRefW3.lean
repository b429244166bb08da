/-
  Walks: the reference's next change of a window.
-/
import Derived.Test.YtpknjblgbpndlaaDoorWRefW2
import Derived.Deep.DeepCutAuto
import Derived.Outline
namespace Go.Proofs.YtpknjblgbpndlaaDoor
open Go.RowKit Go.Lib
attribute [local go_sem] after_cell
set_option linter.unusedVariables false

/-- what Next answers -/
noncomputable def nextA (W : WinR) (z : ZoneR) (t : Int) : Int := if (winB W && zoneB z && timeB t) = true then nextF (holdsB W z) t else -1
theorem nextA_bad {W : WinR} {z : ZoneR} {t : Int} (h : (winB W && zoneB z && timeB t) = false) : nextA W z t = -1 := if_neg (by rw [h]; decide)
theorem nextA_ok {W : WinR} {z : ZoneR} {t : Int} (h1 : winB W = true) (h2 : zoneB z = true) (h3 : timeB t = true) : nextA W z t = nextF (holdsB W z) t := if_pos (by rw [h1, h2, h3]; rfl)
/-- the search of the reference: nothing changes ahead of u -/
structure Srch (W : WinR) (z : ZoneR) (t u : Int) : Prop where
  up : t < u
  no : ∀ v, t < v → v < u → v ≤ 268435456 → holdsB W z v = holdsB W z (v - 1)
theorem Srch.start {W : WinR} {z : ZoneR} (hW : winB W = true) {t : Int} (h0 : 0 ≤ t) : Srch W z t (candF W z t) := ⟨(cand_at hW h0).up, (cand_at hW h0).same⟩
theorem Srch.next {W : WinR} {z : ZoneR} (hW : winB W = true) {t u : Int} (h0 : 0 ≤ t) (h : Srch W z t u) (he : holdsB W z u = holdsB W z (u - 1)) : Srch W z t (candF W z u) := by
  have c := cand_at (z := z) hW (show 0 ≤ u by have := h.up; omega)
  refine ⟨by have := h.up; have := c.up; omega, fun v a b d => ?_⟩
  rcases Int.lt_trichotomy v u with e | e | e
  · exact h.no v a e d
  · rw [e]; exact he
  · exact c.same v e b d
theorem Srch.found {W : WinR} {z : ZoneR} {t u : Int} (h : Srch W z t u) (h1 : u ≤ 268435456) (he : holdsB W z u ≠ holdsB W z (u - 1)) : NextSpec (holdsB W z) t u :=
  .inl ⟨h.up, h1, he, fun v a b => h.no v a b (by omega)⟩

set_option maxRecDepth 100000 in
set_option maxHeartbeats 6400000 in
theorem refNext_any (W : WinR) (z : ZoneR) (t : Int) (w : World) :
    Calls Tryd.prog 59 #[.agg #[.int .i64 W.dy, .int .i64 W.st, .int .i64 W.en, .int .i64 W.fr, .int .i64 W.to], .agg #[.int .i64 z.off, .bool z.sum], .int .i64 t] w
      fun e w' => e = .returned (.int .i64 (nextA W z t)) ∧ Below w.heap.size w w' := by
  have hbw := Below.refl w.heap.size w
  cases hW : winB W with
  | false =>
    have H1 := Lib.hid (winE_false hW)
    have HN := Lib.hid (nextA_bad (W := W) (z := z) (t := t) (by rw [hW]; rfl))
    clear hW
    go_enter Tryd.func59, Tryd.ntmps59
    go_wp2_with (go_at_call 35; refine (refValid_any W _).mono ?_; rintro e w' ⟨rfl, hb⟩; obtain ⟨hc, hf⟩ := bcell hb; have hz := hb.size; (try simp only [World.size_alloc, Nat.add_one_le_iff] at hz); (try (have hz0 : w.heap.size < w'.heap.size := by omega)); (try (have hz1 : w.heap.size + 1 < w'.heap.size := by omega)); (try (have hz2 : w.heap.size < w'.heap.size := by omega)); replace hbw := below_step (w := w) (by repeat (first | exact hbw | refine below_alloc ?_ _ | refine below_drew ?_ | refine below_drewN ?_ _ | (refine below_set ?_ ?_ _; rotate_left; (first | exact Nat.le_refl _ | (simp only [World.size_alloc]; omega) | omega)))) hb; clear hb; rw [H1.out])
    go_ret
    exact ⟨ret_int HN.out.symm, by repeat (first | exact hbw | refine below_alloc ?_ _)⟩
  | true =>
    cases hz : zoneB z with
    | false =>
      have H1 := Lib.hid (winE_true hW)
      have H2 := Lib.hid hz
      have HN := Lib.hid (nextA_bad (W := W) (z := z) (t := t) (by rw [hz]; simp))
      clear hW hz
      go_enter Tryd.func59, Tryd.ntmps59
      go_wp2_with (first | (go_at_call 35; refine (refValid_any W _).mono ?_; rintro e w' ⟨rfl, hb⟩; obtain ⟨hc, hf⟩ := bcell hb; have hz := hb.size; (try simp only [World.size_alloc, Nat.add_one_le_iff] at hz); (try (have hz0 : w.heap.size < w'.heap.size := by omega)); (try (have hz1 : w.heap.size + 1 < w'.heap.size := by omega)); (try (have hz2 : w.heap.size < w'.heap.size := by omega)); replace hbw := below_step (w := w) (by repeat (first | exact hbw | refine below_alloc ?_ _ | refine below_drew ?_ | refine below_drewN ?_ _ | (refine below_set ?_ ?_ _; rotate_left; (first | exact Nat.le_refl _ | (simp only [World.size_alloc]; omega) | omega)))) hb; clear hb; rw [H1.out]) | (go_at_call 53; refine (refZone_any z _).mono ?_; rintro e w' ⟨rfl, hb⟩; obtain ⟨hc, hf⟩ := bcell hb; have hz := hb.size; (try simp only [World.size_alloc, Nat.add_one_le_iff] at hz); (try (have hz0 : w.heap.size < w'.heap.size := by omega)); (try (have hz1 : w.heap.size + 1 < w'.heap.size := by omega)); (try (have hz2 : w.heap.size < w'.heap.size := by omega)); replace hbw := below_step (w := w) (by repeat (first | exact hbw | refine below_alloc ?_ _ | refine below_drew ?_ | refine below_drewN ?_ _ | (refine below_set ?_ ?_ _; rotate_left; (first | exact Nat.le_refl _ | (simp only [World.size_alloc]; omega) | omega)))) hb; clear hb; rw [H2.out]))
      go_ret
      exact ⟨ret_int HN.out.symm, by repeat (first | exact hbw | refine below_alloc ?_ _)⟩
    | true =>
      cases ht : timeB t with
      | false =>
        have H1 := Lib.hid (winE_true hW)
        have H2 := Lib.hid hz
        have H3 := Lib.hid ht
        have HN := Lib.hid (nextA_bad (W := W) (z := z) (t := t) (by rw [ht]; simp))
        clear hW hz ht
        go_enter Tryd.func59, Tryd.ntmps59
        go_wp2_with (first | (go_at_call 35; refine (refValid_any W _).mono ?_; rintro e w' ⟨rfl, hb⟩; obtain ⟨hc, hf⟩ := bcell hb; have hz := hb.size; (try simp only [World.size_alloc, Nat.add_one_le_iff] at hz); (try (have hz0 : w.heap.size < w'.heap.size := by omega)); (try (have hz1 : w.heap.size + 1 < w'.heap.size := by omega)); (try (have hz2 : w.heap.size < w'.heap.size := by omega)); replace hbw := below_step (w := w) (by repeat (first | exact hbw | refine below_alloc ?_ _ | refine below_drew ?_ | refine below_drewN ?_ _ | (refine below_set ?_ ?_ _; rotate_left; (first | exact Nat.le_refl _ | (simp only [World.size_alloc]; omega) | omega)))) hb; clear hb; rw [H1.out]) | (go_at_call 53; refine (refZone_any z _).mono ?_; rintro e w' ⟨rfl, hb⟩; obtain ⟨hc, hf⟩ := bcell hb; have hz := hb.size; (try simp only [World.size_alloc, Nat.add_one_le_iff] at hz); (try (have hz0 : w.heap.size < w'.heap.size := by omega)); (try (have hz1 : w.heap.size + 1 < w'.heap.size := by omega)); (try (have hz2 : w.heap.size < w'.heap.size := by omega)); replace hbw := below_step (w := w) (by repeat (first | exact hbw | refine below_alloc ?_ _ | refine below_drew ?_ | refine below_drewN ?_ _ | (refine below_set ?_ ?_ _; rotate_left; (first | exact Nat.le_refl _ | (simp only [World.size_alloc]; omega) | omega)))) hb; clear hb; rw [H2.out]) | (go_at_call 52; refine (refRight_any _ _).mono ?_; rintro e w' ⟨rfl, rfl⟩; rw [H3.out]))
        go_ret
        exact ⟨ret_int HN.out.symm, by repeat (first | exact hbw | refine below_alloc ?_ _)⟩
      | true =>
        obtain ⟨t0, t1⟩ := timeB_iff.1 ht
        have hNA := nextA_ok hW hz ht
        have HN : Hid (∀ r, NextSpec (holdsB W z) (if t < W.fr - 1 then W.fr - 1 else t) r → nextA W z t = r) := fun r h => by
          rw [hNA]
          by_cases c : t < W.fr - 1
          · rw [if_pos c] at h; exact nextF_of (next_lift c h)
          · rw [if_neg c] at h; exact nextF_of h
        obtain ⟨d0, d1, s0, s1, e0, e1, f0, f1, ht2⟩ := winB_iff.1 hW
        have hu0 : 0 ≤ (if t < W.fr - 1 then W.fr - 1 else t) := by split <;> omega
        have hu1 : (if t < W.fr - 1 then W.fr - 1 else t) ≤ 268435456 := by split <;> omega
        have hu2 : W.fr - 1 ≤ (if t < W.fr - 1 then W.fr - 1 else t) := by split <;> omega
        have H1 := Lib.hid (winE_true hW)
        have H2 := Lib.hid hz
        have H3 := Lib.hid ht
        have HW := Lib.hid hW
        clear hNA hW hz ht hbw
        obtain ⟨W0, hW0, hb0, hg0, hg1, hx0, hy0⟩ := box2 w #[.int .i64 W.dy, .int .i64 W.st, .int .i64 W.en, .int .i64 W.fr, .int .i64 W.to] 24 #[.int .i64 z.off, .bool z.sum] 26
        go_enter Tryd.func59, Tryd.ntmps59
        go_wp2_with fail
        rw [← hW0]
        clear hW0
        refine (refValid_any W _).mono ?_
        rintro e w1 ⟨rfl, hb1⟩
        rw [H1.out]
        obtain ⟨hc, hf⟩ := bcell hb1
        go_wp2_with fail
        refine (refZone_any z _).mono ?_
        rintro e w2 ⟨rfl, hb2⟩
        rw [H2.out]
        have hbw := below_step hb1 hb2
        clear hc hf hb1 hb2
        obtain ⟨hc, hf⟩ := bcell hbw
        go_wp2_with fail
        refine (refRight_any _ _).mono ?_
        rintro e w' ⟨rfl, rfl⟩
        rw [H3.out]
        go_upto_if 26 with fail
        go_cut [2] from 27 to 29 (fun s wx => s = .int .i64 (if t < W.fr - 1 then W.fr - 1 else t) ∧ wx = w2)
        case first =>
          by_cases c : t < W.fr - 1
          · have hq : Hid ((if t < W.fr - 1 then W.fr - 1 else t) = W.fr - 1) := if_pos c
            go_wp2_with fail
            go_meet
            exact ⟨by rw [hq.out], rfl⟩
          · have hq : Hid ((if t < W.fr - 1 then W.fr - 1 else t) = t) := if_neg c
            go_wp2_with fail
            go_meet
            exact ⟨by rw [hq.out], rfl⟩
        case rest =>
          obtain ⟨rfl, rfl⟩ := hcut
          generalize (if t < W.fr - 1 then W.fr - 1 else t) = u at *
          have HST := Lib.hid (Srch.start (z := z) HW.out hu0)
          have hcl := (cand_at (z := z) HW.out hu0).le
          go_wp2_with fail
          refine (candidate_any W z _ _ HW.out H2.out hu0 hu1).mono ?_
          rintro e w3 ⟨rfl, hb3⟩
          have hbw3 := below_step hbw hb3
          clear hc hf hb3
          go_wp2_with fail
          go_loopw [8] (fun y wr => ∃ v : Int, y = .int .i64 v ∧ v ≤ 268500000 ∧ Below W0.heap.size W0 wr ∧ Hid (Srch W z u v)) (fun y _ => (268600000 - intOf y).toNat)
          case atStart => exact ⟨_, rfl, by omega, hbw3, HST⟩
          case round =>
            clear HST hcl hbw hbw3
            obtain ⟨v, rfl, hv1, hbw, HS⟩ := hrel
            obtain ⟨hc, hf⟩ := bcell hbw
            have hup := HS.out.up
            by_cases hg : v ≤ u + 21600 ∧ v ≤ 268435456
            · obtain ⟨g1, g2⟩ := hg
              by_cases he : holdsB W z v = holdsB W z (v - 1)
              · have HS2 := Lib.hid (HS.out.next HW.out hu0 he)
                have c := cand_at (z := z) HW.out (show 0 ≤ v by omega)
                have c1 := c.up
                have c2 := c.le
                have HC1 := Lib.hid (fun (w : World) => he ▸ refHolds_any W z v w)
                have HC2 := Lib.hid (fun (w : World) => refHolds_any W z (v - 1) w)
                have HH := Lib.hid he
                clear c he
                generalize holdsB W z (v - 1) = b9 at *
                cases b9
                all_goals
                  go_wp2_with fail
                  (refine wp_region_kept W0 (by kernel_rfl) (by kernel_rfl) (by assumption) ?_; (repeat (go_big_quiet_step ((first | (go_at_call 37; exact kept_call ((by first | with_reducible exact HC1.out _ | with_reducible exact HC2.out _))))))); refine wpQuiet_nil ?_; intro _ hw'; obtain ⟨x9, hw''⟩ := hw'; subst hw''; have hk9 := after_kept x9; generalize after x9 = w9 at *)
                  obtain ⟨hc9, hf9⟩ := bcell hk9.2
                  go_wp2_with fail
                  refine (candidate_any W z _ _ HW.out H2.out (by omega) g2).mono ?_
                  rintro e w4 ⟨rfl, hb4⟩
                  go_wp2_with fail
                  go_roundw
                  case measure => simp [intOf]; omega
                  case rel => exact ⟨_, rfl, by omega, below_step hk9.2 hb4, HS2⟩
              · have HF := Lib.hid (HN.out _ (HS.out.found g2 he))
                have h4 : holdsB W z v = !holdsB W z (v - 1) := by cases h8 : holdsB W z v <;> cases h9 : holdsB W z (v - 1) <;> simp_all
                have HC1 := Lib.hid (fun (w : World) => h4 ▸ refHolds_any W z v w)
                have HC2 := Lib.hid (fun (w : World) => refHolds_any W z (v - 1) w)
                clear he h4
                generalize holdsB W z (v - 1) = b9 at *
                cases b9
                all_goals
                  go_wp2_with fail
                  (refine wp_region_kept W0 (by kernel_rfl) (by kernel_rfl) (by assumption) ?_; (repeat (go_big_quiet_step ((first | (go_at_call 37; exact kept_call ((by first | with_reducible exact HC1.out _ | with_reducible exact HC2.out _))))))); refine wpQuiet_nil ?_; intro _ hw'; obtain ⟨x9, hw''⟩ := hw'; subst hw''; have hk9 := after_kept x9; generalize after x9 = w9 at *)
                  obtain ⟨hc9, hf9⟩ := bcell hk9.2
                  go_wp2_with fail
                  go_ret
                  exact ⟨ret_int HF.out.symm, below_step hb0 hk9.2⟩
            · have HX := Lib.hid (HN.out _ (next_calm HW.out H2.out hu0 hu2 (e := v) (fun x a b d => HS.out.no x a (by omega) d) (by omega)))
              have HCH := Lib.hid (fun (w : World) => refHolds_any W z (W.to - 1) w)
              generalize holdsB W z (W.to - 1) = b9 at *
              have hg2 : u + 21600 < v ∨ (v ≤ u + 21600 ∧ 268435456 < v) := by omega
              clear hg
              have hto : decide (u < W.to) = true ∨ decide (u < W.to) = false := by cases decide (u < W.to) <;> simp
              rcases hg2 with g1 | ⟨g1, g2⟩
              all_goals rcases hto with hto | hto
              all_goals cases b9
              all_goals
                go_wp2_with (go_at_call 37; refine (HCH.out _).mono ?_; rintro e w4 ⟨rfl, hb4⟩; obtain ⟨hc4, hf4⟩ := bcell hb4; have hz4 := hb4.size; have hbw4 := below_step hbw hb4; have hc5 := (bcell hbw4).1)
                go_ret
                exact ⟨ret_int (by rw [HX.out, hto]; rfl), by first | exact below_step hb0 hbw4 | exact below_step hb0 hbw⟩

end Go.Proofs.YtpknjblgbpndlaaDoor
