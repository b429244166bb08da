/-
  Walks: the reference's windows: Valid, Day, Holds.
-/
import Derived.Test.YtpknjblgbpndlaaDoorWRefC2
import Derived.Test.YtpknjblgbpndlaaDoorWWin4
namespace Go.Proofs.YtpknjblgbpndlaaDoor
open Go.RowKit Go.Lib
set_option linter.unusedVariables false

set_option maxRecDepth 100000 in
set_option maxHeartbeats 1600000 in
theorem refValid_any (W : WinR) (w : World) :
    Calls Tryd.prog 35 #[.agg #[.int .i64 W.dy, .int .i64 W.st, .int .i64 W.en, .int .i64 W.fr, .int .i64 W.to]] w fun e w' => e = .returned (.int .i64 (winE W)) ∧ Below w.heap.size w w' := by
  cases htf : timeB W.fr with
  | false =>
    have HT := Lib.hid htf
    have hn : W.fr < 0 ∨ 268435456 < W.fr := by
      apply Classical.byContradiction
      intro hc
      rw [timeB_iff.2 (by omega)] at htf
      cases htf
    have HN := Lib.hid (winE_no (W := W) (by rintro ⟨_, _, _, _, _, _, _, _, _⟩; omega))
    clear htf hn
    go_enter Tryd.func35, Tryd.ntmps35
    go_wp2_with (go_at_call 52; refine (refRight_any _ _).mono ?_; rintro e w' ⟨rfl, rfl⟩; rw [HT.out])
    all_goals go_ret
    all_goals exact ⟨ret_int HN.out.symm, below_alloc (Below.refl _ _) _⟩
  | true =>
    have HT := Lib.hid htf
    obtain ⟨f0, f1⟩ := timeB_iff.1 htf
    clear htf
    go_enter Tryd.func35, Tryd.ntmps35
    go_wp2_with (go_at_call 52; refine (refRight_any _ _).mono ?_; rintro e w' ⟨rfl, rfl⟩; rw [HT.out])
    all_goals go_ret
    all_goals first
      | exact ⟨ret_int (winE_no (by rintro ⟨_, _, _, _, _, _, _, _, _⟩; (try simp at *); omega)).symm, below_alloc (Below.refl _ _) _⟩
      | exact ⟨ret_int (winE_ok (by constructor <;> ((try simp at *); omega))).symm, below_alloc (Below.refl _ _) _⟩

set_option maxRecDepth 100000 in
set_option maxHeartbeats 1600000 in
theorem refDay_any (dy s e y mo d wd m : Int) (w : World) (d0 : 0 ≤ dy) (d1 : dy ≤ 127) (hwd1 : 1 ≤ wd) (hwd2 : wd ≤ 7) :
    Calls Tryd.prog 55 #[.int .i64 dy, .int .i64 s, .int .i64 e, .agg #[.int .i64 y, .int .i64 mo, .int .i64 d, .int .i64 wd, .int .i64 m]] w
      fun e' w' => e' = .returned (.bool (dayB dy s e wd m)) ∧ Below w.heap.size w w' := by
  generalize hb1 : onB dy wd = b1 at *
  generalize hb2 : onB dy ((wd + 5) % 7 + 1) = b2 at *
  have HB1 := Lib.hid hb1
  have HB2 := Lib.hid hb2
  have HD : Hid (dayB dy s e wd m = if s = e then b1 else if s < e then b1 && (decide (s ≤ m) && decide (m < e)) else (b1 && decide (s ≤ m)) || (b2 && decide (m < e))) := by
    unfold Hid dayB; rw [hb1, hb2]
  clear hb1 hb2
  rcases Int.lt_trichotomy s e with c | c | c
  · have c2 : (s == e) = false := by simp; omega
    cases b1
    all_goals
      go_enter Tryd.func55, Tryd.ntmps55
      go_wp2_with (go_at_call 70; refine (refOn_any _ _ _ d0 d1 (by omega) (by omega)).mono ?_; rintro e' w' ⟨rfl, rfl⟩; rw [HB1.out])
      all_goals go_ret
      all_goals exact ⟨ret_bool (by rw [HD.out, if_neg (by omega), if_pos c]; simp; try omega), below_alloc (Below.refl _ _) _⟩
  · subst c
    go_enter Tryd.func55, Tryd.ntmps55
    go_wp2_with (go_at_call 70; refine (refOn_any _ _ _ d0 d1 (by omega) (by omega)).mono ?_; rintro e' w' ⟨rfl, rfl⟩; rw [HB1.out])
    all_goals go_ret
    all_goals exact ⟨ret_bool (by rw [HD.out]; simp), below_alloc (Below.refl _ _) _⟩
  · have c2 : (s == e) = false := by simp; omega
    have c3 : ¬ s < e := by omega
    have c4 : ¬ s = e := by omega
    have HD2 : Hid (dayB dy s e wd m = ((b1 && decide (s ≤ m)) || (b2 && decide (m < e)))) := by unfold Hid; rw [HD.out, if_neg c4, if_neg c3]
    clear c c4 HD
    cases b1
    all_goals cases b2
    all_goals
      go_enter Tryd.func55, Tryd.ntmps55
      go_wp2_with (go_at_call 70; refine (refOn_any _ _ _ d0 d1 (by omega) (by omega)).mono ?_; rintro e' w' ⟨rfl, rfl⟩; first | rw [HB1.out] | rw [HB2.out])
      all_goals go_ret
      all_goals exact ⟨ret_bool (by rw [HD2.out]; simp; try omega), below_alloc (Below.refl _ _) _⟩

set_option maxRecDepth 100000 in
set_option maxHeartbeats 3200000 in
theorem refHolds_any (W : WinR) (z : ZoneR) (t : Int) (w : World) :
    Calls Tryd.prog 37 #[.agg #[.int .i64 W.dy, .int .i64 W.st, .int .i64 W.en, .int .i64 W.fr, .int .i64 W.to], .agg #[.int .i64 z.off, .bool z.sum], .int .i64 t] w
      fun e w' => e = .returned (.bool (holdsB W z t)) ∧ Below w.heap.size w w' := by
  have HE : Hid (holdsB W z t = (winB W && zoneB z && timeB t && inB W t && patB W z t)) := rfl
  have hbw := Below.refl w.heap.size w
  cases hW : winB W with
  | false =>
    have H1 := Lib.hid (winE_false hW)
    rw [hW] at HE
    clear hW
    go_enter Tryd.func37, Tryd.ntmps37
    go_wp2_with (go_at_call 35; refine (refValid_any W _).mono ?_; rintro e w' ⟨rfl, hb⟩; obtain ⟨hc, hf⟩ := bcell hb; have hz := hb.size; (try simp only [World.size_alloc, Nat.add_one_le_iff] at hz); (try (have hz0 : w.heap.size < w'.heap.size := by omega)); (try (have hz1 : w.heap.size + 1 < w'.heap.size := by omega)); (try (have hz2 : w.heap.size < w'.heap.size := by omega)); replace hbw := below_step (w := w) (by repeat (first | exact hbw | refine below_alloc ?_ _ | refine below_drew ?_ | refine below_drewN ?_ _ | (refine below_set ?_ ?_ _; rotate_left; (first | exact Nat.le_refl _ | (simp only [World.size_alloc]; omega) | omega)))) hb; clear hb; rw [H1.out])
    go_ret
    exact ⟨ret_bool (by rw [HE.out]; simp), by repeat (first | exact hbw | refine below_alloc ?_ _)⟩
  | true =>
    have H1 := Lib.hid (winE_true hW)
    have HW := Lib.hid hW
    rw [hW] at HE
    clear hW
    cases hz : zoneB z with
    | false =>
      have H2 := Lib.hid hz
      rw [hz] at HE
      clear hz
      go_enter Tryd.func37, Tryd.ntmps37
      go_wp2_with (first | (go_at_call 35; refine (refValid_any W _).mono ?_; rintro e w' ⟨rfl, hb⟩; obtain ⟨hc, hf⟩ := bcell hb; have hz := hb.size; (try simp only [World.size_alloc, Nat.add_one_le_iff] at hz); (try (have hz0 : w.heap.size < w'.heap.size := by omega)); (try (have hz1 : w.heap.size + 1 < w'.heap.size := by omega)); (try (have hz2 : w.heap.size < w'.heap.size := by omega)); replace hbw := below_step (w := w) (by repeat (first | exact hbw | refine below_alloc ?_ _ | refine below_drew ?_ | refine below_drewN ?_ _ | (refine below_set ?_ ?_ _; rotate_left; (first | exact Nat.le_refl _ | (simp only [World.size_alloc]; omega) | omega)))) hb; clear hb; rw [H1.out]) | (go_at_call 53; refine (refZone_any z _).mono ?_; rintro e w' ⟨rfl, hb⟩; obtain ⟨hc, hf⟩ := bcell hb; have hz := hb.size; (try simp only [World.size_alloc, Nat.add_one_le_iff] at hz); (try (have hz0 : w.heap.size < w'.heap.size := by omega)); (try (have hz1 : w.heap.size + 1 < w'.heap.size := by omega)); (try (have hz2 : w.heap.size < w'.heap.size := by omega)); replace hbw := below_step (w := w) (by repeat (first | exact hbw | refine below_alloc ?_ _ | refine below_drew ?_ | refine below_drewN ?_ _ | (refine below_set ?_ ?_ _; rotate_left; (first | exact Nat.le_refl _ | (simp only [World.size_alloc]; omega) | omega)))) hb; clear hb; rw [H2.out]))
      go_ret
      exact ⟨ret_bool (by rw [HE.out]; simp), by repeat (first | exact hbw | refine below_alloc ?_ _)⟩
    | true =>
      have H2 := Lib.hid hz
      rw [hz] at HE
      clear hz
      cases ht : timeB t with
      | false =>
        have H3 := Lib.hid ht
        rw [ht] at HE
        clear ht
        go_enter Tryd.func37, Tryd.ntmps37
        go_wp2_with (first | (go_at_call 35; refine (refValid_any W _).mono ?_; rintro e w' ⟨rfl, hb⟩; obtain ⟨hc, hf⟩ := bcell hb; have hz := hb.size; (try simp only [World.size_alloc, Nat.add_one_le_iff] at hz); (try (have hz0 : w.heap.size < w'.heap.size := by omega)); (try (have hz1 : w.heap.size + 1 < w'.heap.size := by omega)); (try (have hz2 : w.heap.size < w'.heap.size := by omega)); replace hbw := below_step (w := w) (by repeat (first | exact hbw | refine below_alloc ?_ _ | refine below_drew ?_ | refine below_drewN ?_ _ | (refine below_set ?_ ?_ _; rotate_left; (first | exact Nat.le_refl _ | (simp only [World.size_alloc]; omega) | omega)))) hb; clear hb; rw [H1.out]) | (go_at_call 53; refine (refZone_any z _).mono ?_; rintro e w' ⟨rfl, hb⟩; obtain ⟨hc, hf⟩ := bcell hb; have hz := hb.size; (try simp only [World.size_alloc, Nat.add_one_le_iff] at hz); (try (have hz0 : w.heap.size < w'.heap.size := by omega)); (try (have hz1 : w.heap.size + 1 < w'.heap.size := by omega)); (try (have hz2 : w.heap.size < w'.heap.size := by omega)); replace hbw := below_step (w := w) (by repeat (first | exact hbw | refine below_alloc ?_ _ | refine below_drew ?_ | refine below_drewN ?_ _ | (refine below_set ?_ ?_ _; rotate_left; (first | exact Nat.le_refl _ | (simp only [World.size_alloc]; omega) | omega)))) hb; clear hb; rw [H2.out]) | (go_at_call 52; refine (refRight_any _ _).mono ?_; rintro e w' ⟨rfl, rfl⟩; rw [H3.out]))
        go_ret
        exact ⟨ret_bool (by rw [HE.out]; simp), by repeat (first | exact hbw | refine below_alloc ?_ _)⟩
      | true =>
        have H3 := Lib.hid ht
        obtain ⟨t0, t1⟩ := timeB_iff.1 ht
        rw [ht] at HE
        clear ht
        have ok := winB_iff.1 HW.out
        obtain ⟨d0, d1, s0, s1, e0, e1, f0, f1, ht2⟩ := ok
        cases hi : inB W t with
        | false =>
          have hn := inB_no hi (by omega)
          rw [hi] at HE
          clear hi
          rcases hn with h | ⟨h1, h2, h3⟩
          · go_enter Tryd.func37, Tryd.ntmps37
            go_wp2_with (first | (go_at_call 35; refine (refValid_any W _).mono ?_; rintro e w' ⟨rfl, hb⟩; obtain ⟨hc, hf⟩ := bcell hb; have hz := hb.size; (try simp only [World.size_alloc, Nat.add_one_le_iff] at hz); (try (have hz0 : w.heap.size < w'.heap.size := by omega)); (try (have hz1 : w.heap.size + 1 < w'.heap.size := by omega)); (try (have hz2 : w.heap.size < w'.heap.size := by omega)); replace hbw := below_step (w := w) (by repeat (first | exact hbw | refine below_alloc ?_ _ | refine below_drew ?_ | refine below_drewN ?_ _ | (refine below_set ?_ ?_ _; rotate_left; (first | exact Nat.le_refl _ | (simp only [World.size_alloc]; omega) | omega)))) hb; clear hb; rw [H1.out]) | (go_at_call 53; refine (refZone_any z _).mono ?_; rintro e w' ⟨rfl, hb⟩; obtain ⟨hc, hf⟩ := bcell hb; have hz := hb.size; (try simp only [World.size_alloc, Nat.add_one_le_iff] at hz); (try (have hz0 : w.heap.size < w'.heap.size := by omega)); (try (have hz1 : w.heap.size + 1 < w'.heap.size := by omega)); (try (have hz2 : w.heap.size < w'.heap.size := by omega)); replace hbw := below_step (w := w) (by repeat (first | exact hbw | refine below_alloc ?_ _ | refine below_drew ?_ | refine below_drewN ?_ _ | (refine below_set ?_ ?_ _; rotate_left; (first | exact Nat.le_refl _ | (simp only [World.size_alloc]; omega) | omega)))) hb; clear hb; rw [H2.out]) | (go_at_call 52; refine (refRight_any _ _).mono ?_; rintro e w' ⟨rfl, rfl⟩; rw [H3.out]))
            go_ret
            exact ⟨ret_bool (by rw [HE.out]; simp), by repeat (first | exact hbw | refine below_alloc ?_ _)⟩
          · have e9 : (W.to != -1) = true := by simp; omega
            go_enter Tryd.func37, Tryd.ntmps37
            go_wp2_with (first | (go_at_call 35; refine (refValid_any W _).mono ?_; rintro e w' ⟨rfl, hb⟩; obtain ⟨hc, hf⟩ := bcell hb; have hz := hb.size; (try simp only [World.size_alloc, Nat.add_one_le_iff] at hz); (try (have hz0 : w.heap.size < w'.heap.size := by omega)); (try (have hz1 : w.heap.size + 1 < w'.heap.size := by omega)); (try (have hz2 : w.heap.size < w'.heap.size := by omega)); replace hbw := below_step (w := w) (by repeat (first | exact hbw | refine below_alloc ?_ _ | refine below_drew ?_ | refine below_drewN ?_ _ | (refine below_set ?_ ?_ _; rotate_left; (first | exact Nat.le_refl _ | (simp only [World.size_alloc]; omega) | omega)))) hb; clear hb; rw [H1.out]) | (go_at_call 53; refine (refZone_any z _).mono ?_; rintro e w' ⟨rfl, hb⟩; obtain ⟨hc, hf⟩ := bcell hb; have hz := hb.size; (try simp only [World.size_alloc, Nat.add_one_le_iff] at hz); (try (have hz0 : w.heap.size < w'.heap.size := by omega)); (try (have hz1 : w.heap.size + 1 < w'.heap.size := by omega)); (try (have hz2 : w.heap.size < w'.heap.size := by omega)); replace hbw := below_step (w := w) (by repeat (first | exact hbw | refine below_alloc ?_ _ | refine below_drew ?_ | refine below_drewN ?_ _ | (refine below_set ?_ ?_ _; rotate_left; (first | exact Nat.le_refl _ | (simp only [World.size_alloc]; omega) | omega)))) hb; clear hb; rw [H2.out]) | (go_at_call 52; refine (refRight_any _ _).mono ?_; rintro e w' ⟨rfl, rfl⟩; rw [H3.out]))
            go_ret
            exact ⟨ret_bool (by rw [HE.out]; simp), by repeat (first | exact hbw | refine below_alloc ?_ _)⟩
        | true =>
          obtain ⟨h1, h2⟩ := inB_iff.1 hi
          rw [hi] at HE
          have HP : Hid (patB W z t = dayB W.dy W.st W.en (wdF ((t + offF z t) / 1440)) ((t + offF z t) % 1440)) := rfl
          have HL := Lib.hid (fun (w : World) => refLocal_any z t w H2.out t0 t1)
          have hwd := wdF_rng ((t + offF z t) / 1440)
          generalize wdF ((t + offF z t) / 1440) = wd at *
          generalize (t + offF z t) % 1440 = m at *
          have hto : ((W.to != -1) = false) ∨ ((W.to != -1) = true ∧ t < W.to) := by
            by_cases h : W.to = -1
            · exact .inl (by simp [h])
            · exact .inr ⟨by simpa using h, by omega⟩
          clear hi h2 ht2
          rcases hto with g | ⟨g, g2⟩
          all_goals
            go_enter Tryd.func37, Tryd.ntmps37
            go_wp2_with (first | (go_at_call 35; refine (refValid_any W _).mono ?_; rintro e w' ⟨rfl, hb⟩; obtain ⟨hc, hf⟩ := bcell hb; have hz := hb.size; (try simp only [World.size_alloc, Nat.add_one_le_iff] at hz); (try (have hz0 : w.heap.size < w'.heap.size := by omega)); (try (have hz1 : w.heap.size + 1 < w'.heap.size := by omega)); (try (have hz2 : w.heap.size < w'.heap.size := by omega)); replace hbw := below_step (w := w) (by repeat (first | exact hbw | refine below_alloc ?_ _ | refine below_drew ?_ | refine below_drewN ?_ _ | (refine below_set ?_ ?_ _; rotate_left; (first | exact Nat.le_refl _ | (simp only [World.size_alloc]; omega) | omega)))) hb; clear hb; rw [H1.out]) | (go_at_call 53; refine (refZone_any z _).mono ?_; rintro e w' ⟨rfl, hb⟩; obtain ⟨hc, hf⟩ := bcell hb; have hz := hb.size; (try simp only [World.size_alloc, Nat.add_one_le_iff] at hz); (try (have hz0 : w.heap.size < w'.heap.size := by omega)); (try (have hz1 : w.heap.size + 1 < w'.heap.size := by omega)); (try (have hz2 : w.heap.size < w'.heap.size := by omega)); replace hbw := below_step (w := w) (by repeat (first | exact hbw | refine below_alloc ?_ _ | refine below_drew ?_ | refine below_drewN ?_ _ | (refine below_set ?_ ?_ _; rotate_left; (first | exact Nat.le_refl _ | (simp only [World.size_alloc]; omega) | omega)))) hb; clear hb; rw [H2.out]) | (go_at_call 52; refine (refRight_any _ _).mono ?_; rintro e w' ⟨rfl, rfl⟩; rw [H3.out]) | (go_at_call 54; refine (HL.out _).mono ?_; rintro e w' ⟨⟨y, mo, d, rfl⟩, hb⟩; obtain ⟨hc, hf⟩ := bcell hb; have hz := hb.size; (try simp only [World.size_alloc, Nat.add_one_le_iff] at hz); (try (have hz0 : w.heap.size < w'.heap.size := by omega)); (try (have hz1 : w.heap.size + 1 < w'.heap.size := by omega)); (try (have hz2 : w.heap.size < w'.heap.size := by omega)); replace hbw := below_step (w := w) (by repeat (first | exact hbw | refine below_alloc ?_ _ | refine below_drew ?_ | refine below_drewN ?_ _ | (refine below_set ?_ ?_ _; rotate_left; (first | exact Nat.le_refl _ | (simp only [World.size_alloc]; omega) | omega)))) hb; clear hb) | (go_at_call 55; refine (refDay_any _ _ _ _ _ _ _ _ _ d0 d1 (by omega) (by omega)).mono ?_; rintro e w' ⟨rfl, hb⟩; obtain ⟨hc, hf⟩ := bcell hb; have hz := hb.size; (try simp only [World.size_alloc, Nat.add_one_le_iff] at hz); (try (have hz0 : w.heap.size < w'.heap.size := by omega)); (try (have hz1 : w.heap.size + 1 < w'.heap.size := by omega)); (try (have hz2 : w.heap.size < w'.heap.size := by omega)); replace hbw := below_step (w := w) (by repeat (first | exact hbw | refine below_alloc ?_ _ | refine below_drew ?_ | refine below_drewN ?_ _ | (refine below_set ?_ ?_ _; rotate_left; (first | exact Nat.le_refl _ | (simp only [World.size_alloc]; omega) | omega)))) hb; clear hb))
            go_ret
            exact ⟨ret_bool (by rw [HE.out, HP.out]; simp), by repeat (first | exact hbw | refine below_set ?_ (by simp; omega) _ | refine below_alloc ?_ _)⟩

end Go.Proofs.YtpknjblgbpndlaaDoor
