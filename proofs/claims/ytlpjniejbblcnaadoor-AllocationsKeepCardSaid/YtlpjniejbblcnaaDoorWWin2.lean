/-
  Walks: holds of package window.
-/
import Derived.Test.YtlpjniejbblcnaaDoorWWin1
namespace Go.Proofs.YtlpjniejbblcnaaDoor
open Go.RowKit Go.Lib
set_option linter.unusedVariables false

set_option maxRecDepth 100000 in
set_option maxHeartbeats 800000 in
theorem onDay_any (d s e f t wd : Int) (w : World) (h0 : 0 ≤ d) (h1 : d ≤ 127) (h2 : 1 ≤ wd) (h3 : wd ≤ 7) :
    Calls Tryd.prog 92 #[.agg #[.int .i64 d, .int .i64 s, .int .i64 e, .int .i64 f, .int .i64 t], .int .i64 wd] w fun e w' => e = .returned (.bool (onB d wd)) ∧ Below w.heap.size w w' := by
  by_cases hd : d = 0
  · subst hd
    go_enter Tryd.func92, Tryd.ntmps92
    go_wp2
    go_ret
    exact ⟨rfl, below_alloc (Below.refl _ _) _⟩
  · have hd1 : (d == 0) = false := by simpa using hd
    have HO : Hid (onB d wd = (d == 0 || d / 2 ^ (wd - 1).toNat % 2 == 1)) := rfl
    clear hd
    have hw : wd = 1 ∨ wd = 2 ∨ wd = 3 ∨ wd = 4 ∨ wd = 5 ∨ wd = 6 ∨ wd = 7 := by omega
    clear h2 h3
    rcases hw with rfl | rfl | rfl | rfl | rfl | rfl | rfl
    all_goals
      go_enter Tryd.func92, Tryd.ntmps92
      go_wp2
      go_ret
      exact ⟨ret_bool (by rw [HO.out, hd1, bits_and1 _ (by omega) (by omega)]; first | rfl | simp), below_alloc (Below.refl _ _) _⟩

/-- a time outside of the window -/
theorem inB_no {W : WinR} {t : Int} (h : inB W t = false) (ht : W.to = -1 ∨ 0 ≤ W.to) : t < W.fr ∨ (W.fr ≤ t ∧ 0 ≤ W.to ∧ W.to ≤ t) := by
  apply Classical.byContradiction
  intro hn
  have : inB W t = true := inB_iff.2 (by omega)
  rw [h] at this; cases this

set_option maxRecDepth 100000 in
set_option maxHeartbeats 3200000 in
theorem holds_out (W : WinR) (z : ZoneR) (t : Int) (w : World) (hW : winB W = true) (hi : inB W t = false) :
    Calls Tryd.prog 81 #[.agg #[.int .i64 W.dy, .int .i64 W.st, .int .i64 W.en, .int .i64 W.fr, .int .i64 W.to], .agg #[.int .i64 z.off, .bool z.sum], .int .i64 t] w
      fun e w' => e = .returned (.bool (holdsB W z t)) ∧ Below w.heap.size w w' := by
  have HF := Lib.hid (holdsB_out (z := z) hi)
  have ok := winB_iff.1 hW
  have hn := inB_no hi (by have := ok.t; have := ok.f0; omega)
  clear hW hi ok
  rcases hn with h | ⟨h1, h2, h3⟩
  all_goals
    go_enter Tryd.func81, Tryd.ntmps81
    go_wp2
    go_ret
    exact ⟨ret_bool HF.out.symm, by repeat (first | exact Below.refl _ _ | refine below_alloc ?_ _)⟩

set_option maxRecDepth 100000 in
set_option maxHeartbeats 3200000 in
theorem holds_bad (W : WinR) (z : ZoneR) (t : Int) (w : World) (hW : winB W = true) (hi : inB W t = true) (hz : zoneB z = false ∨ (zoneB z = true ∧ timeB t = false)) :
    Calls Tryd.prog 81 #[.agg #[.int .i64 W.dy, .int .i64 W.st, .int .i64 W.en, .int .i64 W.fr, .int .i64 W.to], .agg #[.int .i64 z.off, .bool z.sum], .int .i64 t] w
      fun e w' => e = .returned (.bool (holdsB W z t)) ∧ Below w.heap.size w w' := by
  have HF : Hid (holdsB W z t = false) := by
    unfold Hid holdsB
    rcases hz with h | ⟨_, h⟩
    · rw [h]; simp
    · rw [h]; simp
  have HZ := Lib.hid hz
  obtain ⟨h1, h2⟩ := inB_iff.1 hi
  have ok := winB_iff.1 hW
  have ht := ok.t
  have hf0 := ok.f0
  have hbw := Below.refl w.heap.size w
  clear hW hi ok hz
  rcases h2 with h2 | h2
  · have e0 : ¬ (0 ≤ W.to) := by omega
    rcases HZ.out with h | ⟨hz1, h⟩
    · have HB := Lib.hid h
      clear h HZ
      go_enter Tryd.func81, Tryd.ntmps81
      go_wp2_with ((go_at_call 91; refine (local_zone z t _ HB.out).mono ?_; rintro e w' ⟨rfl, hb⟩; obtain ⟨hc, hf⟩ := bcell hb; have hz := hb.size; (try simp only [World.size_alloc, Nat.add_one_le_iff] at hz); (try (have hz0 : w.heap.size < w'.heap.size := by omega)); (try (have hz1 : w.heap.size + 1 < w'.heap.size := by omega)); (try (have hz2 : w.heap.size < w'.heap.size := by omega)); replace hbw := below_step (w := w) (by repeat (first | exact hbw | refine below_alloc ?_ _ | refine below_drew ?_ | refine below_drewN ?_ _ | (refine below_set ?_ ?_ _; rotate_left; (first | exact Nat.le_refl _ | (simp only [World.size_alloc]; omega) | omega)))) hb; clear hb))
      go_ret
      exact ⟨ret_bool HF.out.symm, by repeat (first | exact hbw | refine below_set ?_ (by simp; omega) _ | refine below_alloc ?_ _ | refine below_drewN ?_ _)⟩
    · have HB := Lib.hid (And.intro hz1 h)
      clear h HZ hz1
      go_enter Tryd.func81, Tryd.ntmps81
      go_wp2_with ((go_at_call 91; refine (local_time z t _ HB.out.1 HB.out.2).mono ?_; rintro e w' ⟨rfl, hb⟩; obtain ⟨hc, hf⟩ := bcell hb; have hz := hb.size; (try simp only [World.size_alloc, Nat.add_one_le_iff] at hz); (try (have hz0 : w.heap.size < w'.heap.size := by omega)); (try (have hz1 : w.heap.size + 1 < w'.heap.size := by omega)); (try (have hz2 : w.heap.size < w'.heap.size := by omega)); replace hbw := below_step (w := w) (by repeat (first | exact hbw | refine below_alloc ?_ _ | refine below_drew ?_ | refine below_drewN ?_ _ | (refine below_set ?_ ?_ _; rotate_left; (first | exact Nat.le_refl _ | (simp only [World.size_alloc]; omega) | omega)))) hb; clear hb))
      go_ret
      exact ⟨ret_bool HF.out.symm, by repeat (first | exact hbw | refine below_set ?_ (by simp; omega) _ | refine below_alloc ?_ _ | refine below_drewN ?_ _)⟩
  · rcases HZ.out with h | ⟨hz1, h⟩
    · have HB := Lib.hid h
      clear h HZ
      go_enter Tryd.func81, Tryd.ntmps81
      go_wp2_with ((go_at_call 91; refine (local_zone z t _ HB.out).mono ?_; rintro e w' ⟨rfl, hb⟩; obtain ⟨hc, hf⟩ := bcell hb; have hz := hb.size; (try simp only [World.size_alloc, Nat.add_one_le_iff] at hz); (try (have hz0 : w.heap.size < w'.heap.size := by omega)); (try (have hz1 : w.heap.size + 1 < w'.heap.size := by omega)); (try (have hz2 : w.heap.size < w'.heap.size := by omega)); replace hbw := below_step (w := w) (by repeat (first | exact hbw | refine below_alloc ?_ _ | refine below_drew ?_ | refine below_drewN ?_ _ | (refine below_set ?_ ?_ _; rotate_left; (first | exact Nat.le_refl _ | (simp only [World.size_alloc]; omega) | omega)))) hb; clear hb))
      all_goals go_ret
      all_goals exact ⟨ret_bool HF.out.symm, by repeat (first | exact hbw | refine below_set ?_ (by simp; omega) _ | refine below_alloc ?_ _ | refine below_drewN ?_ _)⟩
    · have HB := Lib.hid (And.intro hz1 h)
      clear h HZ hz1
      go_enter Tryd.func81, Tryd.ntmps81
      go_wp2_with ((go_at_call 91; refine (local_time z t _ HB.out.1 HB.out.2).mono ?_; rintro e w' ⟨rfl, hb⟩; obtain ⟨hc, hf⟩ := bcell hb; have hz := hb.size; (try simp only [World.size_alloc, Nat.add_one_le_iff] at hz); (try (have hz0 : w.heap.size < w'.heap.size := by omega)); (try (have hz1 : w.heap.size + 1 < w'.heap.size := by omega)); (try (have hz2 : w.heap.size < w'.heap.size := by omega)); replace hbw := below_step (w := w) (by repeat (first | exact hbw | refine below_alloc ?_ _ | refine below_drew ?_ | refine below_drewN ?_ _ | (refine below_set ?_ ?_ _; rotate_left; (first | exact Nat.le_refl _ | (simp only [World.size_alloc]; omega) | omega)))) hb; clear hb))
      all_goals go_ret
      all_goals exact ⟨ret_bool HF.out.symm, by repeat (first | exact hbw | refine below_set ?_ (by simp; omega) _ | refine below_alloc ?_ _ | refine below_drewN ?_ _)⟩

end Go.Proofs.YtlpjniejbblcnaaDoor
