/-
  Walks: Next and Spans of package window.
-/
import Derived.Test.YtpknjblgbpndlaaDoorWWin9
import Derived.Test.YtpknjblgbpndlaaDoorWRefW3
namespace Go.Proofs.YtpknjblgbpndlaaDoor
open Go.RowKit Go.Lib Go.Maps
set_option linter.unusedVariables false

set_option maxRecDepth 100000 in
set_option maxHeartbeats 3200000 in
theorem winNext_any (W : WinR) (z : ZoneR) (t : Int) (w : World) (hv : LenV w) :
    Calls Tryd.prog 71 #[.agg #[.int .i64 W.dy, .int .i64 W.st, .int .i64 W.en, .int .i64 W.fr, .int .i64 W.to], .agg #[.int .i64 z.off, .bool z.sum], .int .i64 t] w
      fun e w' => e = .returned (.int .i64 (nextA W z t)) ∧ Below w.heap.size w w' := by
  have hbw := Below.refl w.heap.size w
  have HV := Lib.hid hv
  clear hv
  cases hW : winB W with
  | false =>
    have H1 := Lib.hid (winE_false hW)
    have HN := Lib.hid (nextA_bad (W := W) (z := z) (t := t) (by rw [hW]; rfl))
    clear hW
    go_enter Tryd.func71, Tryd.ntmps71
    go_wp2_with (go_at_call 11; refine (winValid_any W _).mono ?_; rintro e w' ⟨rfl, hb⟩; obtain ⟨hc, hf⟩ := bcell hb; have hz := hb.size; (try simp only [World.size_alloc, Nat.add_one_le_iff] at hz); (try (have hz0 : w.heap.size < w'.heap.size := by omega)); (try (have hz1 : w.heap.size + 1 < w'.heap.size := by omega)); (try (have hz2 : w.heap.size < w'.heap.size := by omega)); replace hbw := below_step (w := w) (by repeat (first | exact hbw | refine below_alloc ?_ _ | refine below_drew ?_ | refine below_drewN ?_ _ | (refine below_set ?_ ?_ _; rotate_left; (first | exact Nat.le_refl _ | (simp only [World.size_alloc]; omega) | omega)))) hb; clear hb; rw [H1.out])
    go_ret
    exact ⟨ret_int HN.out.symm, by repeat (first | exact hbw | refine below_alloc ?_ _)⟩
  | true =>
    cases hz : zoneB z with
    | false =>
      have H1 := Lib.hid (winE_true hW)
      have H2 := Lib.hid hz
      have HN := Lib.hid (nextA_bad (W := W) (z := z) (t := t) (by rw [hz]; simp))
      clear hW hz
      go_enter Tryd.func71, Tryd.ntmps71
      go_wp2_with (first | (go_at_call 11; refine (winValid_any W _).mono ?_; rintro e w' ⟨rfl, hb⟩; obtain ⟨hc, hf⟩ := bcell hb; have hz := hb.size; (try simp only [World.size_alloc, Nat.add_one_le_iff] at hz); (try (have hz0 : w.heap.size < w'.heap.size := by omega)); (try (have hz1 : w.heap.size + 1 < w'.heap.size := by omega)); (try (have hz2 : w.heap.size < w'.heap.size := by omega)); replace hbw := below_step (w := w) (by repeat (first | exact hbw | refine below_alloc ?_ _ | refine below_drew ?_ | refine below_drewN ?_ _ | (refine below_set ?_ ?_ _; rotate_left; (first | exact Nat.le_refl _ | (simp only [World.size_alloc]; omega) | omega)))) hb; clear hb; rw [H1.out]) | (go_at_call 27; refine (winZone_any z _ (HV.out.below (by repeat (first | exact hbw | refine below_alloc ?_ _ | refine below_drew ?_ | refine below_drewN ?_ _)))).mono ?_; rintro e w' ⟨rfl, hb⟩; obtain ⟨hc, hf⟩ := bcell hb; have hz := hb.size; (try simp only [World.size_alloc, Nat.add_one_le_iff] at hz); (try (have hz0 : w.heap.size < w'.heap.size := by omega)); (try (have hz1 : w.heap.size + 1 < w'.heap.size := by omega)); (try (have hz2 : w.heap.size < w'.heap.size := by omega)); replace hbw := below_step (w := w) (by repeat (first | exact hbw | refine below_alloc ?_ _ | refine below_drew ?_ | refine below_drewN ?_ _ | (refine below_set ?_ ?_ _; rotate_left; (first | exact Nat.le_refl _ | (simp only [World.size_alloc]; omega) | omega)))) hb; clear hb; rw [H2.out]))
      go_ret
      exact ⟨ret_int HN.out.symm, by repeat (first | exact hbw | refine below_alloc ?_ _)⟩
    | true =>
      have H1 := Lib.hid (winE_true hW)
      have H2 := Lib.hid hz
      have HW := Lib.hid hW
      cases ht : timeB t with
      | false =>
        have hn : t < 0 ∨ (0 ≤ t ∧ 268435456 < t) := by
          apply Classical.byContradiction
          intro hc
          rw [timeB_iff.2 (by omega)] at ht
          cases ht
        have HN := Lib.hid (nextA_bad (W := W) (z := z) (t := t) (by rw [ht]; simp))
        clear hW hz ht
        rcases hn with g | ⟨g, g2⟩
        all_goals
          go_enter Tryd.func71, Tryd.ntmps71
          go_wp2_with (first | (go_at_call 11; refine (winValid_any W _).mono ?_; rintro e w' ⟨rfl, hb⟩; obtain ⟨hc, hf⟩ := bcell hb; have hz := hb.size; (try simp only [World.size_alloc, Nat.add_one_le_iff] at hz); (try (have hz0 : w.heap.size < w'.heap.size := by omega)); (try (have hz1 : w.heap.size + 1 < w'.heap.size := by omega)); (try (have hz2 : w.heap.size < w'.heap.size := by omega)); replace hbw := below_step (w := w) (by repeat (first | exact hbw | refine below_alloc ?_ _ | refine below_drew ?_ | refine below_drewN ?_ _ | (refine below_set ?_ ?_ _; rotate_left; (first | exact Nat.le_refl _ | (simp only [World.size_alloc]; omega) | omega)))) hb; clear hb; rw [H1.out]) | (go_at_call 27; refine (winZone_any z _ (HV.out.below (by repeat (first | exact hbw | refine below_alloc ?_ _ | refine below_drew ?_ | refine below_drewN ?_ _)))).mono ?_; rintro e w' ⟨rfl, hb⟩; obtain ⟨hc, hf⟩ := bcell hb; have hz := hb.size; (try simp only [World.size_alloc, Nat.add_one_le_iff] at hz); (try (have hz0 : w.heap.size < w'.heap.size := by omega)); (try (have hz1 : w.heap.size + 1 < w'.heap.size := by omega)); (try (have hz2 : w.heap.size < w'.heap.size := by omega)); replace hbw := below_step (w := w) (by repeat (first | exact hbw | refine below_alloc ?_ _ | refine below_drew ?_ | refine below_drewN ?_ _ | (refine below_set ?_ ?_ _; rotate_left; (first | exact Nat.le_refl _ | (simp only [World.size_alloc]; omega) | omega)))) hb; clear hb; rw [H2.out]))
          go_ret
          exact ⟨ret_int HN.out.symm, by repeat (first | exact hbw | refine below_alloc ?_ _)⟩
      | true =>
        obtain ⟨t0, t1⟩ := timeB_iff.1 ht
        have HN := Lib.hid (nextA_ok hW hz ht)
        clear hW hz ht
        go_enter Tryd.func71, Tryd.ntmps71
        go_wp2_with (first | (go_at_call 11; refine (winValid_any W _).mono ?_; rintro e w' ⟨rfl, hb⟩; obtain ⟨hc, hf⟩ := bcell hb; have hz := hb.size; (try simp only [World.size_alloc, Nat.add_one_le_iff] at hz); (try (have hz0 : w.heap.size < w'.heap.size := by omega)); (try (have hz1 : w.heap.size + 1 < w'.heap.size := by omega)); (try (have hz2 : w.heap.size < w'.heap.size := by omega)); replace hbw := below_step (w := w) (by repeat (first | exact hbw | refine below_alloc ?_ _ | refine below_drew ?_ | refine below_drewN ?_ _ | (refine below_set ?_ ?_ _; rotate_left; (first | exact Nat.le_refl _ | (simp only [World.size_alloc]; omega) | omega)))) hb; clear hb; rw [H1.out]) | (go_at_call 27; refine (winZone_any z _ (HV.out.below (by repeat (first | exact hbw | refine below_alloc ?_ _ | refine below_drew ?_ | refine below_drewN ?_ _)))).mono ?_; rintro e w' ⟨rfl, hb⟩; obtain ⟨hc, hf⟩ := bcell hb; have hz := hb.size; (try simp only [World.size_alloc, Nat.add_one_le_iff] at hz); (try (have hz0 : w.heap.size < w'.heap.size := by omega)); (try (have hz1 : w.heap.size + 1 < w'.heap.size := by omega)); (try (have hz2 : w.heap.size < w'.heap.size := by omega)); replace hbw := below_step (w := w) (by repeat (first | exact hbw | refine below_alloc ?_ _ | refine below_drew ?_ | refine below_drewN ?_ _ | (refine below_set ?_ ?_ _; rotate_left; (first | exact Nat.le_refl _ | (simp only [World.size_alloc]; omega) | omega)))) hb; clear hb; rw [H2.out]) | (go_at_call 29; refine (next_any W z t _ (HV.out.below (by repeat (first | exact hbw | refine below_alloc ?_ _ | refine below_drew ?_ | refine below_drewN ?_ _))) HW.out H2.out t0 t1).mono ?_; rintro e w' ⟨rfl, hb⟩; obtain ⟨hc, hf⟩ := bcell hb; have hz := hb.size; (try simp only [World.size_alloc, Nat.add_one_le_iff] at hz); (try (have hz0 : w.heap.size < w'.heap.size := by omega)); (try (have hz1 : w.heap.size + 1 < w'.heap.size := by omega)); (try (have hz2 : w.heap.size < w'.heap.size := by omega)); replace hbw := below_step (w := w) (by repeat (first | exact hbw | refine below_alloc ?_ _ | refine below_drew ?_ | refine below_drewN ?_ _ | (refine below_set ?_ ?_ _; rotate_left; (first | exact Nat.le_refl _ | (simp only [World.size_alloc]; omega) | omega)))) hb; clear hb))
        go_ret
        exact ⟨ret_int HN.out.symm, by repeat (first | exact hbw | refine below_alloc ?_ _)⟩

theorem box3p (w : World) (cs : Array Value) (T : TypeId) (ds : Array Value) (U : TypeId) (es : Array Value) (V : TypeId) :
    ∃ W0, W0 = ((w.alloc (.cells cs T)).alloc (.cells ds U)).alloc (.cells es V) ∧ Below w.heap.size w W0 ∧ w.heap.size + 1 + 1 < W0.heap.size ∧ w.heap.size + 1 < W0.heap.size ∧ w.heap.size < W0.heap.size ∧
      (∀ j, W0.cell? ⟨w.heap.size, j, none⟩ = cs[j]?) ∧ (∀ j, W0.cell? ⟨w.heap.size + 1, j, none⟩ = ds[j]?) ∧ (∀ j, W0.cell? ⟨w.heap.size + 1 + 1, j, none⟩ = es[j]?) := by
  obtain ⟨W1, rfl, hb, h1, h0, hx, hy⟩ := box2 w cs T ds U
  have hb2 : Below ((w.alloc (.cells cs T)).alloc (.cells ds U)).heap.size ((w.alloc (.cells cs T)).alloc (.cells ds U)) (((w.alloc (.cells cs T)).alloc (.cells ds U)).alloc (.cells es V)) := (Below.refl _ _).alloc (Nat.le_refl _) _
  refine ⟨_, rfl, below_step hb hb2, by simp, by simp <;> omega, by simp <;> omega, fun j => (hb2.cell (p := ⟨w.heap.size, j, none⟩) h0).trans (hx j), fun j => (hb2.cell (p := ⟨w.heap.size + 1, j, none⟩) h1).trans (hy j), fun j => ?_⟩
  have := World.cell?_alloc_mark ((w.alloc (.cells cs T)).alloc (.cells ds U)) es V (0, 0) j
  simpa using this

def encP (p : Int × Int) : List Value := [.int .i64 p.1, .int .i64 p.2]
theorem encP_len (p : Int × Int) : (encP p).length = 2 := rfl
theorem spanInfo : (Tryd.prog.info? 28).map (fun i => (i.zero, i.size, i.bytes)) = some (some (.agg #[.int .i64 0, .int .i64 0]), 2, 16) := by kernel_rfl
/-- the error of Spans, and the spans -/
noncomputable def spansE (W : WinR) (z : ZoneR) (a b : Int) : Int :=
  if (winB W && zoneB z) = true then (if 0 ≤ a ∧ a ≤ b ∧ b ≤ 268435456 then (if (restS (holdsB W z) b a []).isSome = true then 0 else 3) else 2) else 1
noncomputable def spansL (W : WinR) (z : ZoneR) (a b : Int) : List (Int × Int) := if spansE W z a b = 0 then (restS (holdsB W z) b a []).getD [] else []
structure SpansIs (W : WinR) (z : ZoneR) (a b c : Int) (l : List (Int × Int)) : Prop where
  e : spansE W z a b = c
  l : spansL W z a b = l
theorem spans_bad {W : WinR} {z : ZoneR} {a b : Int} (h : (winB W && zoneB z) = false) : SpansIs W z a b 1 [] := by
  have e : spansE W z a b = 1 := if_neg (by rw [h]; decide)
  exact ⟨e, if_neg (by rw [e]; decide)⟩
theorem spans_range {W : WinR} {z : ZoneR} {a b : Int} (h1 : winB W = true) (h2 : zoneB z = true) (h : ¬ (0 ≤ a ∧ a ≤ b ∧ b ≤ 268435456)) : SpansIs W z a b 2 [] := by
  have e : spansE W z a b = 2 := by unfold spansE; rw [if_pos (by rw [h1, h2]; rfl), if_neg h]
  exact ⟨e, if_neg (by rw [e]; decide)⟩
theorem spans_none {W : WinR} {z : ZoneR} {a b : Int} (h1 : winB W = true) (h2 : zoneB z = true) (h : 0 ≤ a ∧ a ≤ b ∧ b ≤ 268435456) (hr : restS (holdsB W z) b a [] = none) : SpansIs W z a b 3 [] := by
  have e : spansE W z a b = 3 := by unfold spansE; rw [if_pos (by rw [h1, h2]; rfl), if_pos h, hr]; rfl
  exact ⟨e, if_neg (by rw [e]; decide)⟩
theorem spans_some {W : WinR} {z : ZoneR} {a b : Int} {l : List (Int × Int)} (h1 : winB W = true) (h2 : zoneB z = true) (h : 0 ≤ a ∧ a ≤ b ∧ b ≤ 268435456) (hr : restS (holdsB W z) b a [] = some l) : SpansIs W z a b 0 l := by
  have e : spansE W z a b = 0 := by unfold spansE; rw [if_pos (by rw [h1, h2]; rfl), if_pos h, hr]; rfl
  exact ⟨e, by unfold spansL; rw [if_pos e, hr]; rfl⟩
/-- what Spans hands back -/
def SpansPost (w : World) (W : WinR) (z : ZoneR) (a b : Int) (e : Ending) (w' : World) : Prop := ∃ v, e = .returned (.tuple #[v, .int .i64 (spansE W z a b)]) ∧ IsSl w' 2 v ((spansL W z a b).map encP) ∧ Below w.heap.size w w'
theorem SpansPost.mk {w : World} {W : WinR} {z : ZoneR} {a b c : Int} {l : List (Int × Int)} {v : Value} {w' : World} (h : SpansIs W z a b c l) (hs : IsSl w' 2 v (l.map encP)) (hb : Below w.heap.size w w') : SpansPost w W z a b (.returned (.tuple #[v, .int .i64 c])) w' :=
  ⟨v, by rw [h.e], by rw [h.l]; exact hs, hb⟩

set_option maxRecDepth 100000 in
set_option maxHeartbeats 6400000 in
theorem spans_any (W : WinR) (z : ZoneR) (a b : Int) (w : World) (hv : LenV w) :
    Calls Tryd.prog 12 #[.agg #[.int .i64 W.dy, .int .i64 W.st, .int .i64 W.en, .int .i64 W.fr, .int .i64 W.to], .agg #[.int .i64 z.off, .bool z.sum], .agg #[.int .i64 a, .int .i64 b]] w (SpansPost w W z a b) := by
  have hbw := Below.refl w.heap.size w
  have HV := Lib.hid hv
  clear hv
  cases hW : winB W with
  | false =>
    have H1 := Lib.hid (winE_false hW)
    have HN := Lib.hid (spans_bad (W := W) (z := z) (a := a) (b := b) (by rw [hW]; rfl))
    clear hW
    go_enter Tryd.func12, Tryd.ntmps12
    go_wp2_with (go_at_call 11; refine (winValid_any W _).mono ?_; rintro e w' ⟨rfl, hb⟩; obtain ⟨hc, hf⟩ := bcell hb; have hz := hb.size; (try simp only [World.size_alloc, Nat.add_one_le_iff] at hz); (try (have hz0 : w.heap.size < w'.heap.size := by omega)); (try (have hz1 : w.heap.size + 1 < w'.heap.size := by omega)); (try (have hz2 : w.heap.size < w'.heap.size := by omega)); replace hbw := below_step (w := w) (by repeat (first | exact hbw | refine below_alloc ?_ _ | refine below_drew ?_ | refine below_drewN ?_ _ | (refine below_set ?_ ?_ _; rotate_left; (first | exact Nat.le_refl _ | (simp only [World.size_alloc]; omega) | omega)))) hb; clear hb; rw [H1.out])
    go_ret2
    exact SpansPost.mk HN.out (IsSl.nil _ _) (by repeat (first | exact hbw | refine below_alloc ?_ _))
  | true =>
    cases hz : zoneB z with
    | false =>
      have H1 := Lib.hid (winE_true hW)
      have H2 := Lib.hid hz
      have HN := Lib.hid (spans_bad (W := W) (z := z) (a := a) (b := b) (by rw [hz]; simp))
      clear hW hz
      go_enter Tryd.func12, Tryd.ntmps12
      go_wp2_with (first | (go_at_call 11; refine (winValid_any W _).mono ?_; rintro e w' ⟨rfl, hb⟩; obtain ⟨hc, hf⟩ := bcell hb; have hz := hb.size; (try simp only [World.size_alloc, Nat.add_one_le_iff] at hz); (try (have hz0 : w.heap.size < w'.heap.size := by omega)); (try (have hz1 : w.heap.size + 1 < w'.heap.size := by omega)); (try (have hz2 : w.heap.size < w'.heap.size := by omega)); replace hbw := below_step (w := w) (by repeat (first | exact hbw | refine below_alloc ?_ _ | refine below_drew ?_ | refine below_drewN ?_ _ | (refine below_set ?_ ?_ _; rotate_left; (first | exact Nat.le_refl _ | (simp only [World.size_alloc]; omega) | omega)))) hb; clear hb; rw [H1.out]) | (go_at_call 27; refine (winZone_any z _ (HV.out.below (by repeat (first | exact hbw | refine below_alloc ?_ _ | refine below_drew ?_ | refine below_drewN ?_ _)))).mono ?_; rintro e w' ⟨rfl, hb⟩; obtain ⟨hc, hf⟩ := bcell hb; have hz := hb.size; (try simp only [World.size_alloc, Nat.add_one_le_iff] at hz); (try (have hz0 : w.heap.size < w'.heap.size := by omega)); (try (have hz1 : w.heap.size + 1 < w'.heap.size := by omega)); (try (have hz2 : w.heap.size < w'.heap.size := by omega)); replace hbw := below_step (w := w) (by repeat (first | exact hbw | refine below_alloc ?_ _ | refine below_drew ?_ | refine below_drewN ?_ _ | (refine below_set ?_ ?_ _; rotate_left; (first | exact Nat.le_refl _ | (simp only [World.size_alloc]; omega) | omega)))) hb; clear hb; rw [H2.out]))
      go_ret2
      exact SpansPost.mk HN.out (IsSl.nil _ _) (by repeat (first | exact hbw | refine below_alloc ?_ _))
    | true =>
      have H1 := Lib.hid (winE_true hW)
      have H2 := Lib.hid hz
      have HW := Lib.hid hW
      by_cases hr : 0 ≤ a ∧ a ≤ b ∧ b ≤ 268435456
      · have HS1 := Lib.hid (fun h => spans_none hW hz hr h)
        have HS2 := Lib.hid (fun l h => spans_some (l := l) hW hz hr h)
        obtain ⟨a0, ab, b1⟩ := hr
        clear hW hz hbw
        obtain ⟨i1, hi, hz0, hz1, hz2⟩ := info_parts spanInfo
        obtain ⟨W0, hW0, hb0, hg2, hg1, hg0, hx0, hy0, hs0⟩ := box3p w #[.int .i64 W.dy, .int .i64 W.st, .int .i64 W.en, .int .i64 W.fr, .int .i64 W.to] 24 #[.int .i64 z.off, .bool z.sum] 26 #[.int .i64 a, .int .i64 b] 28
        have HV0 := Lib.hid (HV.out.below hb0)
        go_enter Tryd.func12, Tryd.ntmps12
        go_wp2_with fail
        rw [← hW0]
        clear hW0
        refine (winValid_any W _).mono ?_
        rintro e w1 ⟨rfl, hb1⟩
        rw [H1.out]
        obtain ⟨hc, hf⟩ := bcell hb1
        go_wp2_with fail
        refine (winZone_any z _ (HV0.out.below hb1)).mono ?_
        rintro e w2 ⟨rfl, hb2⟩
        rw [H2.out]
        have hbw := below_step hb1 hb2
        clear hc hf hb1 hb2
        obtain ⟨hc, hf⟩ := bcell hbw
        go_wp2_with fail
        refine (holds_any W z a _ (HV0.out.below hbw) HW.out).mono ?_
        rintro e w3 ⟨rfl, hb3⟩
        replace hbw := below_step hbw hb3
        clear hc hf hb3
        obtain ⟨hc, hf⟩ := bcell hbw
        go_wp2_with fail
        go_loopw [8, 9, 10] (fun v o t wr => ∃ (acc : List (Int × Int)) (x : Int) (q : Bool), o = .bool q ∧ t = .int .i64 x ∧ a ≤ x ∧ x ≤ b ∧ acc.length ≤ 512 ∧ Hid (x < b → q = holdsB W z x) ∧ Below W0.heap.size W0 wr ∧ wr.ownsRow W0.heap.size 28 2 v acc.length (acc.flatMap encP) ∧ Hid (restS (holdsB W z) b a [] = restS (holdsB W z) b x acc)) (fun _ _ t _ => (b - intOf t).toNat)
        case atStart => exact ⟨[], a, _, rfl, rfl, by omega, by omega, by simp, fun _ => rfl, hbw, World.ownsRow_nil _ _ _ _, rfl⟩
        case round =>
          clear hbw hc hf
          obtain ⟨acc, x, q, rfl, rfl, x0, x1, hal, HQ, hbw, hown, HR⟩ := hrel
          obtain ⟨hc, hf⟩ := bcell hbw
          obtain ⟨A, cap, rfl⟩ := own_shape hown
          by_cases hlt : x < b
          · have hst := restS_step (H := holdsB W z) (l := acc) (show -1 ≤ x by omega) hlt
            have htr := toF_rng (H := holdsB W z) (show -1 ≤ x by omega) hlt
            have HT := Lib.hid (toF_turn (H := holdsB W z) (b := b) (t := x) (by omega))
            have hq := HQ.out hlt
            rw [← hq] at hst HT
            rw [← HR.out] at hst
            have HST := Lib.hid hst
            have HTF : Hid (toF (holdsB W z) b x = if nextF (holdsB W z) x < 0 ∨ b < nextF (holdsB W z) x then b else nextF (holdsB W z) x) := rfl
            have hnr := nextF_rng (holdsB W z) (show -1 ≤ x by omega)
            have HNX := Lib.hid (fun (w : World) (h : LenV w) => next_any W z x w h HW.out H2.out (by omega) (by omega))
            generalize hTT : toF (holdsB W z) b x = tt at *
            generalize nextF (holdsB W z) x = r at *
            clear hst hq hTT HQ HR
            have hr3 : (r < 0 ∧ Hid (tt = b)) ∨ (¬ r < 0 ∧ b < r ∧ Hid (tt = b)) ∨ (¬ r < 0 ∧ ¬ b < r ∧ Hid (tt = r)) := by
              have := HTF.out
              by_cases c1 : r < 0
              · exact .inl ⟨c1, by unfold Hid; rw [this, if_pos (.inl c1)]⟩
              · by_cases c2 : b < r
                · exact .inr (.inl ⟨c1, c2, by unfold Hid; rw [this, if_pos (.inr c2)]⟩)
                · exact .inr (.inr ⟨c1, c2, by unfold Hid; rw [this, if_neg (by omega)]⟩)
            cases q with
            | false =>
              have HST2 : Hid (restS (holdsB W z) b a [] = restS (holdsB W z) b tt acc) := by rw [Hid, HST.out, if_neg (by decide)]
              rcases hr3 with ⟨c1, ht⟩ | ⟨c1, c2, ht⟩ | ⟨c1, c2, ht⟩
              all_goals
                go_wp2_with fail
                refine (HNX.out _ (HV0.out.below hbw)).mono ?_
                rintro e w4 ⟨rfl, hb4⟩
                have hbw4 := below_step hbw hb4
                have hown4 := own_below hown hb4
                clear hc hf
                obtain ⟨hc, hf⟩ := bcell hbw4
                go_wp2_with fail
                go_roundw
                case measure => simp [intOf]; have := ht.out; omega
                case rel => exact ⟨acc, tt, true, rfl, by rw [ht.out], by omega, by omega, hal, fun h => (HT.out h).symm, hbw4, hown4, HST2⟩
            | true =>
              by_cases hl : acc.length = 512
              · have HSN := Lib.hid (HS1.out (by rw [HST.out, if_pos rfl, if_pos hl]))
                have e5 : ((acc.length : Int) == 512) = true := by simp; omega
                clear hl
                rcases hr3 with ⟨c1, ht⟩ | ⟨c1, c2, ht⟩ | ⟨c1, c2, ht⟩
                all_goals
                  go_wp2_with fail
                  refine (HNX.out _ (HV0.out.below hbw)).mono ?_
                  rintro e w4 ⟨rfl, hb4⟩
                  have hbw4 := below_step hbw hb4
                  clear hc hf
                  obtain ⟨hc, hf⟩ := bcell hbw4
                  go_wp2_with fail
                  go_ret2
                  exact SpansPost.mk HSN.out (IsSl.nil _ _) (below_step hb0 hbw4)
              · have HST2 : Hid (restS (holdsB W z) b a [] = restS (holdsB W z) b tt (acc ++ [(x, tt)])) := by rw [Hid, HST.out, if_pos rfl, if_neg hl]
                have e5 : ((acc.length : Int) == 512) = false := by simp; omega
                have hal2 : acc.length < 512 := by omega
                clear hl
                rcases hr3 with ⟨c1, ht⟩ | ⟨c1, c2, ht⟩ | ⟨c1, c2, ht⟩
                all_goals
                  go_wp2_with fail
                  refine (HNX.out _ (HV0.out.below hbw)).mono ?_
                  rintro e w4 ⟨rfl, hb4⟩
                  have hbw4 := below_step hbw hb4
                  have hown4 := own_below hown hb4
                  clear hc hf
                  obtain ⟨hc, hf⟩ := bcell hbw4
                  go_wp2_with (at_builtin; refine wpList_append_row _ _ rfl (.tmp 66) (.tmp 70) _ rfl W0.heap.size 28 i1 _ 2 16 Tryd.underlying34 hi hz0 hz1 hz2 rfl (by decide) _ _ _ rfl hown4 _ rfl rfl (by intro u hu; simp at hu; rcases hu with rfl | rfl <;> rfl) (by omega) (by omega) hbw4.size ?_; intro v' w5 hown5 hgrow hblk; have hb5 := below_grown hbw4 hown4 (Nat.le_refl _) hgrow; clear hc hf hgrow hblk; obtain ⟨hc, hf⟩ := bcell hb5)
                  go_roundw
                  case measure => simp [intOf]; have := ht.out; omega
                  case rel => exact ⟨acc ++ [(x, tt)], tt, false, rfl, by rw [ht.out], by omega, by omega, by simp; omega, fun h => (HT.out h).symm, hb5, by rw [List.length_append, List.flatMap_append, ht.out]; exact hown5, HST2⟩
          · have hxb : x = b := by omega
            have HX := Lib.hid (HS2.out acc (by rw [HR.out, hxb]; exact restS_end (Int.le_refl _)))
            clear hxb
            go_wp2_with fail
            go_ret2
            exact SpansPost.mk HX.out (IsSl.of_own encP_len hown rfl) (below_step hb0 hbw)
      · have HN := Lib.hid (spans_range hW hz hr)
        have hn : a < 0 ∨ (0 ≤ a ∧ b < a) ∨ (0 ≤ a ∧ ¬ b < a ∧ 268435456 < b) := by omega
        clear hW hz hr
        rcases hn with g | ⟨g, g2⟩ | ⟨g, g2, g3⟩
        all_goals
          go_enter Tryd.func12, Tryd.ntmps12
          go_wp2_with (first | (go_at_call 11; refine (winValid_any W _).mono ?_; rintro e w' ⟨rfl, hb⟩; obtain ⟨hc, hf⟩ := bcell hb; have hz := hb.size; (try simp only [World.size_alloc, Nat.add_one_le_iff] at hz); (try (have hz0 : w.heap.size < w'.heap.size := by omega)); (try (have hz1 : w.heap.size + 1 < w'.heap.size := by omega)); (try (have hz2 : w.heap.size < w'.heap.size := by omega)); replace hbw := below_step (w := w) (by repeat (first | exact hbw | refine below_alloc ?_ _ | refine below_drew ?_ | refine below_drewN ?_ _ | (refine below_set ?_ ?_ _; rotate_left; (first | exact Nat.le_refl _ | (simp only [World.size_alloc]; omega) | omega)))) hb; clear hb; rw [H1.out]) | (go_at_call 27; refine (winZone_any z _ (HV.out.below (by repeat (first | exact hbw | refine below_alloc ?_ _ | refine below_drew ?_ | refine below_drewN ?_ _)))).mono ?_; rintro e w' ⟨rfl, hb⟩; obtain ⟨hc, hf⟩ := bcell hb; have hz := hb.size; (try simp only [World.size_alloc, Nat.add_one_le_iff] at hz); (try (have hz0 : w.heap.size < w'.heap.size := by omega)); (try (have hz1 : w.heap.size + 1 < w'.heap.size := by omega)); (try (have hz2 : w.heap.size < w'.heap.size := by omega)); replace hbw := below_step (w := w) (by repeat (first | exact hbw | refine below_alloc ?_ _ | refine below_drew ?_ | refine below_drewN ?_ _ | (refine below_set ?_ ?_ _; rotate_left; (first | exact Nat.le_refl _ | (simp only [World.size_alloc]; omega) | omega)))) hb; clear hb; rw [H2.out]))
          go_ret2
          exact SpansPost.mk HN.out (IsSl.nil _ _) (by repeat (first | exact hbw | refine below_alloc ?_ _))

end Go.Proofs.YtpknjblgbpndlaaDoor
