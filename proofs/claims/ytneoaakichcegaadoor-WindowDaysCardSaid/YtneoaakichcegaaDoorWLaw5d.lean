/-
  Walks: the law WindowDays.
-/
import Derived.Test.YtneoaakichcegaaDoorWLaw5b
import Derived.Test.YtneoaakichcegaaDoorPDays
import Derived.Test.YtneoaakichcegaaDoorTail
import Derived.RegionTactic
import Derived.Deep.DeepCutAuto
namespace Go.Proofs.YtneoaakichcegaaDoor
open Go.RowKit Go.Lib Go.Maps
attribute [local go_sem] after_cell
set_option linter.unusedVariables false

theorem two_set {wc : World} {g h : Nat} (gh : g ≠ h) (u v : Value) {a b : Value} (hg : wc.cell? ⟨g, 0, none⟩ = some a) (hh : wc.cell? ⟨h, 0, none⟩ = some b) :
    ((wc.setCell ⟨g, 0, none⟩ u).setCell ⟨h, 0, none⟩ v).cell? ⟨g, 0, none⟩ = some u ∧ ((wc.setCell ⟨g, 0, none⟩ u).setCell ⟨h, 0, none⟩ v).cell? ⟨h, 0, none⟩ = some v ∧
    (∀ x o, (x ≠ g ∧ x ≠ h) ∨ o ≠ 0 → ((wc.setCell ⟨g, 0, none⟩ u).setCell ⟨h, 0, none⟩ v).cell? ⟨x, o, none⟩ = wc.cell? ⟨x, o, none⟩) := by
  have oth := fun (w : World) (k : Nat) (val : Value) (x o : Nat) (hx : x ≠ k ∨ o ≠ 0) => World.cell?_setCell_other w ⟨k, 0, none⟩ ⟨x, o, none⟩ val (by intro e; injection e; omega)
  refine ⟨?_, ?_, fun x o hx => ?_⟩
  · rw [oth _ _ _ _ _ (.inl gh), World.cell?_setCell_same _ _ _ hg]
  · exact World.cell?_setCell_same _ _ _ ((oth _ _ _ _ _ (.inl (Ne.symm gh))).trans hh)
  · rw [oth _ _ _ _ _ (by omega), oth _ _ _ _ _ (by omega)]

theorem after_below {W : World} (x : KeptOf W) : Below W.heap.size W (after x) := (after_kept x).2
/-- two copies of a window in memory -/
def DaysMem (W0 : World) (W : WinR) (p q : Value) (wx : World) : Prop :=
  ∃ g h, p = .pointer (some ⟨g, 0, none⟩) ∧ q = .pointer (some ⟨h, 0, none⟩) ∧ g ≠ h ∧ W0.heap.size ≤ g ∧ W0.heap.size ≤ h ∧ Below W0.heap.size W0 wx ∧ g < wx.heap.size ∧ h < wx.heap.size ∧
    (∀ j, wx.cell? ⟨g, j, none⟩ = (#[.int .i64 W.dy, .int .i64 W.st, .int .i64 W.en, .int .i64 W.fr, .int .i64 W.to] : Array Value)[j]?) ∧ (∀ j, wx.frozen? ⟨g, j, none⟩ = false) ∧
    (∀ j, wx.cell? ⟨h, j, none⟩ = (#[.int .i64 W.dy, .int .i64 W.st, .int .i64 W.en, .int .i64 W.fr, .int .i64 W.to] : Array Value)[j]?) ∧ (∀ j, wx.frozen? ⟨h, j, none⟩ = false)

set_option maxRecDepth 100000 in
set_option maxHeartbeats 6400000 in
theorem lawWinDays (W : WinR) (z : ZoneR) (t : Int) (w : World) (hv : LenV w) :
    Calls Tryd.prog 10 #[.agg #[.int .i64 W.dy, .int .i64 W.st, .int .i64 W.en, .int .i64 W.fr, .int .i64 W.to], .agg #[.int .i64 z.off, .bool z.sum], .int .i64 t] w fun e w' => e = .returned (.bool true) ∧ Below w.heap.size w w' := by
  obtain ⟨W0, hW0, hb0, hg1, hg0, hx0, hy0⟩ := box2 w #[.int .i64 W.dy, .int .i64 W.st, .int .i64 W.en, .int .i64 W.fr, .int .i64 W.to] 24 #[.int .i64 z.off, .bool z.sum] 26
  have HV := Lib.hid (hv.below hb0)
  clear hv
  by_cases h1 : W.dy < 1
  · go_enter Tryd.func10, Tryd.ntmps10
    go_wp2_with fail
    rw [← hW0]
    clear hW0
    refine (ex5_any _ HV.out).mono ?_
    rintro e w2 ⟨rfl, hb2⟩
    go_wp2_with fail
    go_ret
    exact ⟨rfl, below_step hb0 hb2⟩
  by_cases h2 : 126 < W.dy
  · go_enter Tryd.func10, Tryd.ntmps10
    go_wp2_with fail
    rw [← hW0]
    clear hW0
    refine (ex5_any _ HV.out).mono ?_
    rintro e w2 ⟨rfl, hb2⟩
    go_wp2_with fail
    go_ret
    exact ⟨rfl, below_step hb0 hb2⟩
  obtain ⟨p1, p2⟩ := days_part (W := W) z t (by omega) (by omega)
  have HA : Hid (∀ w, LenV w → Calls Tryd.prog 15 #[.agg #[.int .i64 W.dy, .int .i64 W.st, .int .i64 W.en, .int .i64 W.fr, .int .i64 W.to], .agg #[.int .i64 z.off, .bool z.sum], .int .i64 t] w fun e w' => e = .returned (.bool (holdsB W z t)) ∧ Below w.heap.size w w') := fun w h => holdsT_any W z t w h
  have HB : Hid (∀ w, LenV w → Calls Tryd.prog 15 #[.agg #[.int .i64 (127 - W.dy), .int .i64 W.st, .int .i64 W.en, .int .i64 W.fr, .int .i64 W.to], .agg #[.int .i64 z.off, .bool z.sum], .int .i64 t] w fun e w' => e = .returned (.bool (holdsB (W.on (127 - W.dy)) z t)) ∧ Below w.heap.size w w') := fun w h => holdsT_any (W.on (127 - W.dy)) z t w h
  have HC : Hid (∀ w, LenV w → Calls Tryd.prog 15 #[.agg #[.int .i64 0, .int .i64 W.st, .int .i64 W.en, .int .i64 W.fr, .int .i64 W.to], .agg #[.int .i64 z.off, .bool z.sum], .int .i64 t] w fun e w' => e = .returned (.bool (holdsB (W.on 0) z t)) ∧ Below w.heap.size w w') := fun w h => holdsT_any (W.on 0) z t w h
  generalize holdsB W z t = ba at *
  generalize holdsB (W.on (127 - W.dy)) z t = bb at *
  generalize holdsB (W.on 0) z t = bc at *
  subst p2
  go_enter Tryd.func10, Tryd.ntmps10
  go_wp2_with fail
  rw [← hW0]
  clear hW0
  go_cut [7, 8] (fun p q wx => DaysMem W0 W p q wx)
  case first =>
    go_region
    all_goals (go_wp2_with fail; go_meet)
    all_goals
      refine ⟨_, _, rfl, rfl, by simp, by simp <;> omega, by simp <;> omega, ?_, by simp <;> omega, by simp <;> omega, ?_, ?_, ?_, ?_⟩
      · repeat (first | exact Below.refl _ _ | refine below_set ?_ (by simp) _ | refine below_alloc ?_ _ | refine below_drew ?_)
      all_goals intro j
      all_goals go_simp
  case rest =>
    obtain ⟨g, h, rfl, rfl, gh, g0, h0, hbx, gs, hs, G, Gf, H, Hf⟩ := hcut
    obtain ⟨hc, hf⟩ := bcell hbx
    go_wp2_with fail
    have hg9 : wc.cell? ⟨g, 0, none⟩ = some (.int .i64 W.dy) := G 0
    have hh9 : wc.cell? ⟨h, 0, none⟩ = some (.int .i64 W.dy) := H 0
    obtain ⟨q1, q2, q3⟩ := two_set gh (.int .i64 (127 - W.dy)) (.int .i64 0) hg9 hh9
    have hb5 : Below W0.heap.size W0 ((wc.setCell ⟨g, 0, none⟩ (.int .i64 (127 - W.dy))).setCell ⟨h, 0, none⟩ (.int .i64 0)) := below_set (below_set hbx g0 _) h0 _
    have hsz : ((wc.setCell ⟨g, 0, none⟩ (.int .i64 (127 - W.dy))).setCell ⟨h, 0, none⟩ (.int .i64 0)).heap.size = wc.heap.size := by simp [World.setCell]
    generalize hW5 : (wc.setCell ⟨g, 0, none⟩ (.int .i64 (127 - W.dy))).setCell ⟨h, 0, none⟩ (.int .i64 0) = W5 at *
    clear hW5
    have hc5 := (bcell hb5).1
    have GA : ∀ j, W5.cell? ⟨g, j, none⟩ = (#[.int .i64 (127 - W.dy), .int .i64 W.st, .int .i64 W.en, .int .i64 W.fr, .int .i64 W.to] : Array Value)[j]? := fun j => by
      cases j with
      | zero => exact q1
      | succ j => exact ((q3 g (j + 1) (.inr (by omega))).trans (G (j + 1))).trans (by simp)
    have HA2 : ∀ j, W5.cell? ⟨h, j, none⟩ = (#[.int .i64 0, .int .i64 W.st, .int .i64 W.en, .int .i64 W.fr, .int .i64 W.to] : Array Value)[j]? := fun j => by
      cases j with
      | zero => exact q2
      | succ j => exact ((q3 h (j + 1) (.inr (by omega))).trans (H (j + 1))).trans (by simp)
    have XA : ∀ j, W5.cell? ⟨w.heap.size, j, none⟩ = (#[.int .i64 W.dy, .int .i64 W.st, .int .i64 W.en, .int .i64 W.fr, .int .i64 W.to] : Array Value)[j]? := fun j => (hc5 _ j hg0).trans (hx0 j)
    have YA : ∀ j, W5.cell? ⟨w.heap.size + 1, j, none⟩ = (#[.int .i64 z.off, .bool z.sum] : Array Value)[j]? := fun j => (hc5 _ j hg1).trans (hy0 j)
    have s1 : w.heap.size < W5.heap.size := Nat.lt_of_lt_of_le hg0 hb5.size
    have s2 : w.heap.size + 1 < W5.heap.size := Nat.lt_of_lt_of_le hg1 hb5.size
    have s3 : g < W5.heap.size := by omega
    have s4 : h < W5.heap.size := by omega
    have HV5 := Lib.hid (HV.out.below hb5)
    have hbr := Below.refl W5.heap.size W5
    clear hc hf q3 G H Gf Hf hg9 hh9 hc5 hx0 hy0 gs hs hsz q1 q2
    (refine wp_region_kept W5 (by kernel_rfl) (by kernel_rfl) (by assumption) ?_; (repeat (go_big_quiet_step ((first | (go_at_call 15; exact kept_call ((by first | with_reducible exact HA.out _ (HV5.out.below (after_below _)) | with_reducible exact HB.out _ (HV5.out.below (after_below _)) | with_reducible exact HC.out _ (HV5.out.below (after_below _))))))))); refine wpQuiet_nil ?_; intro _ hw'; obtain ⟨x9, hw''⟩ := hw'; subst hw''; have hk9 := after_kept x9; generalize after x9 = w9 at *)
    cases ba
    all_goals cases bb
    all_goals (try (exact absurd p1 (by decide)))
    all_goals
      go_wp2_with fail
      refine (ex5_any _ (HV5.out.below hk9.2)).mono ?_
      rintro e w7 ⟨rfl, hb7⟩
      go_wp2_with fail
      go_ret
      exact ⟨rfl, below_step hb0 (below_step hb5 (below_step hk9.2 hb7))⟩

end Go.Proofs.YtneoaakichcegaaDoor
