/-
  Walks: the law WindowConstant.
-/
import Derived.Test.YtneoaakichcegaaDoorWLaw5b
import Derived.Test.YtneoaakichcegaaDoorPCon5
import Derived.Test.YtneoaakichcegaaDoorKept
import Derived.RegionTactic
import Derived.Deep.DeepCutAuto
namespace Go.Proofs.YtneoaakichcegaaDoor
open Go.RowKit Go.Lib Go.Maps
attribute [local go_sem] after_cell
set_option linter.unusedVariables false

theorem after_below5 {W : World} (x : KeptOf W) : Below W.heap.size W (after x) := (after_kept x).2
/-- Holds at this time returns b, in any world that holds the table -/
abbrev HoldsC (W : WinR) (z : ZoneR) (t : Int) (b : Bool) : Prop := ∀ w, LenV w → Calls Tryd.prog 15 #[.agg #[.int .i64 W.dy, .int .i64 W.st, .int .i64 W.en, .int .i64 W.fr, .int .i64 W.to], .agg #[.int .i64 z.off, .bool z.sum], .int .i64 t] w fun e w' => e = .returned (.bool b) ∧ Below w.heap.size w w'
theorem holdsC {W : WinR} {z : ZoneR} {t : Int} {b : Bool} (h : holdsB W z t = b) : HoldsC W z t b := fun w hv => by
  subst h; exact holdsT_any W z t w hv

set_option maxRecDepth 100000 in
set_option maxHeartbeats 6400000 in
theorem lawWinConstant (W : WinR) (z : ZoneR) (t : Int) (w : World) (hv : LenV w) :
    Calls Tryd.prog 8 #[.agg #[.int .i64 W.dy, .int .i64 W.st, .int .i64 W.en, .int .i64 W.fr, .int .i64 W.to], .agg #[.int .i64 z.off, .bool z.sum], .int .i64 t] w fun e w' => e = .returned (.bool true) ∧ Below w.heap.size w w' := by
  obtain ⟨W0, hW0, hb0, hg1, hg0, hx0, hy0⟩ := box2 w #[.int .i64 W.dy, .int .i64 W.st, .int .i64 W.en, .int .i64 W.fr, .int .i64 W.to] 24 #[.int .i64 z.off, .bool z.sum] 26
  have HV := Lib.hid (hv.below hb0)
  clear hv
  by_cases ht : 0 ≤ t ∧ t ≤ 268435456
  · obtain ⟨t0, t1⟩ := ht
    have hn := nextA_law W z t0 t1
    have HN := Lib.hid (fun w (h : LenV w) => winNext_any W z t w h)
    generalize nextA W z t = u at *
    have HT := Lib.hid (holdsC (rfl : holdsB W z t = holdsB W z t))
    have hcase : ∃ e, e ≤ 268435457 ∧ t < e ∧ Hid (∀ v, t ≤ v → v < e → HoldsC W z v (holdsB W z t)) ∧ ((u = -1 ∧ e = 268435457) ∨ (u = e ∧ ¬ u = -1 ∧ ¬ u ≤ t ∧ ¬ 268435456 < u ∧ Hid (HoldsC W z u (!holdsB W z (u - 1))) ∧ Hid (HoldsC W z (u - 1) (holdsB W z (u - 1))))) := by
      rcases hn with ⟨a, b⟩ | ⟨a, b, c, d⟩
      · exact ⟨268435457, by omega, by omega, fun v x y => holdsC (b v x (by omega)), .inl ⟨a, rfl⟩⟩
      · exact ⟨u, by omega, a, fun v x y => holdsC (d v x y), .inr ⟨rfl, by omega, by omega, by omega, holdsC c, holdsC rfl⟩⟩
    clear hn
    obtain ⟨e, e1, e0, HB, hcase⟩ := hcase
    generalize holdsB W z t = b at *
    have hbr := Below.refl W0.heap.size W0
    go_enter Tryd.func8, Tryd.ntmps8
    go_wp2_with fail
    rw [← hW0]
    clear hW0
    refine (HN.out _ HV.out).mono ?_
    rintro _ w1 ⟨rfl, hb1⟩
    obtain ⟨hc, hf⟩ := bcell hb1
    go_upto_if 28 with fail
    go_cut [8] (fun p wx => p = .int .i64 e ∧ Below W0.heap.size W0 wx)
    case first =>
      rcases hcase with ⟨rfl, rfl⟩ | ⟨rfl, u1, u2, u3, HU, HU1⟩
      · go_wp2_with fail
        go_meet
        exact ⟨rfl, hb1⟩
      · generalize holdsB W z (u - 1) = b1 at *
        have e5 : ((!b1) == b1) = false := by cases b1 <;> rfl
        have hw : IntKind.i64.wrap (u - 1) = u - 1 := IntWalk.i64_in _ (by omega)
        have HV1 := Lib.hid (HV.out.below hb1)
        have hx1 : ∀ j, w1.cell? ⟨w.heap.size, j, none⟩ = (#[.int .i64 W.dy, .int .i64 W.st, .int .i64 W.en, .int .i64 W.fr, .int .i64 W.to] : Array Value)[j]? := fun j => (hc _ j hg0).trans (hx0 j)
        have hy1 : ∀ j, w1.cell? ⟨w.heap.size + 1, j, none⟩ = (#[.int .i64 z.off, .bool z.sum] : Array Value)[j]? := fun j => (hc _ j hg1).trans (hy0 j)
        have s1 : w.heap.size < w1.heap.size := Nat.lt_of_lt_of_le hg0 hb1.size
        have s2 : w.heap.size + 1 < w1.heap.size := Nat.lt_of_lt_of_le hg1 hb1.size
        have hbr1 := Below.refl w1.heap.size w1
        clear hc hf hx0 hy0 hg0 hg1 hbr
        go_wp2_with fail
        have g2 : decide (u ≤ t) = false := by simp; omega
        have g3 : decide (268435456 < u) = false := by simp; omega
        (refine wp_region_kept w1 (by kernel_rfl) (by kernel_rfl) (by assumption) ?_; (repeat (go_big_quiet_step ((first | (go_at_call 15; exact kept_call ((by first | with_reducible exact HU.out _ (HV1.out.below (after_below5 _)) | with_reducible exact HU1.out _ (HV1.out.below (after_below5 _))))))))); refine wpQuiet_nil ?_; intro _ hw'; obtain ⟨x9, hw''⟩ := hw'; subst hw''; have hk9 := after_kept x9; generalize after x9 = w9 at *)
        go_wp2_with fail
        go_meet
        exact ⟨rfl, below_step hb1 hk9.2⟩
    case rest =>
      obtain ⟨rfl, hbw⟩ := hcut
      clear hc hf
      obtain ⟨hc, hf⟩ := bcell hbw
      go_wp2_with fail
      refine (HT.out _ (HV.out.below hbw)).mono ?_
      rintro _ w2 ⟨rfl, hb2⟩
      replace hbw := below_step hbw hb2
      clear hc hf hb2 hb1
      obtain ⟨hc, hf⟩ := bcell hbw
      go_wp2_with fail
      go_loopw [10] (fun i wr => ∃ v : Int, t < v ∧ v ≤ e ∧ i = .int .i64 v ∧ Below W0.heap.size W0 wr) (fun i _ => (e - intOf i).toNat)
      case atStart => exact ⟨t + 1, by omega, by omega, rfl, hbw⟩
      case round =>
        clear hc hf hbw
        obtain ⟨v, v1, v2, rfl, hbw⟩ := hrel
        obtain ⟨hc, hf⟩ := bcell hbw
        by_cases hlt : v < e
        · by_cases hl2 : v < t + 3000
          · have HC := Lib.hid (HB.out v (by omega) hlt)
            go_wp2_with fail
            refine (HC.out _ (HV.out.below hbw)).mono ?_
            rintro _ w3 ⟨rfl, hb3⟩
            replace hbw := below_step hbw hb3
            have e6 : (b != b) = false := by simp
            go_wp2_with fail
            go_roundw
            case measure => simp [intOf]; omega
            case rel => exact ⟨v + 1, by omega, by omega, rfl, hbw⟩
          · go_wp2_with fail
            refine (ex5_any _ (HV.out.below hbw)).mono ?_
            rintro _ w3 ⟨rfl, hb3⟩
            go_wp2_with fail
            go_ret
            exact ⟨rfl, below_step hb0 (below_step hbw hb3)⟩
        · go_wp2_with fail
          refine (ex5_any _ (HV.out.below hbw)).mono ?_
          rintro _ w3 ⟨rfl, hb3⟩
          go_wp2_with fail
          go_ret
          exact ⟨rfl, below_step hb0 (below_step hbw hb3)⟩
  · have HN := Lib.hid (fun w (h : LenV w) => winNext_any W z t w h)
    rw [nextA_out W z ht] at HN
    have hn : t < 0 ∨ (0 ≤ t ∧ 268435456 < t) := by omega
    rcases hn with g | ⟨g, g2⟩
    all_goals
      go_enter Tryd.func8, Tryd.ntmps8
      go_wp2_with fail
      rw [← hW0]
      clear hW0
      refine (HN.out _ HV.out).mono ?_
      rintro _ w1 ⟨rfl, hb1⟩
      go_wp2_with fail
      refine (ex5_any _ (HV.out.below hb1)).mono ?_
      rintro _ w3 ⟨rfl, hb3⟩
      go_wp2_with fail
      go_ret
      exact ⟨rfl, below_step hb0 (below_step hb1 hb3)⟩

end Go.Proofs.YtneoaakichcegaaDoor
