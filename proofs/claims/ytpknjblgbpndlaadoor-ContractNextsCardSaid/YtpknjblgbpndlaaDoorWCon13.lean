/-
  Walks: border of the reference of contracts.
-/
import Derived.Test.YtpknjblgbpndlaaDoorWCon12
namespace Go.Proofs.YtpknjblgbpndlaaDoor
open Go.RowKit Go.Lib Go.Maps
attribute [local go_sem] after_cell
set_option linter.unusedVariables false

theorem bordF_take {l : List ConR} {k : Nat} (h : k < l.length) (t : Int) : bordF (l.take (k + 1)) t = bdStep t (bordF (l.take k) t) l[k] := fold_take (bdStep t) (-1) h
theorem bdStep_bad {t n : Int} {c : ConR} (h : winB c.w = false) : bdStep t n c = n := by unfold bdStep; rw [h]; exact if_neg (by decide)
theorem bdStep_ok {t n : Int} {c : ConR} (h : winB c.w = true) : bdStep t n c = bd1 t (bd1 t n c.w.fr) c.w.to := by unfold bdStep; exact if_pos h
theorem bd1_t {t n m : Int} (h : t < m ∧ (n < 0 ∨ m < n)) : bd1 t n m = m := if_pos h
theorem bd1_f {t n m : Int} (h : ¬ (t < m ∧ (n < 0 ∨ m < n))) : bd1 t n m = n := if_neg h
theorem bd_cases (t n m : Int) : (t < m ∧ n < 0) ∨ (t < m ∧ ¬ n < 0 ∧ m < n) ∨ (t < m ∧ ¬ n < 0 ∧ ¬ m < n) ∨ ¬ t < m := by omega

set_option maxRecDepth 100000 in
set_option maxHeartbeats 6400000 in
theorem refBorder_any (l : List ConR) (v : Value) (t : Int) (w : World) (hL : IsSl w 8 v (l.map ConR.cells)) :
    Calls Tryd.prog 45 #[v, .int .i64 t] w fun e w' => e = .returned (.int .i64 (bordF l t)) ∧ Below w.heap.size w w' := by
  obtain ⟨A, c, rfl, hlc, hcm, hsl⟩ := hL
  rw [List.length_map] at hlc
  unfold maxLen at hcm
  simp only [List.length_map]
  go_enter Tryd.func45, Tryd.ntmps45
  go_wp2_with fail
  go_loopw [5, 6] (fun n i wr => ∃ k : Nat, k ≤ l.length ∧ n = .int .i64 (bordF (l.take k) t) ∧ i = .int .i64 k ∧ Below w.heap.size w wr) (fun _ i _ => l.length - (intOf i).toNat)
  case atStart => exact ⟨0, by omega, rfl, rfl, Below.refl _ _⟩
  case round =>
    obtain ⟨k, hk, rfl, rfl, hbw⟩ := hrel
    by_cases hlt : k < l.length
    · have hki : (k : Int) < (l.length : Int) := by omega
      obtain ⟨b, off, rfl, hb, c0, c1, c2, c3, c4, c5, c6, c7⟩ := con_at (hsl.below hbw) hlt
      have HT := Lib.hid (bordF_take hlt t)
      have HB := Lib.hid (fun n h => bdStep_bad (t := t) (n := n) (c := l[k]'hlt) h)
      have HO := Lib.hid (fun n h => bdStep_ok (t := t) (n := n) (c := l[k]'hlt) h)
      generalize l[k] = x at *
      generalize bordF (l.take k) t = n at *
      cases hW : winB x.w with
      | false =>
        have H1 := Lib.hid (winE_false hW)
        have H : Hid (bordF (l.take (k + 1)) t = n) := by unfold Hid; rw [HT.out, HB.out _ hW]
        clear hW
        go_wp2_with fail
        refine (refValid_any x.w _).mono ?_
        rintro e w2 ⟨rfl, hb2⟩
        rw [H1.out]
        go_wp2_with fail
        go_roundw
        case measure => simp [intOf]; omega
        case rel => exact ⟨k + 1, by omega, by rw [H.out], by go_num, below_step (below_alloc hbw _) hb2⟩
      | true =>
        have H1 := Lib.hid (winE_true hW)
        have H : Hid (bordF (l.take (k + 1)) t = bd1 t (bd1 t n x.w.fr) x.w.to) := by unfold Hid; rw [HT.out, HO.out _ hW]
        clear hW
        go_wp2_with fail
        refine (refValid_any x.w _).mono ?_
        rintro e w2 ⟨rfl, hb2⟩
        rw [H1.out]
        have hbw2 := below_step (below_alloc hbw _) hb2
        have hz2 : wr.heap.size < w2.heap.size := Nat.lt_of_lt_of_le (by simp) hb2.size
        have d5 := ((bcell hb2).1 wr.heap.size 3 (by simp)).trans (World.cell?_alloc_mark wr #[.int .i64 x.w.dy, .int .i64 x.w.st, .int .i64 x.w.en, .int .i64 x.w.fr, .int .i64 x.w.to] 24 (0, 0) 3)
        have d6 := ((bcell hb2).1 wr.heap.size 4 (by simp)).trans (World.cell?_alloc_mark wr #[.int .i64 x.w.dy, .int .i64 x.w.st, .int .i64 x.w.en, .int .i64 x.w.fr, .int .i64 x.w.to] 24 (0, 0) 4)
        clear c0 c1 c2 c3 c4 c5 c6 c7 hb2
        rcases bd_cases t n x.w.fr with ⟨k1, k2⟩ | ⟨k1, k2, k3⟩ | ⟨k1, k2, k3⟩ | k1
        · have HE := Lib.hid (bd1_t (t := t) (n := n) (m := x.w.fr) (by omega))
          rcases bd_cases t x.w.fr x.w.to with ⟨j1, j2⟩ | ⟨j1, j2, j3⟩ | ⟨j1, j2, j3⟩ | j1
          · have HE2 := Lib.hid (bd1_t (t := t) (n := x.w.fr) (m := x.w.to) (by omega))
            go_wp2_with fail
            go_roundw
            case measure => simp [intOf]; omega
            case rel => exact ⟨k + 1, by omega, by rw [H.out, HE.out, HE2.out], by go_num, hbw2⟩
          · have HE2 := Lib.hid (bd1_t (t := t) (n := x.w.fr) (m := x.w.to) (by omega))
            go_wp2_with fail
            go_roundw
            case measure => simp [intOf]; omega
            case rel => exact ⟨k + 1, by omega, by rw [H.out, HE.out, HE2.out], by go_num, hbw2⟩
          · have HE2 := Lib.hid (bd1_f (t := t) (n := x.w.fr) (m := x.w.to) (by omega))
            go_wp2_with fail
            go_roundw
            case measure => simp [intOf]; omega
            case rel => exact ⟨k + 1, by omega, by rw [H.out, HE.out, HE2.out], by go_num, hbw2⟩
          · have HE2 := Lib.hid (bd1_f (t := t) (n := x.w.fr) (m := x.w.to) (by omega))
            go_wp2_with fail
            go_roundw
            case measure => simp [intOf]; omega
            case rel => exact ⟨k + 1, by omega, by rw [H.out, HE.out, HE2.out], by go_num, hbw2⟩
        · have HE := Lib.hid (bd1_t (t := t) (n := n) (m := x.w.fr) (by omega))
          rcases bd_cases t x.w.fr x.w.to with ⟨j1, j2⟩ | ⟨j1, j2, j3⟩ | ⟨j1, j2, j3⟩ | j1
          · have HE2 := Lib.hid (bd1_t (t := t) (n := x.w.fr) (m := x.w.to) (by omega))
            go_wp2_with fail
            go_roundw
            case measure => simp [intOf]; omega
            case rel => exact ⟨k + 1, by omega, by rw [H.out, HE.out, HE2.out], by go_num, hbw2⟩
          · have HE2 := Lib.hid (bd1_t (t := t) (n := x.w.fr) (m := x.w.to) (by omega))
            go_wp2_with fail
            go_roundw
            case measure => simp [intOf]; omega
            case rel => exact ⟨k + 1, by omega, by rw [H.out, HE.out, HE2.out], by go_num, hbw2⟩
          · have HE2 := Lib.hid (bd1_f (t := t) (n := x.w.fr) (m := x.w.to) (by omega))
            go_wp2_with fail
            go_roundw
            case measure => simp [intOf]; omega
            case rel => exact ⟨k + 1, by omega, by rw [H.out, HE.out, HE2.out], by go_num, hbw2⟩
          · have HE2 := Lib.hid (bd1_f (t := t) (n := x.w.fr) (m := x.w.to) (by omega))
            go_wp2_with fail
            go_roundw
            case measure => simp [intOf]; omega
            case rel => exact ⟨k + 1, by omega, by rw [H.out, HE.out, HE2.out], by go_num, hbw2⟩
        · have HE := Lib.hid (bd1_f (t := t) (n := n) (m := x.w.fr) (by omega))
          rcases bd_cases t n x.w.to with ⟨j1, j2⟩ | ⟨j1, j2, j3⟩ | ⟨j1, j2, j3⟩ | j1
          · exact absurd j2 k2
          · have HE2 := Lib.hid (bd1_t (t := t) (n := n) (m := x.w.to) (by omega))
            go_wp2_with fail
            go_roundw
            case measure => simp [intOf]; omega
            case rel => exact ⟨k + 1, by omega, by rw [H.out, HE.out, HE2.out], by go_num, hbw2⟩
          · have HE2 := Lib.hid (bd1_f (t := t) (n := n) (m := x.w.to) (by omega))
            go_wp2_with fail
            go_roundw
            case measure => simp [intOf]; omega
            case rel => exact ⟨k + 1, by omega, by rw [H.out, HE.out, HE2.out], by go_num, hbw2⟩
          · have HE2 := Lib.hid (bd1_f (t := t) (n := n) (m := x.w.to) (by omega))
            go_wp2_with fail
            go_roundw
            case measure => simp [intOf]; omega
            case rel => exact ⟨k + 1, by omega, by rw [H.out, HE.out, HE2.out], by go_num, hbw2⟩
        · have HE := Lib.hid (bd1_f (t := t) (n := n) (m := x.w.fr) (by omega))
          rcases bd_cases t n x.w.to with ⟨j1, j2⟩ | ⟨j1, j2, j3⟩ | ⟨j1, j2, j3⟩ | j1
          · have HE2 := Lib.hid (bd1_t (t := t) (n := n) (m := x.w.to) (by omega))
            go_wp2_with fail
            go_roundw
            case measure => simp [intOf]; omega
            case rel => exact ⟨k + 1, by omega, by rw [H.out, HE.out, HE2.out], by go_num, hbw2⟩
          · have HE2 := Lib.hid (bd1_t (t := t) (n := n) (m := x.w.to) (by omega))
            go_wp2_with fail
            go_roundw
            case measure => simp [intOf]; omega
            case rel => exact ⟨k + 1, by omega, by rw [H.out, HE.out, HE2.out], by go_num, hbw2⟩
          · have HE2 := Lib.hid (bd1_f (t := t) (n := n) (m := x.w.to) (by omega))
            go_wp2_with fail
            go_roundw
            case measure => simp [intOf]; omega
            case rel => exact ⟨k + 1, by omega, by rw [H.out, HE.out, HE2.out], by go_num, hbw2⟩
          · have HE2 := Lib.hid (bd1_f (t := t) (n := n) (m := x.w.to) (by omega))
            go_wp2_with fail
            go_roundw
            case measure => simp [intOf]; omega
            case rel => exact ⟨k + 1, by omega, by rw [H.out, HE.out, HE2.out], by go_num, hbw2⟩
    · have hki : ¬ (k : Int) < (l.length : Int) := by omega
      have H : Hid (bordF l t = bordF (l.take k) t) := by unfold Hid; rw [List.take_of_length_le (by omega)]
      go_wp2_with fail
      go_ret
      exact ⟨ret_int H.out.symm, hbw⟩

open Classical in
/-- the least measure of a time at which R holds -/
noncomputable def mesE (R : Int → Prop) : Nat := if h : ∃ n : Nat, (∃ u, R u ∧ n = (268435457 - u).toNat) ∧ ∀ j, j < n → ¬ ∃ u, R u ∧ j = (268435457 - u).toNat then h.choose else 0
theorem mesE_is {R : Int → Prop} (h : ∃ u, R u) : (∃ u, R u ∧ mesE R = (268435457 - u).toNat) ∧ ∀ u, R u → mesE R ≤ (268435457 - u).toNat := by
  obtain ⟨u, hu⟩ := h
  have hx : ∃ n : Nat, (∃ u, R u ∧ n = (268435457 - u).toNat) ∧ ∀ j, j < n → ¬ ∃ u, R u ∧ j = (268435457 - u).toNat := by
    rcases least_or (fun n => ∃ u, R u ∧ n = (268435457 - u).toNat) ((268435457 - u).toNat + 1) with ⟨k, _, h2, h3⟩ | h
    · exact ⟨k, h2, h3⟩
    · exact absurd ⟨u, hu, rfl⟩ (h (268435457 - u).toNat (by omega))
  have hs := hx.choose_spec
  have e : mesE R = hx.choose := dif_pos hx
  rw [e]
  refine ⟨hs.1, fun v hv => ?_⟩
  by_cases hlt : (268435457 - v).toNat < hx.choose
  · exact absurd ⟨v, hv, rfl⟩ (hs.2 _ hlt)
  · omega

end Go.Proofs.YtpknjblgbpndlaaDoor
