/-
  Walks: Energy of package series.
-/
import Derived.Test.YtpknjblgbpndlaaDoorWSer
import Derived.BigQuiet
namespace Go.Proofs.YtpknjblgbpndlaaDoor
open Go.RowKit Go.Lib Go.Maps
attribute [local go_sem] i64_mask20
set_option linter.unusedVariables false

set_option maxRecDepth 100000 in
set_option maxHeartbeats 6400000 in
theorem serEnergy_any (L : List (Int × Int)) (v : Value) (a b : Int) (w : World) (hL : IsSl w 2 v (L.map encP)) (hs : serOk L) (hl : L.length ≤ 40) (a0 : 0 ≤ a) (ab : a ≤ b) (b1 : b ≤ 268435456) (hd : b - a ≤ 5000) :
    Calls Tryd.prog 13 #[v, .agg #[.int .i64 a, .int .i64 b]] w fun e w' => e = .returned (.tuple #[.int .i64 (enF L a b), .int .i64 0]) ∧ Below w.heap.size w w' := by
  obtain ⟨W0, hW0, hb0, hg0, hx0⟩ := box1 w #[.int .i64 a, .int .i64 b] 28
  replace hL := hL.below hb0
  have HL := Lib.hid hL
  obtain ⟨A, c, rfl, hlc, hcm, hsl⟩ := hL
  rw [List.length_map] at hlc
  unfold maxLen at hcm
  have HR1 := Lib.hid (fun k (h : k ≤ 40) => hi_rng hs ab hd h)
  have HR2 := Lib.hid (fun k (h : k ≤ 40) => lo_rng (L := L) ab hd h)
  have HR3 := Lib.hid (fun k => lo_pos (L := L) ab k)
  have HR4 := Lib.hid (fun k => val_rng hs k)
  have HR5 := Lib.hid (fun k => seg_rng L ab k)
  have HSP := Lib.hid (en_split L a b)
  have HS := Lib.hid hs
  clear hs
  simp only [List.length_map]
  rw [List.length_map] at HL
  go_enter Tryd.func13, Tryd.ntmps13
  go_wp2_with fail
  rw [← hW0]
  clear hW0
  refine (serValid_any L _ _ HL.out).mono ?_
  rintro e w1 ⟨q, rfl, hq, hb1⟩
  obtain rfl : q = 0 := hq.2 HS.out
  clear hq
  obtain ⟨hc, hf⟩ := bcell hb1
  go_wp2_with fail
  refine (serSpan_any a b _ a0 ab b1).mono ?_
  rintro e w2 ⟨rfl, hb2⟩
  have hbw := below_step hb1 hb2
  clear hc hf hb1 hb2
  obtain ⟨hc, hf⟩ := bcell hbw
  go_wp2_with fail
  go_loopw [7, 8, 23] (fun h l i wr => ∃ k : Nat, k ≤ L.length ∧ h = .int .i64 (hiF L a b k) ∧ l = .int .i64 (loF L a b k) ∧ i = .int .i64 k ∧ Below W0.heap.size W0 wr) (fun _ _ i _ => L.length - (intOf i).toNat)
  case atStart => exact ⟨0, by omega, rfl, rfl, rfl, hbw⟩
  case round =>
    clear hc hf hbw
    obtain ⟨k, hk, rfl, rfl, rfl, hbw⟩ := hrel
    obtain ⟨hc, hf⟩ := bcell hbw
    have h1 := HR1.out k (by omega)
    have h2 := HR2.out k (by omega)
    have h3 := HR3.out k
    by_cases hlt : k < L.length
    · have hki : (k : Int) < (L.length : Int) := by omega
      obtain ⟨g, off, rfl, hb, c0, c1⟩ := span_at (hsl.below hbw) (List.getElem?_eq_getElem hlt)
      have ev := val_eq hlt
      have es := seg_eq hlt a b
      have v1 := HR4.out k
      have s1 := HR5.out k
      have hr1 := HR1.out (k + 1) (by omega)
      have hr2 := HR2.out (k + 1) (by omega)
      have eh := hi_step L a b k
      have el := lo_step L a b k
      have tl := fun h => toEnd_last (L := L) (j := k) h b
      have tm := fun h => toEnd_mid (L := L) (j := k) h b
      rw [ev] at eh el v1
      rw [eh] at hr1
      rw [el] at hr2
      have EH := Lib.hid eh
      have EL := Lib.hid el
      have TL := Lib.hid tl
      have TM := Lib.hid tm
      clear eh el ev tl tm
      generalize L[k] = x at *
      obtain ⟨x1, x2⟩ := x
      simp only at c0 c1 es v1 hr1 hr2
      simp only at EH EL
      have x1r : -1000000000 ≤ x1 ∨ True := .inr trivial
      generalize hiF L a b k = hh at *
      generalize loF L a b k = ll at *
      generalize segF L a b k = sg at *
      have y1 := old_allocS (w := wr) (b := g) (by omega)
      have y2 := old_allocS (w := wr) (b := w.heap.size) (Nat.lt_of_lt_of_le hg0 hbw.size)
      go_wp2_with fail
      go_quiet (fail)
      go_upto_if 39 with fail
      go_cut [12] (fun s wx => s = .int .i64 (toEnd L b k) ∧ wx = (wr.alloc (.cells #[.int .i64 x1, .int .i64 x2] 62)).drewN nq)
      case first =>
        by_cases hl2 : k + 1 < L.length
        · have hl3 : (k : Int) + 1 < (L.length : Int) := by omega
          have hl4 : (0 : Int) ≤ (k : Int) + 1 := by omega
          have hl5 : ((k : Int) + 1).toNat = k + 1 := by omega
          obtain ⟨g2, off2, eg, hb2, d0, d1⟩ := span_at (hsl.below hbw) (List.getElem?_eq_getElem hl2)
          injection eg with eg
          injection eg with eg1 eg2 _
          subst eg1
          subst eg2
          have HT := Lib.hid (TM.out hl2)
          generalize L[k + 1] = y at *
          go_wp2_with fail
          go_meet
          exact ⟨by rw [HT.out], rfl⟩
        · have hl3 : ¬ (k : Int) + 1 < (L.length : Int) := by omega
          have HT := Lib.hid (TL.out hl2)
          go_wp2_with fail
          go_meet
          exact ⟨by rw [HT.out], rfl⟩
      case rest =>
        obtain ⟨rfl, rfl⟩ := hcut
        clear TL TM
        generalize toEnd L b k = T at *
        have hF : a ≤ max x1 a := by omega
        have hbx : Below W0.heap.size W0 ((wr.alloc (.cells #[.int .i64 x1, .int .i64 x2] 62)).drewN nq) := below_drewN (below_alloc hbw _) _
        generalize max x1 a = F at *
        by_cases hTF : T ≤ F
        · have s0 : sg = 0 := by omega
          subst s0
          have EH2 : Hid (hiF L a b (k + 1) = hh) := by unfold Hid; rw [EH.out, Int.mul_zero, Int.add_zero]
          have EL2 : Hid (loF L a b (k + 1) = ll) := by unfold Hid; rw [EL.out, Int.mul_zero, Int.add_zero]
          go_wp2_with fail
          go_roundw
          case measure => simp [intOf]; omega
          case rel => exact ⟨k + 1, by omega, by rw [EH2.out], by rw [EL2.out], by go_num, hbx⟩
        · have s0 : sg = T - F := by omega
          subst s0
          have m1 := mul_rng (x := x2 / 1048576) (y := T - F) (X := 1048576) (Y := 5000) (by omega) (by omega) (by omega) (by omega) (by omega)
          have m2 := mul_rng (x := x2 % 1048576) (y := T - F) (X := 1048576) (Y := 5000) (by omega) (by omega) (by omega) (by omega) (by omega)
          have wa0 : IntKind.i64.wrap (T - F) = T - F := IntWalk.i64_in _ (by omega)
          obtain ⟨D, hD⟩ : ∃ D, D = T - F := ⟨_, rfl⟩
          obtain ⟨p1, hp1⟩ : ∃ p, p = x2 / 1048576 * (T - F) := ⟨_, rfl⟩
          obtain ⟨p2, hp2⟩ : ∃ p, p = x2 % 1048576 * (T - F) := ⟨_, rfl⟩
          rw [← hp1] at m1 hr1 EH
          rw [← hp2] at m2 hr2 EL
          have wa : IntKind.i64.wrap (T - F) = D := by rw [wa0, hD]
          have wb : IntKind.i64.wrap (x2 / 1048576 * D) = p1 := by rw [hD, ← hp1]; exact IntWalk.i64_in _ (by omega)
          have wd : IntKind.i64.wrap (x2 % 1048576 * D) = p2 := by rw [hD, ← hp2]; exact IntWalk.i64_in _ (by omega)
          have we : IntKind.i64.wrap (hh + p1) = hh + p1 := IntWalk.i64_in _ (by omega)
          have wf : IntKind.i64.wrap (ll + p2) = ll + p2 := IntWalk.i64_in _ (by omega)
          clear wa0 hD hp1 hp2 m1 m2 hr1 hr2 s1 es h1 h2 h3 v1 hd
          go_wp2_with fail
          go_roundw
          case measure => simp [intOf]; omega
          case rel => exact ⟨k + 1, by omega, by rw [EH.out], by rw [EL.out], by go_num, hbx⟩
    · have hki : ¬ (k : Int) < (L.length : Int) := by omega
      have hkl : k = L.length := by omega
      have HE : Hid (enF L a b = hiF L a b k * 1048576 + loF L a b k) := by unfold Hid; rw [hkl]; exact HSP.out
      clear hkl
      generalize hiF L a b k = hh at *
      generalize loF L a b k = ll at *
      have wa : IntKind.i64.wrap (hh + ll / 1048576) = hh + ll / 1048576 := IntWalk.i64_in _ (by omega)
      have wb : IntKind.i64.wrap ((hh + ll / 1048576) * 1048576) = (hh + ll / 1048576) * 1048576 := IntWalk.i64_in _ (by omega)
      have wc : IntKind.i64.wrap ((hh + ll / 1048576) * 1048576 + ll % 1048576) = (hh + ll / 1048576) * 1048576 + ll % 1048576 := IntWalk.i64_in _ (by omega)
      have g1 : ¬ hh + ll / 1048576 < -8796093022208 := by omega
      have g2 : ¬ 8796093022207 < hh + ll / 1048576 := by omega
      go_wp2_with fail
      go_ret2
      exact ⟨ret_int2 (by rw [HE.out]; omega) rfl, below_step hb0 hbw⟩

end Go.Proofs.YtpknjblgbpndlaaDoor
