/-
  Walks: the next change of a window: the walk.
-/
import Derived.Test.YtpknjblgbpndlaaDoorWWin8
namespace Go.Proofs.YtpknjblgbpndlaaDoor
open Go.RowKit Go.Lib Go.Maps
attribute [local go_sem] Oper.semAt_some
attribute [local go_sem] after_cell
set_option linter.unusedVariables false

theorem edgesL_len (W : WinR) (z : ZoneR) : (edgesL W z).length ≤ 7 := by
  have h1 := compact_len ((edgesR W z).mergeSort fun x y => decide (x ≤ y))
  rw [List.length_mergeSort] at h1
  have h2 := rawK_len W z 3
  have h3 : (edgesR W z).length ≤ (rawK W z 3).length + 1 := by unfold edgesR; rw [List.length_append]; split <;> simp
  unfold edgesL
  omega
theorem keeps_of_below {W W' : World} (h : Below W.heap.size W W') : KeepsOthers W W' := ⟨h.size, fun k o hk _ => (h.block k (Array.getElem?_eq_some_iff.1 hk).1).trans hk⟩
theorem finish_next {w W' : World} {D g : Nat} {V N : Int} {tmps : Array Value} (h6 : tmps[6]?.getD undef = .pointer (some ⟨g, 0, none⟩)) (hcell : W'.cell? ⟨g, 0, none⟩ = some (.int .i64 V))
    (hK : W'.heap[D]? = some (.deferred (some []))) (hD : w.heap.size ≤ D) (hB : Below w.heap.size w W') (hV : V = N) :
    bodyPostM Fence.wide 6 Tryd.prog Tryd.f29 (fun e w' => e = .returned (.int .i64 N) ∧ Below w.heap.size w w') .ret { tmps := tmps, defers := [{ target := .collected D, args := #[] }] } W' := by
  refine ⟨by simp, .inl ⟨_, _, rfl, run_takeDeferred hK, ?_⟩⟩
  have hc2 : (W'.putObj D (.deferred none)).cell? ⟨g, 0, none⟩ = some (.int .i64 V) := cell_kept hcell (grownBy_putObj' _ D (.deferred none)) (fun r e => by cases e; exact ⟨_, hK, rfl⟩)
  refine ⟨.int .i64 V, ?_, ret_int hV, hB.trans (belowK_b (w := w) (Nat.le_refl _) W' D _ _ hD hK rfl rfl)⟩
  have e1 : Tryd.f29.results = #[.cell 6 3] := rfl
  simp only [results, e1]
  simp [go_sem, h6, hc2]

set_option maxRecDepth 100000 in
set_option maxHeartbeats 6400000 in
theorem next_any (W : WinR) (z : ZoneR) (t : Int) (w : World) (hv : LenV w) (hW : winB W = true) (hz : zoneB z = true) (h0 : 0 ≤ t) (h1 : t ≤ 268435456) :
    Calls Tryd.prog 29 #[.agg #[.int .i64 W.dy, .int .i64 W.st, .int .i64 W.en, .int .i64 W.fr, .int .i64 W.to], .agg #[.int .i64 z.off, .bool z.sum], .int .i64 t] w
      fun e w' => e = .returned (.int .i64 (nextF (holdsB W z) t)) ∧ Below w.heap.size w w' := by
  have HE : Hid (endT W = if 0 ≤ W.to then W.to else 268435457) := rfl
  refine (callsIn_wide (n := 6)).1 ?_
  refine callsIn_of_wp_marks Tryd.func29 rfl trivial ?_ rfl
  simp only [Tryd.ntmps29, List.size_toArray, List.length_cons, List.length_nil, Nat.reduceAdd, Nat.reduceSub, Array.replicate_succ, Array.replicate_zero, List.push_toArray, List.append_toArray, List.nil_append, List.cons_append]
  refine wpIn_wide.2 ?_
  go_upto_if 16 with fail
  go_cut [] from 17 to 18 (fun wx => NextMem w W z t (endT W) wx)
  case first =>
    by_cases hto : 0 ≤ W.to
    · have he : Hid (endT W = W.to) := by rw [Hid, HE.out, if_pos hto]
      go_wp2_with fail
      go_meet
      rw [he.out]
      refine ⟨by simp, ?_, ?_, ?_, ?_, ?_, ?_, ?_, ?_, ?_, ?_, ?_, ?_, ?_⟩
      · repeat (first | exact Below.refl _ _ | refine below_set ?_ (by simp; omega) _ | refine below_alloc ?_ _ | refine below_drewN ?_ _)
      all_goals go_simp
    · have he : Hid (endT W = 268435457) := by rw [Hid, HE.out, if_neg hto]
      go_wp2_with fail
      go_meet
      rw [he.out]
      refine ⟨by simp, ?_, ?_, ?_, ?_, ?_, ?_, ?_, ?_, ?_, ?_, ?_, ?_, ?_⟩
      · repeat (first | exact Below.refl _ _ | refine below_set ?_ (by simp; omega) _ | refine below_alloc ?_ _ | refine below_drewN ?_ _)
      all_goals go_simp
  case rest =>
    obtain ⟨sz, bw, c0, c1, c2, c3, c4, z0, z1, ct, ft, cr, fr, ce⟩ := hcut
    have s0 : w.heap.size < wc.heap.size := by omega
    have s1 : w.heap.size + 1 < wc.heap.size := by omega
    have s2 : w.heap.size + 1 + 1 < wc.heap.size := by omega
    have s3 : w.heap.size + 1 + 1 + 1 < wc.heap.size := by omega
    go_upto_if 22 with fail
    go_cut [] from 22 to 32 (fun wx => NextMem w W z (if t < W.fr then W.fr else t) (endT W) wx ∧ (t < W.fr → holdsB W z W.fr = false))
    case first =>
      by_cases hlt : t < W.fr
      · have HT : Hid ((if t < W.fr then W.fr else t) = W.fr) := if_pos hlt
        have HM := Lib.hid (show NextMem w W z t (endT W) wc from ⟨sz, bw, c0, c1, c2, c3, c4, z0, z1, ct, ft, cr, fr, ce⟩)
        cases hh : holdsB W z W.fr with
        | false =>
          have HH := Lib.hid hh
          clear hh
          go_wp2_with (go_at_call 28; refine (holds_any W z W.fr _ (hv.below bw) hW).mono ?_; rintro e w1 ⟨rfl, hb1⟩; rw [HH.out]; obtain ⟨hc, hf⟩ := bcell hb1; have hz1 := hb1.size)
          go_meet
          exact ⟨by rw [HT.out]; exact (HM.out.below hb1).setT, fun _ => HH.out⟩
        | true =>
          have HH := Lib.hid hh
          clear hh
          go_wp2_with (go_at_call 28; refine (holds_any W z W.fr _ (hv.below bw) hW).mono ?_; rintro e w1 ⟨rfl, hb1⟩; rw [HH.out]; obtain ⟨hc, hf⟩ := bcell hb1; have hz1 := hb1.size)
          refine ⟨.int .i64 W.fr, by simp [results, Tryd.results29, go_sem, *], ret_int (nextF_of (next_early hW hlt HH.out)).symm, ?_⟩
          repeat (first | exact below_step bw hb1 | refine below_set ?_ (by simp; omega) _)
      · have HT : Hid ((if t < W.fr then W.fr else t) = t) := if_neg hlt
        have HM := Lib.hid (show NextMem w W z t (endT W) wc from ⟨sz, bw, c0, c1, c2, c3, c4, z0, z1, ct, ft, cr, fr, ce⟩)
        go_wp2_with fail
        go_meet
        exact ⟨by rw [HT.out]; exact HM.out, fun h => absurd h (by omega)⟩
    case rest =>
      obtain ⟨hM, hNF⟩ := hcut
      clear sz bw c0 c1 c2 c3 c4 z0 z1 ct ft cr fr ce s0 s1 s2 s3
      have ok := winB_iff.1 hW
      have hf0 := ok.f0
      have hf1 := ok.f1
      have ht1 : W.fr ≤ (if t < W.fr then W.fr else t) := by split <;> omega
      have ht2 : (if t < W.fr then W.fr else t) ≤ 268435456 := by split <;> omega
      have HN : Hid (∀ r, NextSpec (holdsB W z) (if t < W.fr then W.fr else t) r → nextF (holdsB W z) t = r) := fun r h => by
        by_cases hlt : t < W.fr
        · rw [if_pos hlt] at h
          exact nextF_of (next_from hlt (hNF hlt) h)
        · rw [if_neg hlt] at h
          exact nextF_of h
      clear hNF
      generalize (if t < W.fr then W.fr else t) = u at *
      have heb : endT W ≤ 268435457 ∧ 0 ≤ endT W := by
        have := ok.t
        unfold endT; split <;> omega
      obtain ⟨sz, bw, c0, c1, c2, c3, c4, z0, z1, ct, ft, cr, fr, ce⟩ := hM
      have s0 : w.heap.size < wc.heap.size := by omega
      have s1 : w.heap.size + 1 < wc.heap.size := by omega
      have s2 : w.heap.size + 1 + 1 < wc.heap.size := by omega
      have s3 : w.heap.size + 1 + 1 + 1 < wc.heap.size := by omega
      by_cases hlate : endT W ≤ u
      · have HX := Lib.hid (HN.out _ (next_late hW hlate ht2))
        clear ok
        go_wp2_with fail
        refine ⟨.int .i64 (-1), by simp [results, Tryd.results29, go_sem, *], ret_int HX.out.symm, ?_⟩
        repeat (first | exact bw | refine below_set ?_ (by simp; omega) _)
      · have HM := Lib.hid (show NextMem w W z u (endT W) wc from ⟨sz, bw, c0, c1, c2, c3, c4, z0, z1, ct, ft, cr, fr, ce⟩)
        have hel : u < endT W := by omega
        clear ok hlate
        go_wp2_with fail
        refine (holds_any W z u _ (hv.below bw) hW).mono ?_
        rintro e w1 ⟨rfl, hb1⟩
        clear sz bw c0 c1 c2 c3 c4 z0 z1 ct ft cr fr ce s0 s1 s2 s3
        have HM1 := Lib.hid (HM.out.below hb1)
        obtain ⟨sz, bw, c0, c1, c2, c3, c4, z0, z1, ct, ft, cr, fr, ce⟩ := HM1.out
        clear hb1 HM
        have s0 : w.heap.size < w1.heap.size := by omega
        have s1 : w.heap.size + 1 < w1.heap.size := by omega
        have s2 : w.heap.size + 1 + 1 < w1.heap.size := by omega
        have s3 : w.heap.size + 1 + 1 + 1 < w1.heap.size := by omega
        by_cases hall : W.st = W.en ∧ (W.dy = 0 ∨ W.dy = 127)
        · obtain ⟨he, hd⟩ := hall
          have HX := Lib.hid (HN.out _ (calm_all hW hz he hd ht1 hel))
          have e1 : (W.st != W.en) = false := by simp [he]
          have e2 : ((W.dy != 0) = false) ∨ ((W.dy != 0) = true ∧ (W.dy != 127) = false) := by
            rcases hd with h | h
            · exact .inl (by simp [h])
            · exact .inr ⟨by simp [h], by simp [h]⟩
          clear he hd HN
          generalize holdsB W z u = on at *
          have hto : decide (0 ≤ W.to) = true ∨ decide (0 ≤ W.to) = false := by cases decide (0 ≤ W.to) <;> simp
          rcases e2 with e2 | ⟨e2, e3⟩
          all_goals cases on
          all_goals rcases hto with hto | hto
          all_goals
            go_wp2_with fail
            first
              | refine ⟨.int .i64 W.to, by simp [results, Tryd.results29, go_sem, *], ret_int (by rw [HX.out, hto]; rfl), ?_⟩
              | refine ⟨.int .i64 (-1), by simp [results, Tryd.results29, go_sem, *], ret_int (by rw [HX.out, hto]; rfl), ?_⟩
            repeat (first | exact bw | refine below_set ?_ (by simp; omega) _ | refine below_alloc ?_ _)
        · have e0 : ((W.st != W.en) = true) ∨ ((W.st != W.en) = false ∧ (W.dy != 0) = true ∧ (W.dy != 127) = true) := by
            by_cases he : W.st = W.en
            · exact .inr ⟨by simp [he], by simp; omega, by simp; omega⟩
            · exact .inl (by simp [he])
          clear hall
          have HON : ∃ on, Hid (holdsB W z u = on) := ⟨_, rfl⟩
          obtain ⟨on, HON⟩ := HON
          rw [HON.out]
          go_upto_region 11 with fail
          go_cut [53] from 39 to 53 (fun s wx => s = .bool true ∧ wx = w1.alloc (.cells #[.bool on] 4))
          case first =>
            rcases e0 with e0 | ⟨e0, e1, e2⟩
            all_goals
              go_wp2_with fail
              go_meet
              exact ⟨rfl, rfl⟩
          case rest =>
          obtain ⟨rfl, rfl⟩ := hcut
          go_wp2_with fail
          refine (edges_any W z _ hW hz).mono ?_
          rintro e w2 ⟨v2, rfl, hv2, hb2⟩
          obtain ⟨A2, c2', rfl, hl2, hm2, hs2⟩ := hv2
          rw [List.length_map] at hl2 ⊢
          obtain ⟨hc, hf⟩ := bcell hb2
          have hz2 := hb2.size
          simp only [World.size_alloc, Nat.add_one_le_iff] at hz2
          have r0 : w.heap.size < w2.heap.size := by omega
          have r1 : w.heap.size + 1 < w2.heap.size := by omega
          have r2 : w.heap.size + 1 + 1 < w2.heap.size := by omega
          have r3 : w.heap.size + 1 + 1 + 1 < w2.heap.size := by omega
          have r4 : w.heap.size + 1 + 1 + 1 + 1 < w2.heap.size := by omega
          have q0 : w.heap.size < w1.heap.size + 1 := by omega
          have q1 : w.heap.size + 1 < w1.heap.size + 1 := by omega
          have q2 : w.heap.size + 1 + 1 < w1.heap.size + 1 := by omega
          have q3 : w.heap.size + 1 + 1 + 1 < w1.heap.size + 1 := by omega
          have q4 : w.heap.size + 1 + 1 + 1 + 1 < w1.heap.size + 1 := by omega
          go_wp2_with fail
          refine (days_any _ _ _).mono ?_
          rintro e w3 ⟨rfl, hb3, hg3, d0, d1⟩
          rw [World.size_alloc] at hg3 d0 d1
          have hb13 : Below w1.heap.size w1 w3 := below_step (below_alloc (below_step (below_alloc (Below.refl _ _) _) hb2) _) hb3
          have hbo : Below (w1.alloc (.cells #[.bool on] 4)).heap.size (w1.alloc (.cells #[.bool on] 4)) w3 := below_step (below_alloc hb2 _) hb3
          have hon : w3.cell? ⟨w1.heap.size, 0, none⟩ = some (.bool on) := (hbo.cell (p := ⟨w1.heap.size, 0, none⟩) (by simp)).trans (by simp)
          have hsl : w3.cell? ⟨w2.heap.size, 0, none⟩ = some (.slice A2 (edgesL W z).length c2') := (hb3.cell (p := ⟨w2.heap.size, 0, none⟩) (by simp)).trans (by simp)
          have HSL := Lib.hid (hs2.below (below_alloc (Below.refl _ _) _ |>.trans (hb3.mono (by simp))))
          have HM3 := Lib.hid (HM1.out.below hb13)
          have hL := edges_ok W z
          have hb3w : Below w.heap.size w w3 := HM3.out.bw
          have g0 : w.heap.size < w3.heap.size := by have := hb13.size; omega
          have g1 : w.heap.size + 1 < w3.heap.size := by have := hb13.size; omega
          have g2 : w.heap.size + 1 + 1 < w3.heap.size := by have := hb13.size; omega
          have g3 : w.heap.size + 1 + 1 + 1 < w3.heap.size := by have := hb13.size; omega
          have g4 : w.heap.size + 1 + 1 + 1 + 1 < w3.heap.size := by have := hb13.size; omega
          have g5 : w1.heap.size < w3.heap.size := by have := hbo.size; simp at this; omega
          have g6 : w2.heap.size < w3.heap.size := by have := hb3.size; simp at this; omega
          clear sz bw c0 c1 c2 c3 c4 z0 z1 ct ft cr fr ce s0 s1 s2 s3 r0 r1 r2 r3 r4 q0 q1 q2 q3 q4 hc hf hz2 hb2 hb3 hbo hs2 HM1
          obtain ⟨sz, bw, c0, c1, c2, c3, c4, z0, z1, ct, ft, cr, fr, ce⟩ := HM3.out
          clear sz bw
          go_wp2_with fail
          refine (wpIn_wide (n := 6)).1 ?_
          refine wpIn_rangeFunc_ownF (F := Fence.wide) rfl (by omega) (gf := 66) (lb := #[.pointer (some ⟨w2.heap.size + 1, 0, none⟩)]) rfl trivial (enters_of Tryd.func66 (by kernel_rfl) rfl)
            (days_stops 5 (by omega) _ (u + 1) (endT W) (u + 1 - (u + 1) % 1440) rfl (by omega) (by omega) (by omega) (by omega) w3 hg3 d0 d1) belowK_t (belowK_b (Nat.le_refl _)) (Below.refl _ _) (fun _ => rfl)
            (fun pre W' => NoHit (holdsB W z) u (endT W) (u + 1 - (u + 1) % 1440) (edgesL W z) pre ∧ Below w3.heap.size w3 W')
            (fun c pre W' => (c = .ret ∧ (∃ r, W'.cell? ⟨w.heap.size + 1 + 1 + 1, 0, none⟩ = some (.int .i64 r) ∧ Found (holdsB W z) u (endT W) (u + 1 - (u + 1) % 1440) (edgesL W z) pre r)) ∧ Below w.heap.size w W')
            (OwnFrom.and (ownFrom_pure _ _) (ownFrom_below (Nat.le_refl _) (Nat.le_refl _)))
            (fun c => OwnFrom.and (fun s A B row ⟨h1, r, h2, h3⟩ hg hr => ⟨h1, r, cell_kept h2 hg (fun r e => (hr r e).2), h3⟩) (ownFrom_below (Nat.le_refl _) hb3w.size))
            ⟨fun k hk => by simp at hk, Below.refl _ _⟩ ?a1 ?assign ?body ?done ?stop
          case assign =>
            intro l x W' K hK
            gi_wp2
            exact hK
          case body =>
            rintro l pre x W' ⟨hN, hB⟩ hlen
            have HNO := Lib.hid hN
            obtain ⟨hc, hf⟩ := bcell hB
            have HSW := Lib.hid (HSL.out.below hB)
            have hbw' : Below w.heap.size w W' := hb3w.trans (hB.mono hb3w.size)
            have HVW := Lib.hid (hv.below hbw')
            have hBz := hB.size
            have k0 : w.heap.size < W'.heap.size := by omega
            have k1 : w.heap.size + 1 < W'.heap.size := by omega
            have k2 : w.heap.size + 1 + 1 < W'.heap.size := by omega
            have k3 : w.heap.size + 1 + 1 + 1 < W'.heap.size := by omega
            have k4 : w.heap.size + 1 + 1 + 1 + 1 < W'.heap.size := by omega
            have k5 : w1.heap.size < W'.heap.size := by omega
            have k6 : w2.heap.size < W'.heap.size := by omega
            clear hN d0 d1 hlen
            generalize hA : dayAt (u + 1 - (u + 1) % 1440) x = dx at *
            have hdx0 : 0 ≤ dx ∧ dx ≤ 600000000 := by rw [← hA]; unfold dayAt; omega
            have HA := Lib.hid hA
            clear hA
            gi_wp2
            gi_loopw [65] (fun i wr => ∃ j : Nat, j ≤ (edgesL W z).length ∧ i = .int .i64 j ∧ Below W'.heap.size W' wr ∧ Hid (∀ i (hi : i < j) (hl : i < (edgesL W z).length), NoHitAt (holdsB W z) u (endT W) (dx + (edgesL W z)[i]))) (fun i _ => (edgesL W z).length - (intOf i).toNat)
            case atStart => exact ⟨0, by omega, rfl, Below.refl _ _, fun i hi => by omega⟩
            case round =>
              obtain ⟨j, hj, rfl, hbr, HJ⟩ := hrel
              by_cases hlt : j < (edgesL W z).length
              · have hji : (j : Int) < ((edgesL W z).length : Int) := by omega
                have hj9 : (j : Int) ≤ 7 := by have := edgesL_len W z; omega
                obtain ⟨hcr, hfr⟩ := bcell hbr
                obtain ⟨b, off, rfl, hbb, hcell⟩ := int_at (HSW.out.below hbr) hlt
                have hm := hL.rng _ (List.getElem_mem hlt)
                have HJ2 : Hid (NoHitAt (holdsB W z) u (endT W) (dx + (edgesL W z)[j]) → ∀ i (hi : i < j + 1) (hl : i < (edgesL W z).length), NoHitAt (holdsB W z) u (endT W) (dx + (edgesL W z)[i])) := fun h i hi hl => by
                  by_cases e : i = j
                  · subst e; exact h
                  · exact HJ.out i (by omega) hl
                have HFO : Hid (u < dx + (edgesL W z)[j] → dx + (edgesL W z)[j] < endT W → holdsB W z (dx + (edgesL W z)[j]) ≠ holdsB W z u → Found (holdsB W z) u (endT W) (u + 1 - (u + 1) % 1440) (edgesL W z) (pre ++ [x]) (dx + (edgesL W z)[j])) := fun h1 h2 h3 =>
                  ⟨pre, x, j, hlt, rfl, HNO.out, fun i hi => by rw [HA.out]; exact HJ.out i hi (by omega), by rw [HA.out], h1, h2, h3⟩
                generalize hM : (edgesL W z)[j] = m at *
                have wv : IntKind.i64.wrap (dx + m) = dx + m := IntWalk.i64_in _ (by omega)
                by_cases h1 : u < dx + m
                · by_cases h2 : dx + m < endT W
                  · by_cases h3 : holdsB W z (dx + m) = on
                    · have HJ3 := Lib.hid (HJ2.out (fun h => h.2.2 (by rw [HON.out]; exact h3)))
                      have HC3 := Lib.hid (fun (w : World) (hv : LenV w) => h3 ▸ holds_any W z (dx + m) w hv hW)
                      clear h3
                      cases on
                      all_goals
                        gi_wp2
                        refine wpIn_region_kept W' (by rintro ⟨a9, w9, h9⟩; exact h9) (by kernel_rfl) (by kernel_rfl) (by kernel_rfl) (by assumption) ?_; (repeat (go_big_quiet_step (((go_at_call 28; exact kept_call (HC3.out _ (HVW.out.below (after_kept _).2))))))); refine wpQuiet_nil ?_; intro _ hw'; obtain ⟨x9, hw''⟩ := hw'; subst hw''; have hk9 := after_kept x9; generalize after x9 = w9 at *; obtain ⟨hc9, hf9⟩ := bcell hk9.2
                        gi_wp2
                        go_roundw
                        case measure => simp [intOf]; omega
                        case rel => exact ⟨j + 1, by omega, by go_num, hk9.2, HJ3.out⟩
                    · have HF := Lib.hid (HFO.out h1 h2 (by rw [HON.out]; exact h3))
                      have h4 : holdsB W z (dx + m) = !on := by cases hh : holdsB W z (dx + m) <;> cases on <;> simp_all
                      have HC3 := Lib.hid (fun (w : World) (hv : LenV w) => h4 ▸ holds_any W z (dx + m) w hv hW)
                      clear h3 h4
                      cases on
                      all_goals
                        gi_wp2
                        refine wpIn_region_kept W' (by rintro ⟨a9, w9, h9⟩; exact h9) (by kernel_rfl) (by kernel_rfl) (by kernel_rfl) (by assumption) ?_; (repeat (go_big_quiet_step (((go_at_call 28; exact kept_call (HC3.out _ (HVW.out.below (after_kept _).2))))))); refine wpQuiet_nil ?_; intro _ hw'; obtain ⟨x9, hw''⟩ := hw'; subst hw''; have hk9 := after_kept x9; generalize after x9 = w9 at *; obtain ⟨hc9, hf9⟩ := bcell hk9.2
                        gi_wp2
                        exact ⟨(keeps_of_below hk9.2).trans (KeepsOthers.setCell _ _ _), ⟨rfl, _, World.cell?_setCell_same' _ _ _ (by rw [hc9 _ _ k3, hc _ _ g3, cr]; rfl), HF.out⟩, below_set (below_step hbw' hk9.2) (by simp; omega) _⟩
                  · have e2 : decide (dx + m < endT W) = false := by simpa using h2
                    have HJ3 := Lib.hid (HJ2.out (fun h => h2 h.2.1))
                    clear h2
                    gi_wp2
                    refine wpIn_region_kept W' (by rintro ⟨a9, w9, h9⟩; exact h9) (by kernel_rfl) (by kernel_rfl) (by kernel_rfl) (by assumption) ?_; (repeat (go_big_quiet_step (((go_at_call 28; exact kept_call (holds_any W z _ _ (HVW.out.below (after_kept _).2) hW)))))); refine wpQuiet_nil ?_; intro _ hw'; obtain ⟨x9, hw''⟩ := hw'; subst hw''; have hk9 := after_kept x9; generalize after x9 = w9 at *; obtain ⟨hc9, hf9⟩ := bcell hk9.2
                    gi_wp2
                    go_roundw
                    case measure => simp [intOf]; omega
                    case rel => exact ⟨j + 1, by omega, by go_num, hk9.2, HJ3.out⟩
                · have e1 : decide (u < dx + m) = false := by simpa using h1
                  have HJ3 := Lib.hid (HJ2.out (fun h => h1 h.1))
                  clear h1
                  gi_wp2
                  refine wpIn_region_kept W' (by rintro ⟨a9, w9, h9⟩; exact h9) (by kernel_rfl) (by kernel_rfl) (by kernel_rfl) (by assumption) ?_; (repeat (go_big_quiet_step (((go_at_call 28; exact kept_call (holds_any W z _ _ (HVW.out.below (after_kept _).2) hW)))))); refine wpQuiet_nil ?_; intro _ hw'; obtain ⟨x9, hw''⟩ := hw'; subst hw''; have hk9 := after_kept x9; generalize after x9 = w9 at *; obtain ⟨hc9, hf9⟩ := bcell hk9.2
                  gi_wp2
                  go_roundw
                  case measure => simp [intOf]; omega
                  case rel => exact ⟨j + 1, by omega, by go_num, hk9.2, HJ3.out⟩
              · have hjl : j = (edgesL W z).length := by omega
                have HNS : Hid (NoHit (holdsB W z) u (endT W) (u + 1 - (u + 1) % 1440) (edgesL W z) (pre ++ [x])) := fun k hk mm hmm => by
                  rcases List.mem_append.1 hk with hk | hk
                  · exact HNO.out k hk mm hmm
                  · obtain rfl : k = x := by simpa using hk
                    obtain ⟨i, hi, rfl⟩ := List.mem_iff_getElem.1 hmm
                    rw [HA.out]
                    exact HJ.out i (by omega) hi
                have hge : ¬ ((j : Int) < ((edgesL W z).length : Int)) := by omega
                clear hjl
                gi_wp2
                exact ⟨keeps_of_below hbr, hbr.mono hBz, HNS.out, hB.trans (hbr.mono hBz)⟩
          case done =>
            rintro D xs W' hD rfl ⟨hN, hB⟩ hK
            have hx0 := HN.out _ (next_none hW hz ht1 hel (nohit_all hL rfl (by omega) (cntD_le (by omega) heb.1) (fun k h => cntD_lt.2 h) hN))
            rw [HON.out] at hx0
            have HX := Lib.hid hx0
            clear hx0
            obtain ⟨hc, hf⟩ := bcell hB
            have hto : decide (0 ≤ W.to) = true ∨ decide (0 ≤ W.to) = false := by cases decide (0 ≤ W.to) <;> simp
            have hcs : ∀ V : Int, (W'.setCell ⟨w.heap.size + 1 + 1 + 1, 0, none⟩ (.int .i64 V)).cell? ⟨w.heap.size + 1 + 1 + 1, 0, none⟩ = some (.int .i64 V) := fun V => World.cell?_setCell_same' _ _ _ (by rw [hc _ _ g3, cr]; rfl)
            have HCS := Lib.hid hcs
            clear hcs
            have hbw' : Below w.heap.size w W' := hb3w.trans (hB.mono hb3w.size)
            cases on
            all_goals rcases hto with hto | hto
            all_goals
              go_wp2_with fail
              exact finish_next rfl (HCS.out _) ((KeepsOthers.setCell _ _ _).same D _ hK rfl) (by omega) (below_set hbw' (by simp; omega) _) (by rw [HX.out, hto]; rfl)
          case stop =>
            rintro D c pre W' hD ⟨k0, hk0, rfl⟩ ⟨⟨rfl, r, hr, hfd⟩, hB⟩ hK
            obtain ⟨f1, f2, f3, f4⟩ := found_next hL rfl (by omega) hk0 (cntD_le (by omega) heb.1) hfd
            have HX := Lib.hid (HN.out _ (next_found hW hz ht1 f1 f2 f3 f4))
            gi_wp2
            exact finish_next rfl hr hK (by omega) hB HX.out.symm

end Go.Proofs.YtpknjblgbpndlaaDoor
