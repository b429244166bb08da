/-
  Walks: Sums of the reference.
-/
import Derived.Test.YtkjggfhbnhpdnaaDoorWSite11
import Derived.IntWalk
import Derived.Test.YtkjggfhbnhpdnaaDoorTail
namespace Go.Proofs.YtkjggfhbnhpdnaaDoor
open Go.RowKit Go.Lib Go.Maps
set_option linter.unusedVariables false

theorem phase_shift {ph : Int} (h1 : 1 ≤ ph) (h7 : ph ≤ 7) : bits .and .i64 (ph / 2) 1 = ph / 2 % 2 ∧ bits .and .i64 (ph / 4) 1 = ph / 4 % 2 := by
  have h : ph = 1 ∨ ph = 2 ∨ ph = 3 ∨ ph = 4 ∨ ph = 5 ∨ ph = 6 ∨ ph = 7 := by omega
  rcases h with rfl | rfl | rfl | rfl | rfl | rfl | rfl <;> exact ⟨by kernel_rfl, by kernel_rfl⟩

/-- one load of a round: four stores -/
theorem path_at {w : World} {A : Option Addr} {l : List Nat} (h : SlAt w 1 A (l.map encN)) {k : Nat} (hk : k < l.length) :
    ∃ b off, A = some ⟨b, off, none⟩ ∧ b < w.heap.size ∧ w.cell? ⟨b, off + k, none⟩ = some (.int .i64 (l[k] : Nat)) := by
  obtain ⟨b, off, e, hb, hc⟩ := h k (encN l[k]) (by rw [List.getElem?_map, List.getElem?_eq_getElem hk]; rfl)
  refine ⟨b, off, e, hb, ?_⟩
  have := hc 0 _ rfl
  simpa using this

theorem addPath_take {L : List CapR} {l : List Nat} {j : Nat} (h : j < l.length) (ph q : Int) : addPath L (l.take (j + 1)) ph q = (addPath L (l.take j) ph q).modify l[j] (fun c => addC c ph q) := by
  rw [List.take_succ_eq_append_getElem h, addPath_snoc]
theorem path_step {F : List Feed} {P : List Pnt} {Z : List (WantR × Int)} {l : List Nat} {j : Nat} {ph q : Int} (hj : j < l.length) (hd : l.Pairwise (fun a b => b < a)) (hl : ∀ f ∈ l, f < F.length) :
    (addPath (loadL F P Z) (l.take j) ph q)[l[j]]? = some (capAt F P l[j] Z) ∧ setAll ((addPath (loadL F P Z) (l.take j) ph q).flatMap CapR.cells) (l[j] * 4) (addC (capAt F P l[j] Z) ph q).cells = (addPath (loadL F P Z) (l.take (j + 1)) ph q).flatMap CapR.cells := by
  have hlt : l[j] < F.length := hl _ (List.getElem_mem hj)
  have hn : l[j] ∉ l.take j := by
    intro hm
    have h2 := hd
    rw [← List.take_append_drop j l, List.pairwise_append] at h2
    have h3 : l[j] ∈ l.drop j := by
      rw [List.drop_eq_getElem_cons hj]; exact List.mem_cons_self
    have := h2.2.2 _ hm _ h3
    omega
  have hg : (addPath (loadL F P Z) (l.take j) ph q)[l[j]]? = some (capAt F P l[j] Z) := by
    rw [addPath_get (hd.sublist (List.take_sublist j l)), if_neg hn, loadL_get hlt]
  refine ⟨hg, ?_⟩
  have hlt2 := (List.getElem?_eq_some_iff.1 hg).1
  rw [set_row CapR.cells_len (by omega) _ _ hlt2, addPath_take hj, addPath_step (F := F) hg]

theorem SlAt.other {w : World} {size : Nat} {A : Option Addr} {rows : List (List Value)} (h : SlAt w size A rows) {g : Nat} (hA : ∀ b off, A = some ⟨b, off, none⟩ → b ≠ g) (k : Nat) (v : Value) : SlAt (w.setCell ⟨g, k, none⟩ v) size A rows := fun j row hj => by
  obtain ⟨b, off, e, hlt, hc⟩ := h j row hj
  exact ⟨b, off, e, by simpa [World.setCell] using hlt, fun i u hu => (far_cell (hA b off e) w k v _).trans (hc i u hu)⟩

theorem pathL_short {l : List Nat} {n : Nat} (hd : l.Pairwise (fun a b => b < a)) (hl : ∀ f ∈ l, f < n) : l.length ≤ n := by
  induction l generalizing n with
  | nil => simp
  | cons x l ih =>
    rw [List.pairwise_cons] at hd
    have := ih hd.2 hd.1
    have := hl x (by simp)
    simp; omega

set_option maxRecDepth 100000 in
set_option maxHeartbeats 12800000 in
theorem sums_any (S : SiteR) (W : List WantR) (pw : List Int) (fv pv wv zv : Value) (w : World) (hF : IsSl w 5 fv (S.F.map Feed.cells)) (hP : IsSl w 5 pv (S.P.map Pnt.cells)) (hW : IsSl w 3 wv (W.map WantR.cells)) (hZ : IsSl w 1 zv (pw.map encZ))
    (hS : SiteOk S) (hl : W.length = pw.length) (hall : (W.zip pw).all (wantB S.P) = true) (hlW : W.length ≤ 1000) :
    Calls Tryd.prog 38 #[.agg #[.string S.name, fv, pv], wv, zv] w
      fun e w' => ∃ v, e = .returned v ∧ IsSl w' 4 v ((loadL S.F S.P (W.zip pw)).map CapR.cells) ∧ Below w.heap.size w w' := by
  have HIF := Lib.hid hF
  obtain ⟨A, c, rfl, hlc, hcm, hsl⟩ := islen' hF
  obtain ⟨B, d, rfl, hld, hdm, hsp⟩ := islen' hP
  obtain ⟨C, c', rfl, hlc', hcm', hsw⟩ := islen' hW
  obtain ⟨D, d', rfl, hld', hdm', hsz⟩ := islen' hZ
  obtain ⟨W0, hW0, hb0, hg0, hx0⟩ := box1 w #[.string S.name, .slice A S.F.length c, .slice B S.P.length d] 25
  have HIF0 := Lib.hid (HIF.out.below hb0)
  have HSP := Lib.hid (hsp.below hb0)
  have HSW := Lib.hid (hsw.below hb0)
  have HSZ := Lib.hid (hsz.below hb0)
  have HOK := Lib.hid hS
  have HALL := Lib.hid hall
  have HZL : Hid ((W.zip pw).length = W.length) := by unfold Hid; simp; omega
  have HZG := Lib.hid (fun (k : Nat) (h1 : k < W.length) (h2 : k < pw.length) => And.intro (zip_take_snoc h1 h2) (wantB_iff.1 (List.all_eq_true.1 hall (W[k], pw[k]) (by rw [List.mem_iff_getElem]; exact ⟨k, by simp; omega, by simp⟩))))
  have hlF := HOK.out.lF
  have hlP := HOK.out.lP
  clear hF hP hW hZ hsl hsp hsw hsz hlc hld hlc' hld' hcm hdm hcm' hdm' hS hall HIF
  generalize W.zip pw = Z at *
  obtain ⟨i0, hi0, hz0, hz1, hz2⟩ := info_parts capInfo
  have hmk := fun W => run_make_rowZ (P := Tryd.prog) 27 47 i0 _ Tryd.underlying27 hi0 hz0 .i64 .i64 S.F.length S.F.length (S.F.length : Int) (S.F.length : Int) rfl rfl (by omega) (by rw [hz2]; omega) (by omega) W
  rw [hz1] at hmk
  have HZC := Lib.hid (zero_cells S.F.length)
  generalize madeCells _ (S.F.length * 4) = ZC at hmk HZC
  have HL := Lib.hid hl
  clear hl
  go_enter Tryd.func38, Tryd.ntmps38
  go_wp2_with fail
  have hs0 : W0.heap.size = w.heap.size + 1 := by rw [hW0]; simp
  rw [← hW0, ← hs0]
  clear hmk hW0
  have HS0 := Lib.hid hs0
  clear hs0
  have HB1 : Hid (Blk (W0.alloc (.cells ZC 47)) W0.heap.size 47 ((loadL S.F S.P (Z.take 0)).flatMap CapR.cells)) := by
    refine Blk.new' rfl _ _ ?_
    rw [HZC.out]; rfl
  go_loopw [8] (fun i wr => ∃ k : Nat, k ≤ W.length ∧ i = .int .i64 k ∧ Below W0.heap.size W0 wr ∧ W0.heap.size < wr.heap.size ∧ Hid (Blk wr W0.heap.size 47 ((loadL S.F S.P (Z.take k)).flatMap CapR.cells))) (fun i _ => W.length - (intOf i).toNat)
  case atStart => exact ⟨0, by omega, rfl, below_alloc (Below.refl _ _) _, by simp, HB1⟩
  case round =>
    obtain ⟨k, hk, rfl, hbw, hgm, HB⟩ := hrel
    clear HB1 HZC
    obtain ⟨hc, hf⟩ := bcell hbw
    by_cases hlt : k < W.length
    · have hki : (k : Int) < (W.length : Int) := by omega
      have hlt2 : k < pw.length := by have := HL.out; omega
      have hki2 : (k : Int) < (pw.length : Int) := by omega
      obtain ⟨hzs, hrt⟩ := HZG.out k hlt hlt2
      have HZS := Lib.hid hzs
      have HRT := Lib.hid hrt
      clear hzs hrt
      obtain ⟨bw, offw, rfl, hbb, c0, c1, c2⟩ := want_at HSW.out hlt
      obtain ⟨bz, offz, rfl, hbz, d0⟩ := int_at HSZ.out hlt2
      generalize W[k] = x at *
      generalize pw[k] = q at *
      obtain ⟨j, hj⟩ : ∃ j : Nat, x.point = j := ⟨x.point.toNat, by have := HRT.out.p0; simp at this; omega⟩
      have hjl : j < S.P.length := by have := HRT.out.p1; simp at this; omega
      have hjli : (j : Int) < (S.P.length : Int) := by omega
      have HWP := Lib.hid (wantPath_eq (F := S.F) (x := x) hjl hj)
      obtain ⟨bp, offp, rfl, hbp, e0, e1, e2, e3, e4⟩ := pnt_at HSP.out hjl
      generalize S.P[j] = y at *
      rw [hj] at c0
      have hq0 : 0 ≤ q := HRT.out.w0
      have hq1 : q ≤ 1048576 := HRT.out.w1
      have hph1 : 1 ≤ x.phases := HRT.out.h1
      have hph7 : x.phases ≤ 7 := HRT.out.h7
      have HBD : Hid (∀ z ∈ Z.take k, 0 ≤ z.2 ∧ z.2 ≤ 1048576) := fun z hz => take_bd HALL.out z (List.mem_of_mem_take hz)
      have hlk : (Z.take k).length ≤ 1000 := by have := List.length_take_le k Z; omega
      clear hj
      go_wp2_with fail
      (refine wp_still_tail 11 (by kernel_rfl) (by kernel_rfl) ?_; simp only [List.take_succ_cons, List.take_zero, List.drop_succ_cons, List.drop_zero]; (repeat still_step); (try refine wpStill_nil ?_))
      go_wp2_with fail
      refine (refPath_any S.name S.F (.slice A S.F.length c) (some ⟨bp, offp, none⟩) S.P.length d y.feeder _ (HIF0.out.below hbw.drew) (by omega)).mono ?_
      rintro e w2 ⟨v2, rfl, hv2, hb2, hfr⟩
      have HPD := Lib.hid (pathL_desc (F := S.F) (last := S.F.length) (i := y.feeder))
      have HPL := Lib.hid (pathL_lt (F := S.F) (last := S.F.length) (i := y.feeder))
      rw [← HWP.out] at hv2 HPD HPL
      generalize hWE : wantPath S.F S.P x = l at *
      have HWE := Lib.hid hWE
      clear hWE
      obtain ⟨E, c2', rfl, hl2, hm2, hsl2⟩ := islen' hv2
      have hll := pathL_short HPD.out HPL.out
      have HFR : Hid (∀ b off, E = some ⟨b, off, none⟩ → b ≠ W0.heap.size) := fun b off h => by
        have := hfr b off _ _ (by rw [h])
        have h2 : wr.drew.heap.size = wr.heap.size := rfl
        omega
      clear hfr
      have HS2 := Lib.hid hsl2
      have hbw2 : Below W0.heap.size W0 w2 := hbw.drew.trans (hb2.mono hbw.drew.size)
      have HB2 : Hid (Blk w2 W0.heap.size 47 ((addPath (loadL S.F S.P (Z.take k)) (l.take 0) x.phases q).flatMap CapR.cells)) := HB.out.drew.below hb2 hgm
      have hgm2 : W0.heap.size < w2.heap.size := Nat.lt_of_lt_of_le hgm hb2.size
      clear hv2 hsl2 hc hf
      go_wp2_with fail
      go_loopw [10] (fun i wi => ∃ n : Nat, n ≤ l.length ∧ i = .int .i64 n ∧ Below W0.heap.size W0 wi ∧ w2.heap.size ≤ wi.heap.size ∧ (Hid (SlAt wi 1 E (l.map encN))) ∧ Hid (Blk wi W0.heap.size 47 ((addPath (loadL S.F S.P (Z.take k)) (l.take n) x.phases q).flatMap CapR.cells))) (fun i _ => l.length - (intOf i).toNat)
      case atStart => exact ⟨0, by omega, rfl, hbw2, Nat.le_refl _, HS2, HB2⟩
      case round =>
        clear hbw HB2 hb2 HS2
        obtain ⟨n, hn, rfl, hbi, hzi, HSi, HBi⟩ := hrel
        obtain ⟨hc, hf⟩ := bcell hbi
        by_cases hnl : n < l.length
        · have hni : (n : Int) < (l.length : Int) := by omega
          obtain ⟨be, offe, rfl, hbe, f0⟩ := path_at HSi.out hnl
          have HLS := Lib.hid (path_step (P := S.P) (Z := Z.take k) (ph := x.phases) (q := q) hnl HPD.out HPL.out)
          have hfl := HPL.out _ (List.getElem_mem hnl)
          generalize l[n] = f at *
          have hfl2 : (f : Int) < (S.F.length : Int) := by omega
          have HCO := capAt_ok (F := S.F) (P := S.P) (f := f) HBD.out
          generalize capAt S.F S.P f (Z.take k) = cc at *
          obtain ⟨a0, a1, b0, b1, g0, g1, ht⟩ := HCO
          have HT := Lib.hid ht
          clear ht
          generalize hLL : addPath (loadL S.F S.P (Z.take k)) (l.take n) x.phases q = LL at *
          have hnL : f < LL.length := (List.getElem?_eq_some_iff.1 HLS.out.1).1
          have HFL := Lib.hid (fun j u h => flat_at CapR.cells 4 CapR.cells_len LL f cc HLS.out.1 j u h)
          have x0 := (HBi.out.cell (f * 4)).trans (HFL.out 0 _ rfl)
          have x1 := (HBi.out.cell (f * 4 + 1)).trans (HFL.out 1 _ rfl)
          have x2 := (HBi.out.cell (f * 4 + 2)).trans (HFL.out 2 _ rfl)
          have x3 := (HBi.out.cell (f * 4 + 3)).trans (HFL.out 3 _ rfl)
          have r0 := HBi.out.free (f * 4)
          have r1 := HBi.out.free (f * 4 + 1)
          have r2 := HBi.out.free (f * 4 + 2)
          have r3 := HBi.out.free (f * 4 + 3)
          have hfar := fun (b : Nat) (h : b < W0.heap.size) => far_cell (b := b) (g := W0.heap.size) (by omega)
          have hfar2 := far_cell (b := be) (g := W0.heap.size) (HFR.out _ _ rfl)
          have q1 := (phase_bits hph1 hph7).1
          obtain ⟨q2, q4⟩ := phase_shift hph1 hph7
          have z0 : x.phases % 2 = 0 ∨ x.phases % 2 = 1 := by omega
          have z1 : x.phases / 2 % 2 = 0 ∨ x.phases / 2 % 2 = 1 := by omega
          have z2 : x.phases / 4 % 2 = 0 ∨ x.phases / 4 % 2 = 1 := by omega
          have HADD := Lib.hid (add_c cc x.phases q z0 z1 z2)
          generalize x.phases % 2 = m0 at *
          generalize x.phases / 2 % 2 = m1 at *
          generalize x.phases / 4 % 2 = m2 at *
          obtain ⟨M0, HM0, n0, n0'⟩ : ∃ M0, Hid (q * m0 = M0) ∧ 0 ≤ M0 ∧ M0 ≤ 1048576 := ⟨_, Lib.hid rfl, by rcases z0 with rfl | rfl <;> omega, by rcases z0 with rfl | rfl <;> omega⟩
          obtain ⟨M1, HM1, n1, n1'⟩ : ∃ M1, Hid (q * m1 = M1) ∧ 0 ≤ M1 ∧ M1 ≤ 1048576 := ⟨_, Lib.hid rfl, by rcases z1 with rfl | rfl <;> omega, by rcases z1 with rfl | rfl <;> omega⟩
          obtain ⟨M2, HM2, n2, n2'⟩ : ∃ M2, Hid (q * m2 = M2) ∧ 0 ≤ M2 ∧ M2 ≤ 1048576 := ⟨_, Lib.hid rfl, by rcases z2 with rfl | rfl <;> omega, by rcases z2 with rfl | rfl <;> omega⟩
          have w0 : IntKind.i64.wrap (q * m0) = M0 := by rw [HM0.out]; exact IntWalk.i64_in _ (by omega)
          have w1 : IntKind.i64.wrap (q * m1) = M1 := by rw [HM1.out]; exact IntWalk.i64_in _ (by omega)
          have w2 : IntKind.i64.wrap (q * m2) = M2 := by rw [HM2.out]; exact IntWalk.i64_in _ (by omega)
          clear hLL z0 z1 z2
          go_wp2_with fail
          (refine wp_still_tail 20 (by kernel_rfl) (by kernel_rfl) ?_; simp only [List.take_succ_cons, List.take_zero, List.drop_succ_cons, List.drop_zero]; (repeat still_step); (try refine wpStill_nil ?_))
          go_wp2_with fail
          (refine wp_still_tail 21 (by kernel_rfl) (by kernel_rfl) ?_; simp only [List.take_succ_cons, List.take_zero, List.drop_succ_cons, List.drop_zero]; (repeat still_step); (try refine wpStill_nil ?_))
          go_wp2_with fail
          (refine wp_still_tail 21 (by kernel_rfl) (by kernel_rfl) ?_; simp only [List.take_succ_cons, List.take_zero, List.drop_succ_cons, List.drop_zero]; (repeat still_step); (try refine wpStill_nil ?_))
          go_wp2_with fail
          (refine wp_still_tail 20 (by kernel_rfl) (by kernel_rfl) ?_; simp only [List.take_succ_cons, List.take_zero, List.drop_succ_cons, List.drop_zero]; (repeat still_step); (try refine wpStill_nil ?_))
          go_wp2_with fail
          have hB4 := (((HBi.out.set (f * 4) (.int .i64 (cc.a + M0))).set (f * 4 + 1) (.int .i64 (cc.b + M1))).set (f * 4 + 2) (.int .i64 (cc.c + M2))).set (f * 4 + 3) (.int .i64 (cc.a + M0 + (cc.b + M1) + (cc.c + M2)))
          have hS4 := (((HSi.out.other HFR.out (f * 4) (.int .i64 (cc.a + M0))).other HFR.out (f * 4 + 1) (.int .i64 (cc.b + M1))).other HFR.out (f * 4 + 2) (.int .i64 (cc.c + M2))).other HFR.out (f * 4 + 3) (.int .i64 (cc.a + M0 + (cc.b + M1) + (cc.c + M2)))
          have hb4 : Below W0.heap.size W0 _ := ((((hbi.setCell (p := ⟨W0.heap.size, f * 4, none⟩) (Nat.le_refl _) (.int .i64 (cc.a + M0))).setCell (p := ⟨W0.heap.size, f * 4 + 1, none⟩) (Nat.le_refl _) (.int .i64 (cc.b + M1))).setCell (p := ⟨W0.heap.size, f * 4 + 2, none⟩) (Nat.le_refl _) (.int .i64 (cc.c + M2))).setCell (p := ⟨W0.heap.size, f * 4 + 3, none⟩) (Nat.le_refl _) (.int .i64 (cc.a + M0 + (cc.b + M1) + (cc.c + M2))))
          have hz4 : ((((wr.setCell ⟨W0.heap.size, f * 4, none⟩ (.int .i64 (cc.a + M0))).setCell ⟨W0.heap.size, f * 4 + 1, none⟩ (.int .i64 (cc.b + M1))).setCell ⟨W0.heap.size, f * 4 + 2, none⟩ (.int .i64 (cc.c + M2))).setCell ⟨W0.heap.size, f * 4 + 3, none⟩ (.int .i64 (cc.a + M0 + (cc.b + M1) + (cc.c + M2)))).heap.size = wr.heap.size := by simp [World.setCell]
          have HC4 : Hid ((addC cc x.phases q).cells = [.int .i64 (cc.a + M0), .int .i64 (cc.b + M1), .int .i64 (cc.c + M2), .int .i64 (cc.a + M0 + (cc.b + M1) + (cc.c + M2))]) := by
            unfold Hid
            rw [← HADD.out]
            simp only [CapR.cells]
            rw [HM0.out, HM1.out, HM2.out, HT.out, show cc.a + cc.b + cc.c + M0 + M1 + M2 = cc.a + M0 + (cc.b + M1) + (cc.c + M2) by omega]
          generalize cc.a + M0 + (cc.b + M1) + (cc.c + M2) = t4 at *
          go_roundw
          case measure => simp [intOf]; omega
          case rel =>
            refine ⟨n + 1, by omega, by go_num, by repeat (first | exact hb4 | refine below_drew ?_ | refine below_drewN ?_ _), Nat.le_trans hzi (Nat.le_of_eq hz4.symm), hS4, ?_⟩
            unfold Hid
            rw [← HLS.out.2, HC4.out]
            exact hB4
        · have hnl2 : n = l.length := by omega
          subst hnl2
          have HBf := HBi.out
          rw [List.take_length] at HBf
          clear HBi
          go_wp2_with fail
          go_roundw
          case measure => simp [intOf]; omega
          case rel =>
            refine ⟨k + 1, by omega, by go_num, hbi, by omega, ?_⟩
            unfold Hid
            rw [HZS.out, loadL_snoc]
            show Blk _ _ _ ((addPath _ (wantPath S.F S.P x) x.phases q).flatMap CapR.cells)
            rw [HWE.out]
            exact HBf
    · have hall : Z.take k = Z := List.take_of_length_le (by have := HZL.out; omega)
      have HB' := HB.out
      rw [hall] at HB'
      replace HB' := Lib.hid HB'
      clear hall HB
      go_wp2_with fail
      go_ret
      exact ⟨_, rfl, Blk.isSl CapR.cells_len HB'.out (loadL_len _ _ _) (by unfold maxLen; omega), below_step hb0 hbw⟩

end Go.Proofs.YtkjggfhbnhpdnaaDoor
