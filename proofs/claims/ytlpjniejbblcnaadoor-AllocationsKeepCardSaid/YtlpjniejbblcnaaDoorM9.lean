/-
  Walks: Sums of the reference.
  Walks: Load of the reference.
  Appending all rows of a slice to a row of the call's own. No program is named here.
  Walks: a power is added to a load, in package allocate.
  Walks: fits of package allocate: what fits at a site, as the filling asks it.
-/
import Derived.Test.YtlpjniejbblcnaaDoorM5
import Derived.IntWalk
import Derived.Test.YtlpjniejbblcnaaDoorM6
import Derived.Test.YtlpjniejbblcnaaDoorM2
import Derived.Test.YtlpjniejbblcnaaDoorM4

namespace Go.Proofs.YtlpjniejbblcnaaDoor
open Go.RowKit Go.Lib Go.Maps
set_option linter.unusedVariables false

theorem phase_shift {ph : Int} (h1 : 1 ≤ ph) (h7 : ph ≤ 7) : bits .and .i64 (ph / 2) 1 = ph / 2 % 2 ∧ bits .and .i64 (ph / 4) 1 = ph / 4 % 2 := by
  have h : ph = 1 ∨ ph = 2 ∨ ph = 3 ∨ ph = 4 ∨ ph = 5 ∨ ph = 6 ∨ ph = 7 := by omega
  rcases h with rfl | rfl | rfl | rfl | rfl | rfl | rfl <;> exact ⟨by kernel_rfl, by kernel_rfl⟩

/-- one load of a round: four stores -/
theorem path_at {w : World} {A : Option Addr} {l : List Nat} (h : SlAt w 1 A (l.map encN)) {k : Nat} (hk : k < l.length) :
    ∃ b off, A = some ⟨b, off, none⟩ ∧ b < w.heap.size ∧ w.cell? ⟨b, off + k, none⟩ = some (.int .i64 (l[k] : Nat)) := by
  obtain ⟨b, off, e, hb, hc⟩ := h k (encN l[k]) (by rw [List.getElem?_map, List.getElem?_eq_getElem hk]; rfl)
  refine ⟨b, off, e, hb, ?_⟩
  have := hc 0 _ rfl
  simpa using this

theorem addPath_take {L : List CapR} {l : List Nat} {j : Nat} (h : j < l.length) (ph q : Int) : addPath L (l.take (j + 1)) ph q = (addPath L (l.take j) ph q).modify l[j] (fun c => addC c ph q) := by
  rw [List.take_succ_eq_append_getElem h, addPath_snoc]
theorem path_step {F : List Feed} {P : List Pnt} {Z : List (WantR × Int)} {l : List Nat} {j : Nat} {ph q : Int} (hj : j < l.length) (hd : l.Pairwise (fun a b => b < a)) (hl : ∀ f ∈ l, f < F.length) :
    (addPath (loadL F P Z) (l.take j) ph q)[l[j]]? = some (capAt F P l[j] Z) ∧ setAll ((addPath (loadL F P Z) (l.take j) ph q).flatMap CapR.cells) (l[j] * 4) (addC (capAt F P l[j] Z) ph q).cells = (addPath (loadL F P Z) (l.take (j + 1)) ph q).flatMap CapR.cells := by
  have hlt : l[j] < F.length := hl _ (List.getElem_mem hj)
  have hn : l[j] ∉ l.take j := by
    intro hm
    have h2 := hd
    rw [← List.take_append_drop j l, List.pairwise_append] at h2
    have h3 : l[j] ∈ l.drop j := by
      rw [List.drop_eq_getElem_cons hj]; exact List.mem_cons_self
    have := h2.2.2 _ hm _ h3
    omega
  have hg : (addPath (loadL F P Z) (l.take j) ph q)[l[j]]? = some (capAt F P l[j] Z) := by
    rw [addPath_get (hd.sublist (List.take_sublist j l)), if_neg hn, loadL_get hlt]
  refine ⟨hg, ?_⟩
  have hlt2 := (List.getElem?_eq_some_iff.1 hg).1
  rw [set_row CapR.cells_len (by omega) _ _ hlt2, addPath_take hj, addPath_step (F := F) hg]

theorem SlAt.other {w : World} {size : Nat} {A : Option Addr} {rows : List (List Value)} (h : SlAt w size A rows) {g : Nat} (hA : ∀ b off, A = some ⟨b, off, none⟩ → b ≠ g) (k : Nat) (v : Value) : SlAt (w.setCell ⟨g, k, none⟩ v) size A rows := fun j row hj => by
  obtain ⟨b, off, e, hlt, hc⟩ := h j row hj
  exact ⟨b, off, e, by simpa [World.setCell] using hlt, fun i u hu => (far_cell (hA b off e) w k v _).trans (hc i u hu)⟩

theorem pathL_short {l : List Nat} {n : Nat} (hd : l.Pairwise (fun a b => b < a)) (hl : ∀ f ∈ l, f < n) : l.length ≤ n := by
  induction l generalizing n with
  | nil => simp
  | cons x l ih =>
    rw [List.pairwise_cons] at hd
    have := ih hd.2 hd.1
    have := hl x (by simp)
    simp; omega

set_option maxRecDepth 100000 in
set_option maxHeartbeats 12800000 in
theorem sums_any (S : SiteR) (W : List WantR) (pw : List Int) (fv pv wv zv : Value) (w : World) (hF : IsSl w 5 fv (S.F.map Feed.cells)) (hP : IsSl w 5 pv (S.P.map Pnt.cells)) (hW : IsSl w 3 wv (W.map WantR.cells)) (hZ : IsSl w 1 zv (pw.map encZ))
    (hS : SiteOk S) (hl : W.length = pw.length) (hall : (W.zip pw).all (wantB S.P) = true) (hlW : W.length ≤ 1000) :
    Calls Tryd.prog 66 #[.agg #[.string S.name, fv, pv], wv, zv] w
      fun e w' => ∃ v, e = .returned v ∧ IsSl w' 4 v ((loadL S.F S.P (W.zip pw)).map CapR.cells) ∧ Below w.heap.size w w' := by
  have HIF := Lib.hid hF
  obtain ⟨A, c, rfl, hlc, hcm, hsl⟩ := islen' hF
  obtain ⟨B, d, rfl, hld, hdm, hsp⟩ := islen' hP
  obtain ⟨C, c', rfl, hlc', hcm', hsw⟩ := islen' hW
  obtain ⟨D, d', rfl, hld', hdm', hsz⟩ := islen' hZ
  obtain ⟨W0, hW0, hb0, hg0, hx0⟩ := box1 w #[.string S.name, .slice A S.F.length c, .slice B S.P.length d] 30
  have HIF0 := Lib.hid (HIF.out.below hb0)
  have HSP := Lib.hid (hsp.below hb0)
  have HSW := Lib.hid (hsw.below hb0)
  have HSZ := Lib.hid (hsz.below hb0)
  have HOK := Lib.hid hS
  have HALL := Lib.hid hall
  have HZL : Hid ((W.zip pw).length = W.length) := by unfold Hid; simp; omega
  have HZG := Lib.hid (fun (k : Nat) (h1 : k < W.length) (h2 : k < pw.length) => And.intro (zip_take_snoc h1 h2) (wantB_iff.1 (List.all_eq_true.1 hall (W[k], pw[k]) (by rw [List.mem_iff_getElem]; exact ⟨k, by simp; omega, by simp⟩))))
  have hlF := HOK.out.lF
  have hlP := HOK.out.lP
  clear hF hP hW hZ hsl hsp hsw hsz hlc hld hlc' hld' hcm hdm hcm' hdm' hS hall HIF
  generalize W.zip pw = Z at *
  obtain ⟨i0, hi0, hz0, hz1, hz2⟩ := info_parts capInfo
  have hmk := fun W => run_make_rowZ (P := Tryd.prog) 42 41 i0 _ Tryd.underlying42 hi0 hz0 .i64 .i64 S.F.length S.F.length (S.F.length : Int) (S.F.length : Int) rfl rfl (by omega) (by rw [hz2]; omega) (by omega) W
  rw [hz1] at hmk
  have HZC := Lib.hid (zero_cells S.F.length)
  generalize madeCells _ (S.F.length * 4) = ZC at hmk HZC
  have HL := Lib.hid hl
  clear hl
  go_enter Tryd.func66, Tryd.ntmps66
  go_wp2_with fail
  have hs0 : W0.heap.size = w.heap.size + 1 := by rw [hW0]; simp
  rw [← hW0, ← hs0]
  clear hmk hW0
  have HS0 := Lib.hid hs0
  clear hs0
  have HB1 : Hid (Blk (W0.alloc (.cells ZC 41)) W0.heap.size 41 ((loadL S.F S.P (Z.take 0)).flatMap CapR.cells)) := by
    refine Blk.new' rfl _ _ ?_
    rw [HZC.out]; rfl
  go_loopw [8] (fun i wr => ∃ k : Nat, k ≤ W.length ∧ i = .int .i64 k ∧ Below W0.heap.size W0 wr ∧ W0.heap.size < wr.heap.size ∧ Hid (Blk wr W0.heap.size 41 ((loadL S.F S.P (Z.take k)).flatMap CapR.cells))) (fun i _ => W.length - (intOf i).toNat)
  case atStart => exact ⟨0, by omega, rfl, below_alloc (Below.refl _ _) _, by simp, HB1⟩
  case round =>
    obtain ⟨k, hk, rfl, hbw, hgm, HB⟩ := hrel
    clear HB1 HZC
    obtain ⟨hc, hf⟩ := bcell hbw
    by_cases hlt : k < W.length
    · have hki : (k : Int) < (W.length : Int) := by omega
      have hlt2 : k < pw.length := by have := HL.out; omega
      have hki2 : (k : Int) < (pw.length : Int) := by omega
      obtain ⟨hzs, hrt⟩ := HZG.out k hlt hlt2
      have HZS := Lib.hid hzs
      have HRT := Lib.hid hrt
      clear hzs hrt
      obtain ⟨bw, offw, rfl, hbb, c0, c1, c2⟩ := want_at HSW.out hlt
      obtain ⟨bz, offz, rfl, hbz, d0⟩ := int_at HSZ.out hlt2
      generalize W[k] = x at *
      generalize pw[k] = q at *
      obtain ⟨j, hj⟩ : ∃ j : Nat, x.point = j := ⟨x.point.toNat, by have := HRT.out.p0; simp at this; omega⟩
      have hjl : j < S.P.length := by have := HRT.out.p1; simp at this; omega
      have hjli : (j : Int) < (S.P.length : Int) := by omega
      have HWP := Lib.hid (wantPath_eq (F := S.F) (x := x) hjl hj)
      obtain ⟨bp, offp, rfl, hbp, e0, e1, e2, e3, e4⟩ := pnt_at HSP.out hjl
      generalize S.P[j] = y at *
      rw [hj] at c0
      have hq0 : 0 ≤ q := HRT.out.w0
      have hq1 : q ≤ 1048576 := HRT.out.w1
      have hph1 : 1 ≤ x.phases := HRT.out.h1
      have hph7 : x.phases ≤ 7 := HRT.out.h7
      have HBD : Hid (∀ z ∈ Z.take k, 0 ≤ z.2 ∧ z.2 ≤ 1048576) := fun z hz => take_bd HALL.out z (List.mem_of_mem_take hz)
      have hlk : (Z.take k).length ≤ 1000 := by have := List.length_take_le k Z; omega
      clear hj
      go_wp2_with fail
      (refine wp_still_tail 11 (by kernel_rfl) (by kernel_rfl) ?_; simp only [List.take_succ_cons, List.take_zero, List.drop_succ_cons, List.drop_zero]; (repeat still_step); (try refine wpStill_nil ?_))
      go_wp2_with fail
      refine (refPath_any S.name S.F (.slice A S.F.length c) (some ⟨bp, offp, none⟩) S.P.length d y.feeder _ (HIF0.out.below hbw.drew) (by omega)).mono ?_
      rintro e w2 ⟨v2, rfl, hv2, hb2, hfr⟩
      have HPD := Lib.hid (pathL_desc (F := S.F) (last := S.F.length) (i := y.feeder))
      have HPL := Lib.hid (pathL_lt (F := S.F) (last := S.F.length) (i := y.feeder))
      rw [← HWP.out] at hv2 HPD HPL
      generalize hWE : wantPath S.F S.P x = l at *
      have HWE := Lib.hid hWE
      clear hWE
      obtain ⟨E, c2', rfl, hl2, hm2, hsl2⟩ := islen' hv2
      have hll := pathL_short HPD.out HPL.out
      have HFR : Hid (∀ b off, E = some ⟨b, off, none⟩ → b ≠ W0.heap.size) := fun b off h => by
        have := hfr b off _ _ (by rw [h])
        have h2 : wr.drew.heap.size = wr.heap.size := rfl
        omega
      clear hfr
      have HS2 := Lib.hid hsl2
      have hbw2 : Below W0.heap.size W0 w2 := hbw.drew.trans (hb2.mono hbw.drew.size)
      have HB2 : Hid (Blk w2 W0.heap.size 41 ((addPath (loadL S.F S.P (Z.take k)) (l.take 0) x.phases q).flatMap CapR.cells)) := HB.out.drew.below hb2 hgm
      have hgm2 : W0.heap.size < w2.heap.size := Nat.lt_of_lt_of_le hgm hb2.size
      clear hv2 hsl2 hc hf
      go_wp2_with fail
      go_loopw [10] (fun i wi => ∃ n : Nat, n ≤ l.length ∧ i = .int .i64 n ∧ Below W0.heap.size W0 wi ∧ w2.heap.size ≤ wi.heap.size ∧ (Hid (SlAt wi 1 E (l.map encN))) ∧ Hid (Blk wi W0.heap.size 41 ((addPath (loadL S.F S.P (Z.take k)) (l.take n) x.phases q).flatMap CapR.cells))) (fun i _ => l.length - (intOf i).toNat)
      case atStart => exact ⟨0, by omega, rfl, hbw2, Nat.le_refl _, HS2, HB2⟩
      case round =>
        clear hbw HB2 hb2 HS2
        obtain ⟨n, hn, rfl, hbi, hzi, HSi, HBi⟩ := hrel
        obtain ⟨hc, hf⟩ := bcell hbi
        by_cases hnl : n < l.length
        · have hni : (n : Int) < (l.length : Int) := by omega
          obtain ⟨be, offe, rfl, hbe, f0⟩ := path_at HSi.out hnl
          have HLS := Lib.hid (path_step (P := S.P) (Z := Z.take k) (ph := x.phases) (q := q) hnl HPD.out HPL.out)
          have hfl := HPL.out _ (List.getElem_mem hnl)
          generalize l[n] = f at *
          have hfl2 : (f : Int) < (S.F.length : Int) := by omega
          have HCO := capAt_ok (F := S.F) (P := S.P) (f := f) HBD.out
          generalize capAt S.F S.P f (Z.take k) = cc at *
          obtain ⟨a0, a1, b0, b1, g0, g1, ht⟩ := HCO
          have HT := Lib.hid ht
          clear ht
          generalize hLL : addPath (loadL S.F S.P (Z.take k)) (l.take n) x.phases q = LL at *
          have hnL : f < LL.length := (List.getElem?_eq_some_iff.1 HLS.out.1).1
          have HFL := Lib.hid (fun j u h => flat_at CapR.cells 4 CapR.cells_len LL f cc HLS.out.1 j u h)
          have x0 := (HBi.out.cell (f * 4)).trans (HFL.out 0 _ rfl)
          have x1 := (HBi.out.cell (f * 4 + 1)).trans (HFL.out 1 _ rfl)
          have x2 := (HBi.out.cell (f * 4 + 2)).trans (HFL.out 2 _ rfl)
          have x3 := (HBi.out.cell (f * 4 + 3)).trans (HFL.out 3 _ rfl)
          have r0 := HBi.out.free (f * 4)
          have r1 := HBi.out.free (f * 4 + 1)
          have r2 := HBi.out.free (f * 4 + 2)
          have r3 := HBi.out.free (f * 4 + 3)
          have hfar := fun (b : Nat) (h : b < W0.heap.size) => far_cell (b := b) (g := W0.heap.size) (by omega)
          have hfar2 := far_cell (b := be) (g := W0.heap.size) (HFR.out _ _ rfl)
          have q1 := (phase_bits hph1 hph7).1
          obtain ⟨q2, q4⟩ := phase_shift hph1 hph7
          have z0 : x.phases % 2 = 0 ∨ x.phases % 2 = 1 := by omega
          have z1 : x.phases / 2 % 2 = 0 ∨ x.phases / 2 % 2 = 1 := by omega
          have z2 : x.phases / 4 % 2 = 0 ∨ x.phases / 4 % 2 = 1 := by omega
          have HADD := Lib.hid (add_c cc x.phases q z0 z1 z2)
          generalize x.phases % 2 = m0 at *
          generalize x.phases / 2 % 2 = m1 at *
          generalize x.phases / 4 % 2 = m2 at *
          obtain ⟨M0, HM0, n0, n0'⟩ : ∃ M0, Hid (q * m0 = M0) ∧ 0 ≤ M0 ∧ M0 ≤ 1048576 := ⟨_, Lib.hid rfl, by rcases z0 with rfl | rfl <;> omega, by rcases z0 with rfl | rfl <;> omega⟩
          obtain ⟨M1, HM1, n1, n1'⟩ : ∃ M1, Hid (q * m1 = M1) ∧ 0 ≤ M1 ∧ M1 ≤ 1048576 := ⟨_, Lib.hid rfl, by rcases z1 with rfl | rfl <;> omega, by rcases z1 with rfl | rfl <;> omega⟩
          obtain ⟨M2, HM2, n2, n2'⟩ : ∃ M2, Hid (q * m2 = M2) ∧ 0 ≤ M2 ∧ M2 ≤ 1048576 := ⟨_, Lib.hid rfl, by rcases z2 with rfl | rfl <;> omega, by rcases z2 with rfl | rfl <;> omega⟩
          have w0 : IntKind.i64.wrap (q * m0) = M0 := by rw [HM0.out]; exact IntWalk.i64_in _ (by omega)
          have w1 : IntKind.i64.wrap (q * m1) = M1 := by rw [HM1.out]; exact IntWalk.i64_in _ (by omega)
          have w2 : IntKind.i64.wrap (q * m2) = M2 := by rw [HM2.out]; exact IntWalk.i64_in _ (by omega)
          clear hLL z0 z1 z2
          go_wp2_with fail
          (refine wp_still_tail 20 (by kernel_rfl) (by kernel_rfl) ?_; simp only [List.take_succ_cons, List.take_zero, List.drop_succ_cons, List.drop_zero]; (repeat still_step); (try refine wpStill_nil ?_))
          go_wp2_with fail
          (refine wp_still_tail 21 (by kernel_rfl) (by kernel_rfl) ?_; simp only [List.take_succ_cons, List.take_zero, List.drop_succ_cons, List.drop_zero]; (repeat still_step); (try refine wpStill_nil ?_))
          go_wp2_with fail
          (refine wp_still_tail 21 (by kernel_rfl) (by kernel_rfl) ?_; simp only [List.take_succ_cons, List.take_zero, List.drop_succ_cons, List.drop_zero]; (repeat still_step); (try refine wpStill_nil ?_))
          go_wp2_with fail
          (refine wp_still_tail 20 (by kernel_rfl) (by kernel_rfl) ?_; simp only [List.take_succ_cons, List.take_zero, List.drop_succ_cons, List.drop_zero]; (repeat still_step); (try refine wpStill_nil ?_))
          go_wp2_with fail
          have hB4 := (((HBi.out.set (f * 4) (.int .i64 (cc.a + M0))).set (f * 4 + 1) (.int .i64 (cc.b + M1))).set (f * 4 + 2) (.int .i64 (cc.c + M2))).set (f * 4 + 3) (.int .i64 (cc.a + M0 + (cc.b + M1) + (cc.c + M2)))
          have hS4 := (((HSi.out.other HFR.out (f * 4) (.int .i64 (cc.a + M0))).other HFR.out (f * 4 + 1) (.int .i64 (cc.b + M1))).other HFR.out (f * 4 + 2) (.int .i64 (cc.c + M2))).other HFR.out (f * 4 + 3) (.int .i64 (cc.a + M0 + (cc.b + M1) + (cc.c + M2)))
          have hb4 : Below W0.heap.size W0 _ := ((((hbi.setCell (p := ⟨W0.heap.size, f * 4, none⟩) (Nat.le_refl _) (.int .i64 (cc.a + M0))).setCell (p := ⟨W0.heap.size, f * 4 + 1, none⟩) (Nat.le_refl _) (.int .i64 (cc.b + M1))).setCell (p := ⟨W0.heap.size, f * 4 + 2, none⟩) (Nat.le_refl _) (.int .i64 (cc.c + M2))).setCell (p := ⟨W0.heap.size, f * 4 + 3, none⟩) (Nat.le_refl _) (.int .i64 (cc.a + M0 + (cc.b + M1) + (cc.c + M2))))
          have hz4 : ((((wr.setCell ⟨W0.heap.size, f * 4, none⟩ (.int .i64 (cc.a + M0))).setCell ⟨W0.heap.size, f * 4 + 1, none⟩ (.int .i64 (cc.b + M1))).setCell ⟨W0.heap.size, f * 4 + 2, none⟩ (.int .i64 (cc.c + M2))).setCell ⟨W0.heap.size, f * 4 + 3, none⟩ (.int .i64 (cc.a + M0 + (cc.b + M1) + (cc.c + M2)))).heap.size = wr.heap.size := by simp [World.setCell]
          have HC4 : Hid ((addC cc x.phases q).cells = [.int .i64 (cc.a + M0), .int .i64 (cc.b + M1), .int .i64 (cc.c + M2), .int .i64 (cc.a + M0 + (cc.b + M1) + (cc.c + M2))]) := by
            unfold Hid
            rw [← HADD.out]
            simp only [CapR.cells]
            rw [HM0.out, HM1.out, HM2.out, HT.out, show cc.a + cc.b + cc.c + M0 + M1 + M2 = cc.a + M0 + (cc.b + M1) + (cc.c + M2) by omega]
          generalize cc.a + M0 + (cc.b + M1) + (cc.c + M2) = t4 at *
          go_roundw
          case measure => simp [intOf]; omega
          case rel =>
            refine ⟨n + 1, by omega, by go_num, by repeat (first | exact hb4 | refine below_drew ?_ | refine below_drewN ?_ _), Nat.le_trans hzi (Nat.le_of_eq hz4.symm), hS4, ?_⟩
            unfold Hid
            rw [← HLS.out.2, HC4.out]
            exact hB4
        · have hnl2 : n = l.length := by omega
          subst hnl2
          have HBf := HBi.out
          rw [List.take_length] at HBf
          clear HBi
          go_wp2_with fail
          go_roundw
          case measure => simp [intOf]; omega
          case rel =>
            refine ⟨k + 1, by omega, by go_num, hbi, by omega, ?_⟩
            unfold Hid
            rw [HZS.out, loadL_snoc]
            show Blk _ _ _ ((addPath _ (wantPath S.F S.P x) x.phases q).flatMap CapR.cells)
            rw [HWE.out]
            exact HBf
    · have hall : Z.take k = Z := List.take_of_length_le (by have := HZL.out; omega)
      have HB' := HB.out
      rw [hall] at HB'
      replace HB' := Lib.hid HB'
      clear hall HB
      go_wp2_with fail
      go_ret
      exact ⟨_, rfl, Blk.isSl CapR.cells_len HB'.out (loadL_len _ _ _) (by unfold maxLen; omega), below_step hb0 hbw⟩

end Go.Proofs.YtlpjniejbblcnaaDoor

namespace Go.Proofs.YtlpjniejbblcnaaDoor
open Go.RowKit Go.Lib Go.Maps
attribute [local go_sem] after_cell
set_option linter.unusedVariables false

theorem want_bad1 {P : List Pnt} {x : WantR × Int} (h : x.1.phases < 1 ∨ 7 < x.1.phases) : wantB P x = false := by
  cases hb : wantB P x with
  | false => rfl
  | true => have := wantB_iff.1 hb; have h1 := this.h1; have h7 := this.h7; omega
theorem want_bad2 {P : List Pnt} {x : WantR × Int} {k : Nat} (hk : k < P.length) (e : x.1.point = k) (h : maskB x.1.phases P[k].phases = false) : wantB P x = false := by
  unfold wantB
  rw [e, Int.toNat_natCast, List.getElem?_eq_getElem hk]
  simp [h]
theorem want_bad3 {P : List Pnt} {x : WantR × Int} (h : powB x.2 = false) : wantB P x = false := by
  unfold wantB
  split
  · simp [h]
  · rfl
theorem want_good {P : List Pnt} {x : WantR × Int} {k : Nat} (hk : k < P.length) (e : x.1.point = k) (h1 : ¬ x.1.phases < 1) (h7 : ¬ 7 < x.1.phases) (hm : maskB x.1.phases P[k].phases = true) (hp : powB x.2 = true) : wantB P x = true := by
  unfold wantB
  rw [e, Int.toNat_natCast, List.getElem?_eq_getElem hk]
  simp [hm, hp]
  omega

theorem in_pow {b : Bool} (q : Int) (w : World) (h : powB q = b) : Calls Tryd.prog 64 #[.int .i64 q, .int .i64 1048576] w fun e w' => e = .returned (.bool b) ∧ w = w' := by
  have := in_any q 1048576 w
  rw [show (decide (0 ≤ q) && decide (q ≤ 1048576)) = b from h] at this
  exact this

end Go.Proofs.YtlpjniejbblcnaaDoor

namespace Go.Proofs.YtlpjniejbblcnaaDoor
open Go.RowKit
set_option linter.unusedVariables false

section
variable {P : Program} (w : World)

theorem run_append_of_nil (base : Nat) (t ty e : TypeId) (i : TypeInfo) (size : Nat) (ht : P.underlying t = some (.slice e)) (hi : P.info? e = some i)
    (v : Value) (n : Nat) (xs : List Value) (hown : w.ownsRow base e size v n xs) (c : Nat) : (Builtin.append_ #[t, t] ty #[v, .slice none 0 c]).run P w = .ok v w := by
  rcases hown.2 with ⟨rfl, rfl⟩ | ⟨g, cap, cur, rfl, _, _, hnc, _⟩
  · simp [Builtin.append_, run_underlying ht, sizeOf, typeInfo, hi, Builtin.lenOf, Builtin.firstCells]
  · simp [Builtin.append_, run_underlying ht, sizeOf, typeInfo, hi, Builtin.lenOf, Builtin.firstCells, hnc, storeCells]

theorem run_append_list {α : Type} {enc : α → List Value} (base : Nat) (t ty e : TypeId) (i : TypeInfo) (z : Value) (size bytes : Nat) (ht : P.underlying t = some (.slice e)) (hi : P.info? e = some i) (hz : i.zero = some z)
    (hsize : i.size = size) (hby : i.bytes = bytes) (hzs : z.cells.size = size) (hsz : 0 < size) (henc : ∀ x, (enc x).length = size) (hone : ∀ x, ∀ u ∈ enc x, u.oneCell' = true)
    (v : Value) (n : Nat) (xs : List Value) (hown : w.ownsRow base e size v n xs) (A : Option Addr) (c : Nat) (l : List α) (hsl : SlAt w size A (l.map enc))
    (h63 : n + l.length ≤ maxLen) (hbytes : (n + l.length) * bytes ≤ 140737488355328) (hbase : base ≤ w.heap.size) :
    ∃ v' w', (Builtin.append_ #[t, t] ty #[v, .slice A l.length c]).run P w = .ok v' w' ∧ w'.ownsRow base e size v' (n + l.length) (xs ++ l.flatMap enc) ∧ w.grownBy w' v.ownBlock ∧
      (v' = .slice none 0 0 ↔ v = .slice none 0 0 ∧ l.length = 0) ∧ (v'.ownBlock = v.ownBlock ∨ v'.ownBlock = some w.heap.size) := by
  by_cases hl : l = []
  · subst hl
    rcases A with _ | ad
    · refine ⟨v, w, run_append_of_nil w base t ty e i size ht hi v n xs hown c, by simpa using hown, World.grownBy.refl w _, by simp, .inl rfl⟩
    · obtain ⟨v', w', hrun, h2, h3, h4, h5⟩ := run_append_own_at (P := P) w base t ty e i z size bytes ht hi hz hsize hby hzs hsz v n xs hown ad 0 c [] (by simp) (fun j u h => by simp at h) (fun u h => by simp at h) (by simpa using h63) (by simpa using hbytes) hbase
      exact ⟨v', w', hrun, by simpa using h2, h3, by simpa using h4, h5⟩
  · obtain ⟨ad, rfl, hc⟩ := src_rows henc hsz hsl hl
    have hf := flat_len enc size henc l
    obtain ⟨v', w', hrun, h2, h3, h4, h5⟩ := run_append_own_at (P := P) w base t ty e i z size bytes ht hi hz hsize hby hzs hsz v n xs hown ad l.length c (l.flatMap enc) hf hc (fun u hu => by
      rw [List.mem_flatMap] at hu
      obtain ⟨y, _, hy⟩ := hu
      exact hone y u hy) h63 hbytes hbase
    exact ⟨v', w', hrun, h2, h3, h4, h5⟩

theorem wpList_append_list {α : Type} {enc : α → List Value} {ops : Array Oper} {rest : List Oper} {o : Oper} {a : Go.Act} {Q : Exit → Go.Act → World → Prop} (hgd : o.guard = none) (s x : Operand) (t : TypeId)
    (ho : o.op = .call { callee := .builtin .append, args := #[s, x], argTypes := #[t, t] })
    (base : Nat) (e : TypeId) (i : TypeInfo) (z : Value) (size bytes : Nat) (ht : P.underlying t = some (.slice e)) (hi : P.info? e = some i) (hz : i.zero = some z)
    (hsize : i.size = size) (hby : i.bytes = bytes) (hzs : z.cells.size = size) (hsz : 0 < size) (henc : ∀ x, (enc x).length = size) (hone : ∀ x, ∀ u ∈ enc x, u.oneCell' = true)
    (v : Value) (n : Nat) (xs : List Value) (hs : a.eval s = v) (hown : w.ownsRow base e size v n xs) (A : Option Addr) (c : Nat) (l : List α) (hx : a.eval x = .slice A l.length c) (hsl : SlAt w size A (l.map enc))
    (h63 : n + l.length ≤ maxLen) (hbytes : (n + l.length) * bytes ≤ 140737488355328) (hbase : base ≤ w.heap.size)
    (h : ∀ v' w', w'.ownsRow base e size v' (n + l.length) (xs ++ l.flatMap enc) → w.grownBy w' v.ownBlock → (v' = .slice none 0 0 ↔ v = .slice none 0 0 ∧ l.length = 0) → (∀ g, v'.ownBlock = some g → v.ownBlock = some g ∨ w.heap.size ≤ g) → wpList P ops Q rest (a.put o.dst v') w') :
    wpList P ops Q (o :: rest) a w := by
  refine wpList_plain hgd fun K hK => ?_
  obtain ⟨v', w', hrun, h2, h3, h4, h5⟩ := run_append_list (P := P) w base t o.type e i z size bytes ht hi hz hsize hby hzs hsz henc hone v n xs hown A c l hsl h63 hbytes hbase
  unfold Oper.wp execOp
  simp only [ho, resolve, invoke, builtin, Sem.run_bind, Sem.run_pure, Result.andThen_ok, List.map_toArray, List.map_cons, List.map_nil, hs, hx, hrun]
  refine hK _ _ (h v' w' h2 h3 h4 (fun g hg => ?_))
  rcases h5 with h5 | h5
  · exact .inl (h5 ▸ hg)
  · rw [h5] at hg
    injection hg with hg
    right; omega

theorem step_append_list {α : Type} {enc : α → List Value} {ops : Array Oper} {o : Oper} {a : Go.Act} {K : Go.Act → World → Prop} {Q : Exit → Go.Act → World → Prop} {E : Prop} (hgd : o.guard = none) (s x : Operand) (t : TypeId)
    (ho : o.op = .call { callee := .builtin .append, args := #[s, x], argTypes := #[t, t] })
    (base : Nat) (e : TypeId) (i : TypeInfo) (z : Value) (size bytes : Nat) (ht : P.underlying t = some (.slice e)) (hi : P.info? e = some i) (hz : i.zero = some z)
    (hsize : i.size = size) (hby : i.bytes = bytes) (hzs : z.cells.size = size) (hsz : 0 < size) (henc : ∀ x, (enc x).length = size) (hone : ∀ x, ∀ u ∈ enc x, u.oneCell' = true)
    (v : Value) (n : Nat) (xs : List Value) (hs : a.eval s = v) (hown : w.ownsRow base e size v n xs) (A : Option Addr) (c m : Nat) (l : List α) (hm : l.length = m) (hx : a.eval x = .slice A m c) (hsl : SlAt w size A (l.map enc))
    (h63 : n + m ≤ maxLen) (hbytes : (n + m) * bytes ≤ 140737488355328) (hbase : base ≤ w.heap.size)
    (h : ∀ v' w', w'.ownsRow base e size v' (n + m) (xs ++ l.flatMap enc) → w.grownBy w' v.ownBlock → (v' = .slice none 0 0 ↔ v = .slice none 0 0 ∧ m = 0) → (∀ g, v'.ownBlock = some g → v.ownBlock = some g ∨ w.heap.size ≤ g) → K (a.put o.dst v') w') :
    if Region.wanted o (yielded ops a.tmps) = true then Oper.wp P o a w K Q else E := by
  subst hm
  have hw : Region.wanted o (yielded ops a.tmps) = true := by simp [Region.wanted, hgd]
  rw [if_pos hw]
  obtain ⟨v', w', hrun, h2, h3, h4, h5⟩ := run_append_list (P := P) w base t o.type e i z size bytes ht hi hz hsize hby hzs hsz henc hone v n xs hown A c l hsl h63 hbytes hbase
  unfold Oper.wp execOp
  simp only [ho, resolve, invoke, builtin, Sem.run_bind, Sem.run_pure, Result.andThen_ok, List.map_toArray, List.map_cons, List.map_nil, hs, hx, hrun]
  refine h v' w' h2 h3 h4 (fun g hg => ?_)
  rcases h5 with h5 | h5
  · exact .inl (h5 ▸ hg)
  · rw [h5] at hg
    injection hg with hg
    right; omega
end

end Go.Proofs.YtlpjniejbblcnaaDoor

namespace Go.Proofs.YtlpjniejbblcnaaDoor
open Go.RowKit Go.Lib Go.Maps
set_option linter.unusedVariables false

set_option maxRecDepth 100000 in
set_option maxHeartbeats 6400000 in
theorem aadd_any (g off : Nat) (T : TypeId) (cur : List Value) (c : CapR) (ph p n : Int) (w : World) (hB : Blk w g T cur) (hl : off + 4 ≤ cur.length) (k0 : cur[off]? = some (.int .i64 c.a)) (k1 : cur[off + 1]? = some (.int .i64 c.b)) (k2 : cur[off + 2]? = some (.int .i64 c.c)) (k3 : cur[off + 3]? = some (.int .i64 c.t))
    (hc : CapOk n c) (hn : n ≤ 1099511627776) (h1 : 1 ≤ ph) (h7 : ph ≤ 7) (hp0 : 0 ≤ p) (hp1 : p ≤ 1048576) :
    Calls Tryd.prog 47 #[.pointer (some ⟨g, off, none⟩), .int .i64 ph, .int .i64 p] w fun e w' => e = .returned (.tuple #[]) ∧ Blk w' g T (setAll cur off (addC c ph p).cells) ∧ w.grownBy w' (some g) := by
  obtain ⟨q1, q2, q4⟩ := phase_bits h1 h7
  have HADD := Lib.hid (add_c c ph p (by omega) (by omega) (by omega))
  obtain ⟨a0, a1, b0, b1, c0, c1, ht⟩ := hc
  have HT := Lib.hid ht
  have t0 : 0 ≤ c.t := by omega
  have t1 : c.t ≤ 3298534883328 := by omega
  clear ht
  have hg := World.grownBy.refl w (some g)
  have e0 : ph % 2 = 0 ∨ ph % 2 = 1 := by omega
  have e1 : ph / 2 % 2 = 0 ∨ ph / 2 % 2 = 1 := by omega
  have e2 : ph / 4 % 2 = 0 ∨ ph / 4 % 2 = 1 := by omega
  generalize ph % 2 = m0 at *
  generalize ph / 2 % 2 = m1 at *
  generalize ph / 4 % 2 = m2 at *
  have u0 : 0 ≤ c.a + p * m0 ∧ c.a + p * m0 ≤ 2199023255552 := by rcases e0 with rfl | rfl <;> omega
  have u1 : 0 ≤ c.t + p * m0 ∧ c.t + p * m0 ≤ 6597069766656 := by rcases e0 with rfl | rfl <;> omega
  have u2 : 0 ≤ c.t + p * m0 + p * m1 ∧ c.t + p * m0 + p * m1 ≤ 9597069766656 := by rcases e0 with rfl | rfl <;> rcases e1 with rfl | rfl <;> omega
  have HA1 : Hid (∃ a t : Int, c.a + p * m0 = a ∧ c.t + p * m0 = t ∧ 0 ≤ t ∧ t ≤ 6597069766656) := ⟨_, _, rfl, rfl, u1⟩
  have HB := Lib.hid hB
  have HK := Lib.hid (And.intro k0 (And.intro k1 (And.intro k2 k3)))
  have f0 := hB.free off
  have f3 := hB.free (off + 3)
  have x0 := (hB.cell off).trans k0
  have x3 := (hB.cell (off + 3)).trans k3
  clear hB k0 k1 k2 k3 u0 u1 h1 h7
  go_enter Tryd.func47, Tryd.ntmps47
  go_upto_if 8 with fail
  go_cut [] (fun wx => Blk wx g T (setAll cur off (⟨c.a + p * m0, c.b, c.c, c.t + p * m0⟩ : CapR).cells) ∧ w.grownBy wx (some g))
  case first =>
    rcases e0 with rfl | rfl
    · go_wp2_with fail
      go_meet
      obtain ⟨k0, k1, k2, k3⟩ := HK.out
      exact ⟨blk_eq HB.out (by simp only [Int.mul_zero, Int.add_zero]; exact set_same hl k0 k1 k2 k3), hg⟩
    · go_wp2_with fail
      go_meet
      obtain ⟨k0, k1, k2, k3⟩ := HK.out
      refine ⟨?_, grown_set (grown_set hg _ _) _ _⟩
      apply blk_eq
      · exact (HB.out.set _ _).set _ _
      · refine set4_eq (by simp) hl ?_ ?_ ?_ ?_ (fun j hj => by (repeat rw [List.getElem?_set_ne (by omega)]))
        · simp [List.getElem?_set]; first | done | omega
        · simp [k1]
        · simp [k2]
        · simp [List.getElem?_set]; first | done | omega
  case rest =>
    obtain ⟨hB1, hg1⟩ := hcut
    obtain ⟨hl1, k0, k1, k2, k3⟩ := set_part hl (c.a + p * m0) c.b c.c (c.t + p * m0)
    rw [← hl1] at hl
    have f0' := hB1.free (off + 1)
    have f3' := hB1.free (off + 3)
    have x0' := (hB1.cell (off + 1)).trans k1
    have x3' := (hB1.cell (off + 3)).trans k3
    have HS := Lib.hid (fun y => set_again (hl1 ▸ hl) (⟨c.a + p * m0, c.b, c.c, c.t + p * m0⟩ : CapR) y)
    clear f0 f3 x0 x3 HB HK e0
    generalize setAll cur off (⟨c.a + p * m0, c.b, c.c, c.t + p * m0⟩ : CapR).cells = cur1 at *
    generalize c.a + p * m0 = A at *
    obtain ⟨v0, v1⟩ := u2
    have v2 : 0 ≤ c.t + p * m0 ∧ c.t + p * m0 ≤ 6597069766656 := by obtain ⟨a, t, _, h, h1, h2⟩ := HA1.out; omega
    obtain ⟨v2, v3⟩ := v2
    clear HA1
    generalize c.t + p * m0 = B at *
    have HB := Lib.hid hB1
    have HK := Lib.hid (And.intro k0 (And.intro k1 (And.intro k2 k3)))
    clear hB1 k0 k1 k2 k3
    go_upto_if 29 with fail
    go_cut [] (fun wx => Blk wx g T (setAll cur1 off (⟨A, c.b + p * m1, c.c, B + p * m1⟩ : CapR).cells) ∧ w.grownBy wx (some g))
    case first =>
      rcases e1 with rfl | rfl
      · go_wp2_with fail
        go_meet
        obtain ⟨k0, k1, k2, k3⟩ := HK.out
        exact ⟨blk_eq HB.out (by simp only [Int.mul_zero, Int.add_zero]; exact set_same hl k0 k1 k2 k3), hg1⟩
      · go_wp2_with fail
        go_meet
        obtain ⟨k0, k1, k2, k3⟩ := HK.out
        refine ⟨?_, grown_set (grown_set hg1 _ _) _ _⟩
        apply blk_eq
        · exact (HB.out.set _ _).set _ _
        · refine set4_eq (by simp) hl ?_ ?_ ?_ ?_ (fun j hj => by (repeat rw [List.getElem?_set_ne (by omega)]))
          · simp [k0]
          · simp [List.getElem?_set]; first | done | omega
          · simp [k2]
          · simp [List.getElem?_set]; first | done | omega
    case rest =>
      clear hg1 f0' f3' x0' x3' HB HK e1
      obtain ⟨hB2, hg2⟩ := hcut
      obtain ⟨hl2, k0, k1, k2, k3⟩ := set_part hl A (c.b + p * m1) c.c (B + p * m1)
      have HS2 := Lib.hid (fun y => set_again hl (⟨A, c.b + p * m1, c.c, B + p * m1⟩ : CapR) y)
      rw [← hl2] at hl
      have f0 := hB2.free (off + 2)
      have f3 := hB2.free (off + 3)
      have x0 := (hB2.cell (off + 2)).trans k2
      have x3 := (hB2.cell (off + 3)).trans k3
      generalize setAll cur1 off (⟨A, c.b + p * m1, c.c, B + p * m1⟩ : CapR).cells = cur2 at *
      generalize c.b + p * m1 = D at *
      generalize B + p * m1 = E at *
      have HB := Lib.hid hB2
      have HK := Lib.hid (And.intro k0 (And.intro k1 (And.intro k2 k3)))
      have HF : Hid (∀ y : CapR, setAll cur off y.cells = setAll cur2 off y.cells) := fun y => by rw [← HS.out, ← HS2.out]
      clear hB2 k0 k1 k2 k3
      rcases e2 with rfl | rfl
      · go_wp2_with fail
        go_end0
        rw [← HADD.out, HF.out]
        obtain ⟨k0, k1, k2, k3⟩ := HK.out
        exact ⟨rfl, blk_eq HB.out (by simp only [Int.mul_zero, Int.add_zero]; exact set_same hl k0 k1 k2 k3), hg2⟩
      · go_wp2_with fail
        go_end0
        rw [← HADD.out, HF.out]
        obtain ⟨k0, k1, k2, k3⟩ := HK.out
        refine ⟨rfl, ?_, grown_set (grown_set hg2 _ _) _ _⟩
        apply blk_eq
        · exact (HB.out.set _ _).set _ _
        · refine set4_eq (by simp) hl ?_ ?_ ?_ ?_ (fun j hj => by (repeat rw [List.getElem?_set_ne (by omega)]))
          · simp [k0]
          · simp [k1]
          · simp [List.getElem?_set]; first | done | omega
          · simp [List.getElem?_set]; first | done | omega

end Go.Proofs.YtlpjniejbblcnaaDoor

namespace Go.Proofs.YtlpjniejbblcnaaDoor
open Go.RowKit Go.Lib Go.Maps
attribute [local go_sem] after_cell
set_option linter.unusedVariables false

/-- paths in memory -/
def PathsAt (w : World) (A : Option Addr) (ls : List (List Nat)) : Prop :=
  ∀ k l, ls[k]? = some l → ∃ b off v, A = some ⟨b, off, none⟩ ∧ b < w.heap.size ∧ w.cell? ⟨b, off + k, none⟩ = some v ∧ IsSl w 1 v (l.map encN)
theorem PathsAt.below {w w' : World} {A : Option Addr} {ls : List (List Nat)} (h : PathsAt w A ls) (hb : Below w.heap.size w w') : PathsAt w' A ls := fun k l hk => by
  obtain ⟨b, off, v, e, hlt, hc, hs⟩ := h k l hk
  exact ⟨b, off, v, e, Nat.lt_of_lt_of_le hlt hb.size, (hb.cell (p := ⟨b, off + k, none⟩) hlt).trans hc, hs.below hb⟩
/-- a division in memory -/
structure DivIn (w : World) (S : SiteR) (C : List CapR) (W : List WantR) (cv wv pv gv : Value) : Prop where
  hc : IsSl w 4 cv (C.map CapR.cells)
  hw : IsSl w 3 wv (W.map WantR.cells)
  hp : ∃ A cc, pv = .slice A W.length cc ∧ W.length ≤ cc ∧ cc ≤ maxLen ∧ PathsAt w A (W.map (wantPath S.F S.P))
  hg : IsSl w 1 gv ((W.map (greatW S.P)).map encZ)
theorem DivIn.below {w w' : World} {S : SiteR} {C : List CapR} {W : List WantR} {cv wv pv gv : Value} (h : DivIn w S C W cv wv pv gv) (hb : Below w.heap.size w w') : DivIn w' S C W cv wv pv gv := by
  obtain ⟨A, cc, e, h1, h2, h3⟩ := h.hp
  exact ⟨h.hc.below hb, h.hw.below hb, ⟨A, cc, e, h1, h2, h3.below hb⟩, h.hg.below hb⟩
theorem vec_at {w : World} {A : Option Addr} {n : Nat} {x : Vec} (h : SlAt w 1 A ((listV n x).map encZ)) {k : Nat} (hk : k < n) : ∃ b off, A = some ⟨b, off, none⟩ ∧ b < w.heap.size ∧ w.cell? ⟨b, off + k, none⟩ = some (.int .i64 (x k)) := by
  obtain ⟨b, off, e, hb, hc⟩ := int_at h (k := k) (by rw [listV_len]; exact hk)
  rw [listV_get] at hc
  exact ⟨b, off, e, hb, hc⟩
theorem great_at {w : World} {A : Option Addr} {P : List Pnt} {W : List WantR} (h : SlAt w 1 A ((W.map (greatW P)).map encZ)) {k : Nat} (hk : k < W.length) : ∃ b off, A = some ⟨b, off, none⟩ ∧ b < w.heap.size ∧ w.cell? ⟨b, off + k, none⟩ = some (.int .i64 (greatW P W[k])) := by
  obtain ⟨b, off, e, hb, hc⟩ := int_at h (k := k) (by simpa using hk)
  rw [List.getElem_map] at hc
  exact ⟨b, off, e, hb, hc⟩
/-- a want that asks for too much -/
theorem fits_range {S : SiteR} {C : List CapR} {W : List WantR} (hA : AllocOk S C W) {x : Vec} {k : Nat} (hk : k < W.length) (h : x k < 0 ∨ greatW S.P W[k] < x k) : siteV S C W x = false := by
  cases e : siteV S C W x with
  | false => rfl
  | true =>
    have := ((siteV_iff hA x).1 e).1 k hk
    omega
theorem fits_over {S : SiteR} {C : List CapR} {W : List WantR} (hA : AllocOk S C W) {x : Vec} {k : Nat} (hk : k < C.length) (h : overB C[k] (capAt S.F S.P k (W.zip (listV W.length x))) = true) : siteV S C W x = false := by
  cases e : siteV S C W x with
  | false => rfl
  | true =>
    have := (over_nil (W := W) hA.len _).1 ((siteV_iff hA x).1 e).2 k hk
    rw [h] at this; cases this
theorem fits_all {S : SiteR} {C : List CapR} {W : List WantR} (hA : AllocOk S C W) {x : Vec} (h1 : ∀ i (hi : i < W.length), 0 ≤ x i ∧ x i ≤ greatW S.P W[i]) (h2 : ∀ k (hk : k < C.length), overB C[k] (capAt S.F S.P k (W.zip (listV W.length x))) = false) : siteV S C W x = true :=
  (siteV_iff hA x).2 ⟨h1, (over_nil (W := W) hA.len _).2 h2⟩

set_option maxRecDepth 100000 in
set_option maxHeartbeats 12800000 in
theorem fits17_any (S : SiteR) (C : List CapR) (W : List WantR) (x : Vec) (cv wv pv gv zv : Value) (w : World) (hI : DivIn w S C W cv wv pv gv) (hA : AllocOk S C W) (hn : W.length ≤ 64) (hZ : IsSl w 1 zv ((listV W.length x).map encZ)) :
    Calls Tryd.prog 24 #[.agg #[cv, wv, pv, gv], zv] w fun e w' => e = .returned (.bool (siteV S C W x)) ∧ Below w.heap.size w w' := by
  have HA := Lib.hid hA
  have HOK := Lib.hid (siteE_ok hA.site)
  have hlF := HOK.out.lF
  have HCF := Lib.hid hA.len
  have hlC : C.length ≤ 32 := by have := hA.len; omega
  obtain ⟨A, c, rfl, hlc, hcm, hsc⟩ := islen' hI.hc
  obtain ⟨B, d, rfl, hld, hdm, hsw⟩ := islen' hI.hw
  obtain ⟨D, e, rfl, hle, hem, hsp⟩ := hI.hp
  obtain ⟨E, f, hgv, hlf, hfm, hsg⟩ := islen' hI.hg
  obtain ⟨G, g, hzv, hlg, hgm, hsz⟩ := islen' hZ
  rw [List.length_map] at hgv hlf
  rw [listV_len] at hzv hlg
  subst hgv hzv
  obtain ⟨W0, hW0, hb0, hg0, hx0⟩ := box1 w #[.slice A C.length c, .slice B W.length d, .slice D W.length e, .slice E W.length f] 66
  have HSC := Lib.hid (hsc.below hb0)
  have HSW := Lib.hid (hsw.below hb0)
  have HSP := Lib.hid (hsp.below hb0)
  have HSG := Lib.hid (hsg.below hb0)
  have HSZ := Lib.hid (hsz.below hb0)
  clear hI hA hZ hsc hsw hsp hsg hsz hcm hdm hem hfm hgm hlc hld hle hlf hlg
  obtain ⟨i0, hi0, hz0, hz1, hz2⟩ := info_parts capInfo
  have hmk := fun W => run_make_rowZ (P := Tryd.prog) 42 41 i0 _ Tryd.underlying42 hi0 hz0 .i64 .i64 C.length C.length (C.length : Int) (C.length : Int) rfl rfl (by omega) (by rw [hz2]; omega) (by omega) W
  rw [hz1] at hmk
  have HZC := Lib.hid (zero_cells C.length)
  generalize madeCells _ (C.length * 4) = ZC at hmk HZC
  go_enter Tryd.func24, Tryd.ntmps24
  go_wp2_with fail
  rw [← hW0]
  have hs0 : W0.heap.size = w.heap.size + 1 := by rw [hW0]; simp
  rw [← hs0]
  clear hmk hW0
  have HS0 := Lib.hid hs0
  clear hs0
  have HB1 : Hid (Blk (W0.alloc (.cells ZC 41)) W0.heap.size 41 ((loadL S.F S.P ((W.zip (listV W.length x)).take 0)).flatMap CapR.cells)) := by
    refine Blk.new' rfl _ _ ?_
    rw [HZC.out, HCF.out]; rfl
  have HZL : Hid ((W.zip (listV W.length x)).length = W.length) := by unfold Hid; simp [listV_len]
  have HZG : Hid (∀ (k : Nat) (h1 : k < W.length), (W.zip (listV W.length x)).take (k + 1) = (W.zip (listV W.length x)).take k ++ [(W[k], x k)]) := fun k h1 => by
    rw [List.take_succ_eq_append_getElem (by simp [listV_len]; exact h1), List.getElem_zip, listV_get]
  have HZB : Hid (∀ k, k ≤ W.length → (∀ j, j < k → 0 ≤ x j ∧ x j ≤ 1048576) → ∀ z ∈ (W.zip (listV W.length x)).take k, 0 ≤ z.2 ∧ z.2 ≤ 1048576) := fun k hk h z hz => by
    obtain ⟨j, hj, rfl⟩ := List.mem_iff_getElem.1 hz
    rw [List.getElem_take, List.getElem_zip, listV_get]
    exact h j (by rw [List.length_take] at hj; omega)
  have HGB : Hid (∀ k (h : k < W.length), 0 ≤ greatW S.P W[k] ∧ greatW S.P W[k] ≤ 1048576) := fun k h => ⟨(great_bd HA.out h).1, (great_bd HA.out h).2.1⟩
  have HRG := Lib.hid (fun (k : Nat) (hk : k < W.length) => fits_range HA.out (x := x) hk)
  have HOV := Lib.hid (fun (k : Nat) (hk : k < C.length) => fits_over HA.out (x := x) hk)
  have HAL := Lib.hid (fits_all HA.out (x := x))
  generalize W.zip (listV W.length x) = Z at *
  go_loopw [26] (fun i wr => ∃ k : Nat, k ≤ W.length ∧ i = .int .i64 k ∧ Below W0.heap.size W0 wr ∧ W0.heap.size < wr.heap.size ∧ Hid (Blk wr W0.heap.size 41 ((loadL S.F S.P (Z.take k)).flatMap CapR.cells)) ∧ Hid (∀ j (h : j < W.length), j < k → 0 ≤ x j ∧ x j ≤ greatW S.P W[j])) (fun i _ => W.length - (intOf i).toNat)
  case atStart => exact ⟨0, by omega, rfl, below_alloc (Below.refl _ _) _, by simp, HB1, fun j _ h => by omega⟩
  case round =>
    obtain ⟨k, hk, rfl, hbw, hgm, HB, HG⟩ := hrel
    clear HB1 HZC
    obtain ⟨hc, hf⟩ := bcell hbw
    by_cases hlt : k < W.length
    · have hki : (k : Int) < (W.length : Int) := by omega
      have HWT := Lib.hid (HA.out.want hlt).1
      have HPT := Lib.hid (show (W.map (wantPath S.F S.P))[k]? = some (wantPath S.F S.P W[k]) by simp [hlt])
      have HZS := Lib.hid (HZG.out k hlt)
      have HR1 := Lib.hid (HRG.out k hlt)
      have HG1 := Lib.hid (HGB.out k hlt)
      have HGN : Hid (0 ≤ x k ∧ x k ≤ greatW S.P W[k] → ∀ j (h : j < W.length), j < k + 1 → 0 ≤ x j ∧ x j ≤ greatW S.P W[j]) := fun h0 j hj hjk => by
        by_cases q : j = k
        · subst q; exact h0
        · exact HG.out j hj (by omega)
      have HBD : Hid (∀ z ∈ Z.take k, 0 ≤ z.2 ∧ z.2 ≤ 1048576) := HZB.out k hk (fun j hj => by have := HG.out j (by omega) hj; have := HGB.out j (by omega); omega)
      obtain ⟨bw, offw, rfl, hbb, c0, c1, c2⟩ := want_at HSW.out hlt
      obtain ⟨bz, offz, hG, hbz, d0⟩ := vec_at HSZ.out hlt
      obtain ⟨bg, offg, hE, hbg, e0⟩ := great_at HSG.out hlt
      obtain ⟨bp, offp, pv, hD, hbp, p0, HPV⟩ := HSP.out k _ HPT.out
      subst hG hE hD
      replace HPV := Lib.hid HPV
      generalize W[k] = y at *
      generalize greatW S.P y = gr at *
      generalize hq : x k = q at *
      obtain ⟨W2, hW2, hb2, hg2, hx2⟩ := box1 wr #[.int .i64 y.point, .int .i64 y.phases, .int .i64 y.top] 36
      have hb02 := hbw.trans (hb2.mono hbw.size)
      have hz02 := hb02.size
      have D0 := (hb02.cell (p := ⟨bz, offz + k, none⟩) hbz).trans d0
      have E0 := (hb02.cell (p := ⟨bg, offg + k, none⟩) hbg).trans e0
      have X0 : ∀ j, W2.cell? ⟨w.heap.size, j, none⟩ = (#[.slice A C.length c, .slice (some ⟨bw, offw, none⟩) W.length d, .slice (some ⟨bp, offp, none⟩) W.length e, .slice (some ⟨bg, offg, none⟩) W.length f] : Array Value)[j]? := fun j => (hb02.cell (p := ⟨w.heap.size, j, none⟩) hg0).trans (hx0 j)
      have HB2 := Lib.hid (HB.out.below hb2 hgm)
      have hbr := Below.refl W2.heap.size W2
      have g1 : bz < W2.heap.size := by omega
      have g2 : bg < W2.heap.size := by omega
      have g3 : w.heap.size < W2.heap.size := by omega
      go_wp2_with fail
      rw [← hW2]
      clear hW2 hc hf c0 c1 c2
      by_cases h0 : q < 0
      · (refine wp_region_kept W2 (by kernel_rfl) (by kernel_rfl) (by assumption) ?_; (repeat (go_big_quiet_step ((first | fail)))); refine wpQuiet_nil ?_; intro _ hw'; obtain ⟨x9, hw''⟩ := hw'; subst hw''; have hk9 := after_kept x9; generalize after x9 = w9 at *)
        obtain ⟨hc9, hb9⟩ := hk9
        clear hc9
        go_wp2_with fail
        go_ret
        exact ⟨ret_bool (HR1.out (.inl h0)).symm, below_step hb0 (hb02.trans (hb9.mono hz02))⟩
      · by_cases h1 : gr < q
        · (refine wp_region_kept W2 (by kernel_rfl) (by kernel_rfl) (by assumption) ?_; (repeat (go_big_quiet_step ((first | fail)))); refine wpQuiet_nil ?_; intro _ hw'; obtain ⟨x9, hw''⟩ := hw'; subst hw''; have hk9 := after_kept x9; generalize after x9 = w9 at *)
          obtain ⟨hc9, hb9⟩ := hk9
          clear hc9
          go_wp2_with fail
          go_ret
          exact ⟨ret_bool (HR1.out (.inr h1)).symm, below_step hb0 (hb02.trans (hb9.mono hz02))⟩
        · (refine wp_region_kept W2 (by kernel_rfl) (by kernel_rfl) (by assumption) ?_; (repeat (go_big_quiet_step ((first | fail)))); refine wpQuiet_nil ?_; intro _ hw'; obtain ⟨x9, hw''⟩ := hw'; subst hw''; have hk9 := after_kept x9; generalize after x9 = w9 at *)
          obtain ⟨hc9, hb9⟩ := hk9
          clear hc9
          have hbw9 := hb02.trans (hb9.mono hz02)
          have HB9 := Lib.hid (HB2.out.below hb9 (by omega))
          have X9 : ∀ j, w9.cell? ⟨w.heap.size, j, none⟩ = (#[.slice A C.length c, .slice (some ⟨bw, offw, none⟩) W.length d, .slice (some ⟨bp, offp, none⟩) W.length e, .slice (some ⟨bg, offg, none⟩) W.length f] : Array Value)[j]? := fun j => (hbw9.cell (p := ⟨w.heap.size, j, none⟩) hg0).trans (hx0 j)
          have P9 := (hbw9.cell (p := ⟨bp, offp + k, none⟩) hbp).trans p0
          have Y9 : ∀ j, w9.cell? ⟨wr.heap.size, j, none⟩ = (#[.int .i64 y.point, .int .i64 y.phases, .int .i64 y.top] : Array Value)[j]? := fun j => (hb9.cell (p := ⟨wr.heap.size, j, none⟩) hg2).trans (hx2 j)
          have HPD := Lib.hid (wantPath_desc S.F S.P y)
          have HPL := Lib.hid (wantPath_lt (F := S.F) (P := S.P) (x := y))
          have hph1 := HWT.out.h1
          have hph7 := HWT.out.h7
          have hq1 : q ≤ 1048576 := by have := HG1.out; omega
          have hlk : (Z.take k).length ≤ 1000 := by have := List.length_take_le k Z; omega
          generalize hWE : wantPath S.F S.P y = l at *
          have HWE := Lib.hid hWE
          clear hWE
          obtain ⟨E2, c2', rfl, hl2, hm2, hsl2⟩ := islen' HPV.out
          have HS2 := Lib.hid hsl2
          have hll := pathL_short HPD.out HPL.out
          clear hsl2 D0 E0 X0 hbr hx2
          go_wp2_with fail
          generalize wr = wm at *
          have HBi0 : Hid (Blk w9 W0.heap.size 41 ((addPath (loadL S.F S.P (Z.take k)) (l.take 0) y.phases q).flatMap CapR.cells)) := HB9.out
          have hgi : wm.heap.size < w9.heap.size := Nat.lt_of_lt_of_le hg2 hb9.size
          go_loopw [54] (fun i wi => ∃ m : Nat, m ≤ l.length ∧ i = .int .i64 m ∧ Below W0.heap.size W0 wi ∧ wm.heap.size < wi.heap.size ∧ (∀ j, wi.cell? ⟨wm.heap.size, j, none⟩ = (#[.int .i64 y.point, .int .i64 y.phases, .int .i64 y.top] : Array Value)[j]?) ∧ Hid (Blk wi W0.heap.size 41 ((addPath (loadL S.F S.P (Z.take k)) (l.take m) y.phases q).flatMap CapR.cells))) (fun i _ => l.length - (intOf i).toNat)
          case atStart => exact ⟨0, by omega, rfl, hbw9, hgi, Y9, HBi0⟩
          case round =>
            obtain ⟨m, hm, rfl, hbi, hgi2, hxi, HBi⟩ := hrel
            clear HBi0 X9 P9 Y9
            obtain ⟨hc, hf⟩ := bcell hbi
            by_cases hml : m < l.length
            · have hmi : (m : Int) < (l.length : Int) := by omega
              obtain ⟨be, offe, rfl, hbe, f0⟩ := path_at HS2.out hml
              have HLS := Lib.hid (path_step (P := S.P) (Z := Z.take k) (ph := y.phases) (q := q) hml HPD.out HPL.out)
              have hfl := HPL.out _ (List.getElem_mem hml)
              generalize l[m] = fe at *
              have hfl2 : (fe : Int) < (C.length : Int) := by have := HCF.out; omega
              have HCO := Lib.hid (capAt_ok (F := S.F) (P := S.P) (f := fe) HBD.out)
              generalize capAt S.F S.P fe (Z.take k) = cc at *
              generalize hLL : addPath (loadL S.F S.P (Z.take k)) (l.take m) y.phases q = LL at *
              have hnL : fe < LL.length := (List.getElem?_eq_some_iff.1 HLS.out.1).1
              have HFL := Lib.hid (fun j u h => flat_at CapR.cells 4 CapR.cells_len LL fe cc HLS.out.1 j u h)
              have hfll := flat_len CapR.cells 4 CapR.cells_len LL
              clear hLL
              go_wp2_with fail
              (refine wp_still_tail 9 (by kernel_rfl) (by kernel_rfl) ?_; simp only [List.take_succ_cons, List.take_zero, List.drop_succ_cons, List.drop_zero]; (repeat still_step); (try refine wpStill_nil ?_))
              go_wp2_with fail
              refine (aadd_any W0.heap.size (fe * 4) _ _ cc y.phases q (((Z.take k).length : Int) * 1048576) _ HBi.out.drew (by omega) (HFL.out 0 _ rfl) (HFL.out 1 _ rfl) (HFL.out 2 _ rfl) (HFL.out 3 _ rfl) HCO.out (by omega) hph1 hph7 (by omega) hq1).mono ?_
              rintro e w3 ⟨rfl, hB3, hg3⟩
              rw [HLS.out.2] at hB3
              have hbi3 : Below W0.heap.size W0 w3 := hbi.drew.grown hg3 hbi.drew.size (fun j hj => by cases hj; exact Nat.le_refl _)
              have hxi3 := fun (u : Nat) => (hg3.cell_far ⟨wm.heap.size, u, none⟩ hgi2 (by simp; omega)).trans (hxi u)
              clear hc hf
              go_wp2_with fail
              go_roundw
              case measure => simp [intOf]; omega
              case rel => exact ⟨m + 1, by omega, by go_num, hbi3, Nat.lt_of_lt_of_le hgi2 hg3.size, hxi3, hB3⟩
            · have HBf := HBi.out
              rw [(List.take_of_length_le (by omega) : l.take m = l)] at HBf
              replace HBf := Lib.hid HBf
              clear HBi
              have hmi : ¬ (m : Int) < (l.length : Int) := by omega
              go_wp2_with fail
              go_roundw
              case measure => simp [intOf]; omega
              case rel =>
                refine ⟨k + 1, by omega, by go_num, hbi, by omega, ?_, HGN.out ⟨by omega, by omega⟩⟩
                unfold Hid
                rw [HZS.out, loadL_snoc]
                show Blk _ _ _ ((addPath _ (wantPath S.F S.P y) y.phases q).flatMap CapR.cells)
                rw [HWE.out]
                exact HBf.out
    · have hki : ¬ (k : Int) < (W.length : Int) := by omega
      have hall : Z.take k = Z := List.take_of_length_le (by have := HZL.out; omega)
      have HBa : Hid (Blk wr W0.heap.size 41 ((loadL S.F S.P Z).flatMap CapR.cells)) := by have h := HB.out; rw [hall] at h; exact h
      have HGa : Hid (∀ i (hi : i < W.length), 0 ≤ x i ∧ x i ≤ greatW S.P W[i]) := fun i hi => HG.out i hi (by omega)
      clear hall HB HG
      go_wp2_with fail
      go_loopw [73] (fun i wi => ∃ m : Nat, m ≤ C.length ∧ i = .int .i64 m ∧ Below W0.heap.size W0 wi ∧ Hid (Blk wi W0.heap.size 41 ((loadL S.F S.P Z).flatMap CapR.cells)) ∧ Hid (∀ f (hf : f < C.length), f < m → overB C[f] (capAt S.F S.P f Z) = false)) (fun i _ => C.length - (intOf i).toNat)
      case atStart => exact ⟨0, by omega, rfl, hbw, HBa, fun f _ h => by omega⟩
      case round =>
        clear hc hf
        obtain ⟨m, hm, rfl, hbi, HBi, HGi⟩ := hrel
        obtain ⟨hc, hf⟩ := bcell hbi
        by_cases hml : m < C.length
        · have hmi : (m : Int) < (C.length : Int) := by omega
          have hlt0 := HBi.out.lt
          have hLg : (loadL S.F S.P Z)[m]? = some (capAt S.F S.P m Z) := loadL_get (by have := HCF.out; omega) _
          have hlL : (loadL S.F S.P Z).length = C.length := by rw [loadL_len]; exact HCF.out.symm
          have x0 := (HBi.out.cell (m * 4)).trans (flat_at CapR.cells 4 CapR.cells_len _ m _ hLg 0 _ rfl)
          have x1 := (HBi.out.cell (m * 4 + 1)).trans (flat_at CapR.cells 4 CapR.cells_len _ m _ hLg 1 _ rfl)
          have x2 := (HBi.out.cell (m * 4 + 2)).trans (flat_at CapR.cells 4 CapR.cells_len _ m _ hLg 2 _ rfl)
          have x3 := (HBi.out.cell (m * 4 + 3)).trans (flat_at CapR.cells 4 CapR.cells_len _ m _ hLg 3 _ rfl)
          obtain ⟨bc, offc, rfl, hbc, c0, c1, c2, c3⟩ := cap_at HSC.out hml
          have HV := Lib.hid (HOV.out m hml)
          have hov := overB_cases C[m] (capAt S.F S.P m Z)
          have HGN : Hid (overB C[m] (capAt S.F S.P m Z) = false → ∀ f (hf : f < C.length), f < m + 1 → overB C[f] (capAt S.F S.P f Z) = false) := fun h f hf hfm => by
            by_cases q : f = m
            · subst q; exact h
            · exact HGi.out f hf (by omega)
          clear hLg
          generalize C[m] = x' at *
          generalize capAt S.F S.P m Z = y' at *
          have HC := Lib.hid hov
          clear hov HGi
          rcases HC.out with ⟨ho, h1, h2, h3, h4⟩ | ⟨ho, hcase⟩
          · have HN := Lib.hid (HGN.out ho)
            clear ho HC HV HGN
            go_wp2_with fail
            go_roundw
            case measure => simp [intOf]; omega
            case rel => exact ⟨m + 1, by omega, by go_num, below_alloc (below_alloc hbi _) _, (HBi.out.alloc _).alloc _, HN.out⟩
          · have HE := Lib.hid (HV.out ho)
            clear ho HC HV HGN
            rcases hcase with h1 | ⟨h1, h2⟩ | ⟨h1, h2, h3⟩ | ⟨h1, h2, h3, h4⟩
            all_goals
              go_wp2_with fail
              go_ret
              exact ⟨ret_bool HE.out.symm, below_step hb0 (below_alloc (below_alloc hbi _) _)⟩
        · have hmi : ¬ (m : Int) < (C.length : Int) := by omega
          have HE := Lib.hid (HAL.out HGa.out (fun f hf => HGi.out f hf (by omega)))
          clear HGi
          go_wp2_with fail
          go_ret
          exact ⟨ret_bool HE.out.symm, below_step hb0 hbi⟩

end Go.Proofs.YtlpjniejbblcnaaDoor
