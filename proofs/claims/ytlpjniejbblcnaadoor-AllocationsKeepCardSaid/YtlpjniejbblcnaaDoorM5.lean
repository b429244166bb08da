/-
  Walks: Load of package site.
  Plain functions: fair filling: receivers are raised together, then one by one. No program is named here.
  Plain functions: the fair filling, its end; equal receivers; a single one. No program is named here.
-/
import Derived.Test.YtlpjniejbblcnaaDoorM4
import Derived.StillTailTactics

namespace Go.Proofs.YtlpjniejbblcnaaDoor
open Go.RowKit Go.Lib Go.Maps
set_option linter.unusedVariables false

theorem WantR.cells_len (c : WantR) : c.cells.length = 3 := rfl
theorem want_at {w : World} {A : Option Addr} {l : List WantR} (h : SlAt w 3 A (l.map WantR.cells)) {k : Nat} (hk : k < l.length) :
    ∃ b off, A = some ⟨b, off, none⟩ ∧ b < w.heap.size ∧ w.cell? ⟨b, off + k * 3, none⟩ = some (.int .i64 l[k].point) ∧ w.cell? ⟨b, off + k * 3 + 1, none⟩ = some (.int .i64 l[k].phases) ∧ w.cell? ⟨b, off + k * 3 + 2, none⟩ = some (.int .i64 l[k].top) := by
  obtain ⟨b, off, e, hb, hc⟩ := h k l[k].cells (by rw [List.getElem?_map, List.getElem?_eq_getElem hk]; rfl)
  exact ⟨b, off, e, hb, hc 0 _ rfl, hc 1 _ rfl, hc 2 _ rfl⟩


theorem PathInv.fresh {F : List Feed} {i0 : Int} {pre : List Nat} {last k : Nat} (h : PathInv F i0 pre last (k : Int)) (hk : k < last) (hl : k < F.length) : k ∉ pre ∧ pre.Pairwise (fun a b => b < a) := by
  have hd := pathL_desc (F := F) (last := F.length) (i := i0)
  rw [h.eq, pathL_in hk hl, List.pairwise_append] at hd
  exact ⟨fun hm => by have := hd.2.2 k hm k (by simp); omega, hd.1⟩
theorem addPath_snoc (L : List CapR) (pre : List Nat) (k : Nat) (ph p : Int) : addPath L (pre ++ [k]) ph p = (addPath L pre ph p).modify k (fun c => addC c ph p) := by
  unfold addPath; rw [List.foldl_append]; rfl
/-- a feeder of the path gets its load -/
theorem load_step {F : List Feed} {P : List Pnt} {l : List (WantR × Int)} {i0 : Int} {pre : List Nat} {last k : Nat} {ph q : Int} (h : PathInv F i0 pre last (k : Int)) (hk : k < last) (hl : k < F.length) :
    (addPath (loadL F P l) pre ph q)[k]? = some (capAt F P k l) ∧ setAll ((addPath (loadL F P l) pre ph q).flatMap CapR.cells) (k * 4) (addC (capAt F P k l) ph q).cells = (addPath (loadL F P l) (pre ++ [k]) ph q).flatMap CapR.cells := by
  obtain ⟨hf, hd⟩ := h.fresh hk hl
  have hg : (addPath (loadL F P l) pre ph q)[k]? = some (capAt F P k l) := by rw [addPath_get hd, if_neg hf, loadL_get hl]
  refine ⟨hg, ?_⟩
  have hlt : k < (addPath (loadL F P l) pre ph q).length := (List.getElem?_eq_some_iff.1 hg).1
  rw [set_row CapR.cells_len (by omega) _ k hlt, addPath_snoc, addPath_step (F := F) hg]

theorem zip_take_snoc {α β : Type} {a : List α} {b : List β} {k : Nat} (h1 : k < a.length) (h2 : k < b.length) : (a.zip b).take (k + 1) = (a.zip b).take k ++ [(a[k], b[k])] := by
  rw [List.take_succ_eq_append_getElem (by simp; omega)]
  simp
theorem zip_all_false {α β : Type} {a : List α} {b : List β} {k : Nat} (h1 : k < a.length) (h2 : k < b.length) (p : α × β → Bool) (h : p (a[k], b[k]) = false) : (a.zip b).all p = false := by
  have hk : k < (a.zip b).length := by simp; omega
  refine all_false' (a.zip b) p hk ?_
  rw [List.getElem_zip]; exact h

/-- the facts of a round -/
structure LoadRound (S : SiteR) (Z : List (WantR × Int)) (x : WantR) (q : Int) (k : Nat) : Prop where
  take : Z.take (k + 1) = Z.take k ++ [(x, q)]
  bad : wantB S.P (x, q) = false → Z.all (wantB S.P) = false
  good : wantB S.P (x, q) = true → (Z.take k).all (wantB S.P) = true → (Z.take (k + 1)).all (wantB S.P) = true
theorem LoadRound.mk' {S : SiteR} {W : List WantR} {pw : List Int} {k : Nat} (h1 : k < W.length) (h2 : k < pw.length) : LoadRound S (W.zip pw) W[k] pw[k] k :=
  ⟨zip_take_snoc h1 h2, fun h => zip_all_false h1 h2 _ h, fun h h3 => by rw [zip_take_snoc h1 h2, List.all_append, h3]; simp [h]⟩

theorem take_bd {P : List Pnt} {l : List (WantR × Int)} (h : l.all (wantB P) = true) : ∀ x ∈ l, 0 ≤ x.2 ∧ x.2 ≤ 1048576 := fun x hx => by
  have := wantB_iff.1 (List.all_eq_true.1 h x hx)
  exact ⟨this.w0, this.w1⟩

set_option maxRecDepth 100000 in
set_option maxHeartbeats 12800000 in
theorem load_any (S : SiteR) (W : List WantR) (pw : List Int) (fv pv wv zv : Value) (w : World) (hF : IsSl w 5 fv (S.F.map Feed.cells)) (hP : IsSl w 5 pv (S.P.map Pnt.cells)) (hW : IsSl w 3 wv (W.map WantR.cells)) (hZ : IsSl w 1 zv (pw.map encZ))
    (hn : S.name.size ≤ maxLen) (hfF : ∀ f ∈ S.F, f.fits) (hfP : ∀ p ∈ S.P, p.fits) (hfW : ∀ x ∈ W, I64 x.phases) (hlW : W.length ≤ 1000) (hlZ : pw.length ≤ 1000) :
    Calls Tryd.prog 19 #[.agg #[.string S.name, fv, pv], wv, zv] w
      fun e w' => ∃ v, e = .returned (.tuple #[v, .int .i64 (loadE S W pw)]) ∧ IsSl w' 4 v ((loadsOf S W pw).map CapR.cells) ∧ Below w.heap.size w w' := by
  have HIF := Lib.hid hF
  have HIP := Lib.hid hP
  have HIW := Lib.hid hW
  have HIZ := Lib.hid hZ
  obtain ⟨A, c, rfl, hlc, hcm, hsl⟩ := islen' hF
  obtain ⟨B, d, rfl, hld, hdm, hsp⟩ := islen' hP
  obtain ⟨C, c', rfl, hlc', hcm', hsw⟩ := islen' hW
  obtain ⟨D, d', rfl, hld', hdm', hsz⟩ := islen' hZ
  obtain ⟨W0, hW0, hb0, hg0, hx0⟩ := box1 w #[.string S.name, .slice A S.F.length c, .slice B S.P.length d] 30
  have HV := Lib.hid (siteValid_any S _ _ W0 (HIF.out.below hb0) (HIP.out.below hb0) hn hfF hfP)
  have HSF := Lib.hid (hsl.below hb0)
  have HSP := Lib.hid (hsp.below hb0)
  have HSW := Lib.hid (hsw.below hb0)
  have HSZ := Lib.hid (hsz.below hb0)
  have HFW := Lib.hid hfW
  clear hF hP hW hZ hsl hsp hsw hsz hfF hfP hfW hlc hld hlc' hld' hcm hdm hcm' hdm' hn HIF HIP HIW HIZ
  cases hv : (siteE S != 0) with
  | true =>
    have h0 : siteE S ≠ 0 := by simpa using hv
    have HE := Lib.hid (loadE_site (W := W) (pw := pw) h0)
    have HN := Lib.hid (loadsOf_no (S := S) (W := W) (pw := pw) (by rw [HE.out]; exact h0))
    clear h0
    go_enter Tryd.func19, Tryd.ntmps19
    go_wp2_with fail
    rw [← hW0]
    clear hW0
    refine HV.out.mono ?_
    rintro e w1 ⟨rfl, hb1⟩
    go_wp2_with fail
    go_ret2
    exact ⟨.slice none 0 0, ret_vint rfl (by rw [HE.out]), by rw [HN.out]; exact IsSl.nil _ _, below_step hb0 hb1⟩
  | false =>
  have h0 : siteE S = 0 := by simpa using hv
  by_cases hl : W.length = pw.length
  rotate_left 1
  · have hne : ((W.length : Int) != (pw.length : Int)) = true := by simp; omega
    have HE := Lib.hid (loadE_len (W := W) (pw := pw) h0 hl)
    have HN := Lib.hid (loadsOf_no (S := S) (W := W) (pw := pw) (by rw [HE.out]; simp))
    clear h0 hl
    go_enter Tryd.func19, Tryd.ntmps19
    go_wp2_with fail
    rw [← hW0]
    clear hW0
    refine HV.out.mono ?_
    rintro e w1 ⟨rfl, hb1⟩
    go_wp2_with fail
    go_ret2
    exact ⟨.slice none 0 0, ret_vint rfl (by rw [HE.out]), by rw [HN.out]; exact IsSl.nil _ _, below_step hb0 hb1⟩
  have hne : ((W.length : Int) != (pw.length : Int)) = false := by simp; omega
  have HOK := Lib.hid (siteE_ok h0)
  have HBAD : Hid ((W.zip pw).all (wantB S.P) = false → loadE S W pw = 1 ∧ loadsOf S W pw = []) := fun h => ⟨loadE_bad h0 hl h, loadsOf_no (by rw [loadE_bad h0 hl h]; simp)⟩
  have HGOOD : Hid ((W.zip pw).all (wantB S.P) = true → loadE S W pw = 0 ∧ loadsOf S W pw = loadL S.F S.P (W.zip pw)) := fun h => ⟨loadE_ok h0 hl h, loadsOf_ok (loadE_ok h0 hl h)⟩
  have HZL : Hid ((W.zip pw).length = W.length) := by unfold Hid; simp; omega
  have HL := Lib.hid hl
  have HR := Lib.hid (fun (k : Nat) (h1 : k < W.length) (h2 : k < pw.length) => LoadRound.mk' (S := S) h1 h2)
  generalize W.zip pw = Z at *
  have hlF := HOK.out.lF
  have hlP := HOK.out.lP
  obtain ⟨i0, hi0, hz0, hz1, hz2⟩ := info_parts capInfo
  have hmk := fun W => run_make_rowZ (P := Tryd.prog) 42 41 i0 _ Tryd.underlying42 hi0 hz0 .i64 .i64 S.F.length S.F.length (S.F.length : Int) (S.F.length : Int) rfl rfl (by omega) (by rw [hz2]; omega) (by omega) W
  rw [hz1] at hmk
  have HZC := Lib.hid (zero_cells S.F.length)
  generalize madeCells _ (S.F.length * 4) = ZC at hmk HZC
  clear h0 hl
  go_enter Tryd.func19, Tryd.ntmps19
  go_wp2_with fail
  rw [← hW0]
  clear hW0
  refine HV.out.mono ?_
  rintro e w1 ⟨rfl, hb1⟩
  obtain ⟨hc, hf⟩ := bcell hb1
  have hb01 := below_step hb0 hb1
  have hgx : w.heap.size < w1.heap.size := Nat.lt_of_lt_of_le hg0 hb1.size
  have hx1 : ∀ j, w1.cell? ⟨w.heap.size, j, none⟩ = (#[.string S.name, .slice A S.F.length c, .slice B S.P.length d] : Array Value)[j]? := fun j => (hc _ _ hg0).trans (hx0 j)
  clear hc hf hx0
  go_wp2_with fail
  have HSF1 := Lib.hid (HSF.out.below hb1)
  have HSP1 := Lib.hid (HSP.out.below hb1)
  have HSW1 := Lib.hid (HSW.out.below hb1)
  have HSZ1 := Lib.hid (HSZ.out.below hb1)
  clear HSF HSP HSW HSZ HV hmk hb0 hb1 hg0
  have HB1 : Hid (Blk (w1.alloc (.cells ZC 41)) w1.heap.size 41 ((loadL S.F S.P (Z.take 0)).flatMap CapR.cells)) := by
    refine Blk.new' rfl _ _ ?_
    rw [HZC.out]; rfl
  go_loopw [30] (fun i wr => ∃ k : Nat, k ≤ W.length ∧ i = .int .i64 k ∧ Below w1.heap.size w1 wr ∧ w1.heap.size < wr.heap.size ∧ Hid (Blk wr w1.heap.size 41 ((loadL S.F S.P (Z.take k)).flatMap CapR.cells)) ∧ Hid ((Z.take k).all (wantB S.P) = true)) (fun i _ => W.length - (intOf i).toNat)
  case atStart => exact ⟨0, by omega, rfl, below_alloc (Below.refl _ _) _, by simp, HB1, by simp [Hid]⟩
  case round =>
    obtain ⟨k, hk, rfl, hbw, hgm, HB, HG⟩ := hrel
    clear HB1 HZC
    obtain ⟨hc, hf⟩ := bcell hbw
    by_cases hlt : k < W.length
    · have hki : (k : Int) < (W.length : Int) := by omega
      have hlt2 : k < pw.length := by have := HL.out; omega
      have hki2 : (k : Int) < (pw.length : Int) := by omega
      have HLR := Lib.hid (HR.out k hlt hlt2)
      have hix := HFW.out _ (List.getElem_mem hlt)
      obtain ⟨bw, offw, rfl, hbb, c0, c1, c2⟩ := want_at HSW1.out hlt
      obtain ⟨bz, offz, rfl, hbz, d0⟩ := int_at HSZ1.out hlt2
      generalize W[k] = x at *
      generalize pw[k] = q at *
      have HIX := Lib.hid hix
      clear hix
      have g1 : w.heap.size < wr.heap.size := by omega
      have g2 : bw < wr.heap.size := by omega
      have g3 : bz < wr.heap.size := by omega
      by_cases hp : x.point < 0 ∨ (S.P.length : Int) ≤ x.point
      · obtain ⟨HE, HN⟩ := HBAD.out (HLR.out.bad (want_out hp))
        replace HE := Lib.hid HE
        replace HN := Lib.hid HN
        by_cases hp0 : x.point < 0
        · clear hp
          go_wp2_with fail
          go_ret2
          exact ⟨.slice none 0 0, ret_vint rfl (by rw [HE.out]), by rw [HN.out]; exact IsSl.nil _ _, below_step hb01 (below_alloc hbw _)⟩
        · have hp1 : (S.P.length : Int) ≤ x.point := by omega
          clear hp
          go_wp2_with fail
          go_ret2
          exact ⟨.slice none 0 0, ret_vint rfl (by rw [HE.out]), by rw [HN.out]; exact IsSl.nil _ _, below_step hb01 (below_alloc hbw _)⟩
      · obtain ⟨j, hj⟩ : ∃ j : Nat, x.point = j := ⟨x.point.toNat, by omega⟩
        have hjl : j < S.P.length := by omega
        have hjli : (j : Int) < (S.P.length : Int) := by omega
        have HC := Lib.hid (want_code (x := (x, q)) HOK.out HIX.out hjl hj)
        have HWP := Lib.hid (wantPath_eq (F := S.F) (x := x) hjl hj)
        have hpn := HOK.out.pnt j hjl
        obtain ⟨bp, offp, rfl, hbp, e0, e1, e2, e3, e4⟩ := pnt_at HSP1.out hjl
        generalize S.P[j] = y at *
        have g4 : bp < wr.heap.size := by omega
        rw [hj] at c0
        clear hp
        have HJ := Lib.hid hj
        clear hj
        obtain ⟨W2, hW2, hb2, hg23, hg2, hx2, hy2⟩ := box2 wr #[.int .i64 j, .int .i64 x.phases, .int .i64 x.top] 36 #[.string y.name, .int .i64 y.feeder, .int .i64 y.phases, .int .i64 y.rated, .int .i64 y.least] 34
        have hbw2 := hbw.trans (hb2.mono hbw.size)
        cases hz : (x.phases == 0) with
        | true =>
          obtain ⟨HE, HN⟩ := HBAD.out (HLR.out.bad (by rw [HC.out]; simp only [hz]; rfl))
          replace HE := Lib.hid HE
          replace HN := Lib.hid HN
          go_wp2_with fail
          go_ret2
          exact ⟨.slice none 0 0, ret_vint rfl (by rw [HE.out]), by rw [HN.out]; exact IsSl.nil _ _, below_step hb01 (below_alloc (below_alloc hbw _) _)⟩
        | false =>
          cases hm : maskB x.phases y.phases with
          | false =>
            obtain ⟨HE, HN⟩ := HBAD.out (HLR.out.bad (by rw [HC.out]; simp only [hz, hm]; rfl))
            replace HE := Lib.hid HE
            replace HN := Lib.hid HN
            have hm2 : (bits .andNot .i64 x.phases y.phases != 0) = true := by unfold maskB at hm; simpa using hm
            go_wp2_with fail
            go_ret2
            exact ⟨.slice none 0 0, ret_vint rfl (by rw [HE.out]), by rw [HN.out]; exact IsSl.nil _ _, below_step hb01 (below_alloc (below_alloc hbw _) _)⟩
          | true =>
            have hm1 : bits .andNot .i64 x.phases y.phases = 0 := by unfold maskB at hm; simpa using hm
            have hm2 : (bits .andNot .i64 x.phases y.phases != 0) = false := by simpa using hm1
            cases hpw : powB q with
            | false =>
              obtain ⟨HE, HN⟩ := HBAD.out (HLR.out.bad (by rw [HC.out]; simp only [hz, hm, hpw]; rfl))
              replace HE := Lib.hid HE
              replace HN := Lib.hid HN
              clear hm1 hm
              go_wp2_with (go_at_call 41; refine (isPower_any _ _).mono ?_; rintro e w' ⟨rfl, rfl⟩; rw [hpw])
              go_ret2
              exact ⟨.slice none 0 0, ret_vint rfl (by rw [HE.out]), by rw [HN.out]; exact IsSl.nil _ _, below_step hb01 (below_alloc (below_alloc hbw _) _)⟩
            | true =>
              have HWG : Hid (wantB S.P (x, q) = true) := by unfold Hid; rw [HC.out]; simp only [hz, hm, hpw]; rfl
              have HBD := Lib.hid (take_bd HG.out)
              have hmb := mask_bd hm1 (by omega) (by omega) HIX.out
              have hph1 : 1 ≤ x.phases := by simp at hz; omega
              have hph7 := hmb.2
              obtain ⟨hq0, hq1⟩ := powB_iff.1 hpw
              have hlk : (Z.take k).length ≤ 1000 := by have := List.length_take_le k Z; omega
              clear hm1 hm hmb
              go_wp2_with (go_at_call 41; refine (isPower_any _ _).mono ?_; rintro e w' ⟨rfl, rfl⟩; rw [hpw])
              rw [← hW2]
              clear hc hf
              have HB2 : Hid (Blk W2 w1.heap.size 41 ((loadL S.F S.P (Z.take k)).flatMap CapR.cells)) := by unfold Hid; rw [hW2]; exact (HB.out.alloc _).alloc _
              clear hW2 hm2 hz hpw c0 c1 c2 e0 e1 e2 e3 e4
              go_loopw [13] (fun i wi => ∃ (pre : List Nat) (last : Nat) (p : Int), i = .int .i64 p ∧ p < (last : Int) ∧ Below w1.heap.size w1 wi ∧ W2.heap.size ≤ wi.heap.size ∧ (∀ u, wi.cell? ⟨wr.heap.size, u, none⟩ = (#[.int .i64 j, .int .i64 x.phases, .int .i64 x.top] : Array Value)[u]?) ∧
                Hid (Blk wi w1.heap.size 41 ((addPath (loadL S.F S.P (Z.take k)) pre x.phases q).flatMap CapR.cells)) ∧ Hid (PathInv S.F y.feeder pre last p)) (fun i _ => (intOf i + 1).toNat)
              case atStart => exact ⟨[], S.F.length, y.feeder, rfl, hpn.2.1, hbw2, Nat.le_refl _, hx2, HB2, PathInv.start _ _⟩
              case round =>
                obtain ⟨pre, last, p, rfl, hpl, hbi, hzi, hxi, HBi, HI⟩ := hrel
                obtain ⟨hc, hf⟩ := bcell hbi
                have hle := HI.out.le
                by_cases hp0 : 0 ≤ p
                · obtain ⟨n, rfl⟩ : ∃ n : Nat, p = n := ⟨p.toNat, by omega⟩
                  have hn1 : n < last := by omega
                  have hn2 : n < S.F.length := by omega
                  have hn3 : (n : Int) < (S.F.length : Int) := by omega
                  have HLS := Lib.hid (load_step (P := S.P) (l := Z.take k) (ph := x.phases) (q := q) HI.out hn1 hn2)
                  have HNX := Lib.hid (HI.out.next hn1 hn2)
                  have hpar := HOK.out.par n hn2
                  have HCO := Lib.hid (capAt_ok (F := S.F) (P := S.P) (f := n) HBD.out)
                  obtain ⟨bf, offf, rfl, hbf, _, f1, _, _, _⟩ := feed_at HSF1.out hn2
                  generalize S.F[n].parent = par at *
                  generalize capAt S.F S.P n (Z.take k) = cc at *
                  generalize hLL : addPath (loadL S.F S.P (Z.take k)) pre x.phases q = LL at *
                  have HLL := Lib.hid hLL
                  clear hLL
                  have hnl : n < LL.length := (List.getElem?_eq_some_iff.1 HLS.out.1).1
                  have HFL := Lib.hid (fun j u h => flat_at CapR.cells 4 CapR.cells_len LL n cc HLS.out.1 j u h)
                  have hfl := flat_len CapR.cells 4 CapR.cells_len LL
                  go_wp2_with fail
                  go_still_tail 9, (by kernel_rfl)
                  go_wp2_with fail
                  refine (add_any w1.heap.size (n * 4) _ _ cc x.phases q (((Z.take k).length : Int) * 1048576) _ HBi.out.drew (by omega) (HFL.out 0 _ rfl) (HFL.out 1 _ rfl) (HFL.out 2 _ rfl) (HFL.out 3 _ rfl) HCO.out (by omega) hph1 hph7 hq0 hq1).mono ?_
                  rintro e w3 ⟨rfl, hB3, hg3⟩
                  rw [HLS.out.2] at hB3
                  have hbi3 : Below w1.heap.size w1 w3 := hbi.drew.grown hg3 hbi.drew.size (fun j hj => by cases hj; exact Nat.le_refl _)
                  have hxi3 := fun (u : Nat) => (hg3.cell_far ⟨_, u, none⟩ (Nat.lt_of_lt_of_le hg2 hzi) (by simp; omega)).trans (hxi u)
                  have hzi3 : W2.heap.size ≤ w3.heap.size := Nat.le_trans hzi hg3.size
                  clear hc hf
                  obtain ⟨hc, hf⟩ := bcell hbi3
                  go_wp2_with fail
                  go_roundw
                  case measure => simp [intOf]; omega
                  case rel => exact ⟨pre ++ [n], n, par, rfl, hpar.2, hbi3, hzi3, hxi3, hB3, HNX.out⟩
                · have HE := Lib.hid (HI.out.stop (fun h => hp0 h.1))
                  go_wp2_with fail
                  go_roundw
                  case measure => simp [intOf]; omega
                  case rel =>
                    refine ⟨k + 1, by omega, by go_num, hbi, by omega, ?_, ?_⟩
                    · unfold Hid
                      rw [HLR.out.take, loadL_snoc]
                      show Blk _ _ _ ((addPath _ (wantPath S.F S.P x) x.phases q).flatMap CapR.cells)
                      rw [HWP.out, HE.out]
                      exact HBi.out
                    · exact HLR.out.good HWG.out HG.out
    · have hall : Z.take k = Z := List.take_of_length_le (by have := HZL.out; omega)
      have HB' := HB.out
      have HG' := HG.out
      rw [hall] at HB' HG'
      obtain ⟨HE, HN⟩ := HGOOD.out HG'
      replace HE := Lib.hid HE
      replace HN := Lib.hid HN
      replace HB' := Lib.hid HB'
      clear hall HG' HB HG
      go_wp2_with fail
      go_ret2
      exact ⟨.slice (some ⟨w1.heap.size, 0, none⟩) S.F.length S.F.length, ret_vint rfl (by rw [HE.out]), by rw [HN.out]; exact Blk.isSl CapR.cells_len HB'.out (loadL_len _ _ _) (by unfold maxLen; omega), below_step hb01 hbw⟩

end Go.Proofs.YtlpjniejbblcnaaDoor

namespace Go.Proofs.YtlpjniejbblcnaaDoor
set_option linter.unusedVariables false

abbrev Vec := Nat → Int
abbrev Act := Nat → Bool
/-- the active ones raised by d, at most to their caps -/
def levF (x c : Vec) (a : Act) (d : Int) : Vec := fun i => if a i = true then min (x i + d) (c i) else x i
def updF {α : Type} (x : Nat → α) (i : Nat) (v : α) : Nat → α := fun j => if j = i then v else x j
theorem upd_same {α : Type} (x : Nat → α) (i : Nat) (v : α) : updF x i v i = v := if_pos rfl
theorem upd_other {α : Type} {x : Nat → α} {i j : Nat} {v : α} (h : j ≠ i) : updF x i v j = x j := if_neg h
/-- lesser vectors of n numbers that are not negative fit, too; what fits depends on n numbers only -/
structure FillOk (n : Nat) (F : Vec → Bool) : Prop where
  mono : ∀ u v : Vec, (∀ i, i < n → 0 ≤ u i ∧ u i ≤ v i) → F v = true → F u = true
theorem FillOk.congr {n : Nat} {F : Vec → Bool} (h : FillOk n F) {u v : Vec} (h0 : ∀ i, i < n → 0 ≤ u i) (e : ∀ i, i < n → u i = v i) : F u = F v := by
  rw [Bool.eq_iff_iff]
  exact ⟨h.mono v u (fun i hi => by have := h0 i hi; have := e i hi; omega), h.mono u v (fun i hi => by have := h0 i hi; have := e i hi; omega)⟩
structure FSt where
  x : Vec
  a : Act
/-- a state of the filling -/
structure FSt.ok (n : Nat) (F : Vec → Bool) (c : Vec) (s : FSt) : Prop where
  rng : ∀ i, i < n → 0 ≤ s.x i ∧ s.x i ≤ c i
  fit : F s.x = true
  act : ∀ i, s.a i = true → i < n
  /-- who is inactive can have no more -/
  out : ∀ i, i < n → s.a i = false → s.x i = c i ∨ F (updF s.x i (s.x i + 1)) = false
/-- d is the greatest number by which all active ones can be raised -/
def IsTop (n : Nat) (F : Vec → Bool) (c : Vec) (s : FSt) (d : Int) : Prop :=
  0 ≤ d ∧ F (levF s.x c s.a d) = true ∧ ((∀ i, i < n → s.a i = true → c i ≤ s.x i + d) ∨ F (levF s.x c s.a (d + 1)) = false)
theorem lev_le {n : Nat} {c : Vec} {s : FSt} (h : ∀ i, i < n → 0 ≤ s.x i ∧ s.x i ≤ c i) {d e : Int} (h0 : 0 ≤ d) (h1 : d ≤ e) : ∀ i, i < n → 0 ≤ levF s.x c s.a d i ∧ levF s.x c s.a d i ≤ levF s.x c s.a e i := fun i hi => by
  have := h i hi
  unfold levF
  split <;> omega
theorem lev_zero {n : Nat} {c : Vec} {s : FSt} (h : ∀ i, i < n → 0 ≤ s.x i ∧ s.x i ≤ c i) : ∀ i, i < n → levF s.x c s.a 0 i = s.x i := fun i hi => by
  have := h i hi
  unfold levF
  split <;> omega
theorem lev_ge {n : Nat} {c : Vec} {s : FSt} (h : ∀ i, i < n → 0 ≤ s.x i ∧ s.x i ≤ c i) {d : Int} (h0 : 0 ≤ d) : ∀ i, i < n → s.x i ≤ levF s.x c s.a d i ∧ levF s.x c s.a d i ≤ c i := fun i hi => by
  have := h i hi
  unfold levF
  split <;> omega
theorem top_same {n : Nat} {F : Vec → Bool} {c : Vec} {s : FSt} (hF : FillOk n F) (hs : s.ok n F c) {d e : Int} (hd : IsTop n F c s d) (he : IsTop n F c s e) (hde : d ≤ e) : ∀ i, i < n → levF s.x c s.a d i = levF s.x c s.a e i := by
  by_cases h : d = e
  · subst h; exact fun i _ => rfl
  · rcases hd.2.2 with h1 | h1
    · intro i hi
      have := hs.rng i hi
      unfold levF
      split
      · rename_i g
        have := h1 i hi g
        omega
      · rfl
    · have := hF.mono _ _ (lev_le hs.rng (d := d + 1) (e := e) (by have := hd.1; omega) (by omega)) he.2.1
      rw [this] at h1; cases h1
theorem top_unique {n : Nat} {F : Vec → Bool} {c : Vec} {s : FSt} (hF : FillOk n F) (hs : s.ok n F c) {d e : Int} (hd : IsTop n F c s d) (he : IsTop n F c s e) : ∀ i, i < n → levF s.x c s.a d i = levF s.x c s.a e i := by
  rcases Int.le_total d e with h | h
  · exact top_same hF hs hd he h
  · exact fun i hi => (top_same hF hs he hd h i hi).symm
theorem top_exists {n : Nat} {F : Vec → Bool} {c : Vec} {s : FSt} (hF : FillOk n F) (hs : s.ok n F c) {B : Nat} (hB : ∀ i, i < n → c i ≤ B) : ∃ d, IsTop n F c s d := by
  have h0 : F (levF s.x c s.a 0) = true := by rw [hF.congr (fun i hi => (lev_le hs.rng (d := 0) (e := 0) (by omega) (by omega) i hi).1) (lev_zero hs.rng)]; exact hs.fit
  have key : ∀ m : Nat, (∃ d : Int, 0 ≤ d ∧ F (levF s.x c s.a d) = true ∧ F (levF s.x c s.a (d + 1)) = false) ∨ F (levF s.x c s.a m) = true := by
    intro m
    induction m with
    | zero => exact .inr h0
    | succ m ih =>
      rcases ih with h | h
      · exact .inl h
      · cases e : F (levF s.x c s.a ((m + 1 : Nat) : Int)) with
        | true => exact .inr rfl
        | false => exact .inl ⟨m, by omega, h, by rw [show (m : Int) + 1 = ((m + 1 : Nat) : Int) by omega]; exact e⟩
  rcases key B with ⟨d, a, b, e⟩ | h
  · exact ⟨d, a, b, .inr e⟩
  · exact ⟨B, by omega, h, .inl fun i hi _ => by have := hs.rng i hi; have := hB i hi; omega⟩

/-- one active receiver is raised by one, or becomes inactive -/
def stepF (F : Vec → Bool) (c : Vec) (s : FSt) (i : Nat) : FSt :=
  if s.a i = true then (if s.x i < c i ∧ F (updF s.x i (s.x i + 1)) = true then ⟨updF s.x i (s.x i + 1), s.a⟩ else ⟨s.x, updF s.a i false⟩) else s
/-- .. the first k of them -/
def passF (F : Vec → Bool) (c : Vec) (s : FSt) : Nat → FSt
  | 0 => s
  | k + 1 => stepF F c (passF F c s k) k
theorem step_off {F : Vec → Bool} {c : Vec} {s : FSt} {i : Nat} (h : s.a i = false) : stepF F c s i = s := if_neg (by rw [h]; decide)
theorem step_up {F : Vec → Bool} {c : Vec} {s : FSt} {i : Nat} (h : s.a i = true) (h1 : s.x i < c i) (h2 : F (updF s.x i (s.x i + 1)) = true) : stepF F c s i = ⟨updF s.x i (s.x i + 1), s.a⟩ := by
  unfold stepF; rw [if_pos h, if_pos ⟨h1, h2⟩]
theorem step_out {F : Vec → Bool} {c : Vec} {s : FSt} {i : Nat} (h : s.a i = true) (h1 : ¬ (s.x i < c i ∧ F (updF s.x i (s.x i + 1)) = true)) : stepF F c s i = ⟨s.x, updF s.a i false⟩ := by
  unfold stepF; rw [if_pos h, if_neg h1]
/-- what was blocked stays so while others rise -/
theorem blocked_mono {n : Nat} {F : Vec → Bool} (hF : FillOk n F) {u v : Vec} {i : Nat} (hu : ∀ j, j < n → 0 ≤ u j ∧ u j ≤ v j) (hi : u i = v i) (h : F (updF u i (u i + 1)) = false) : F (updF v i (v i + 1)) = false := by
  cases e : F (updF v i (v i + 1)) with
  | false => rfl
  | true =>
    have := hF.mono (updF u i (u i + 1)) (updF v i (v i + 1)) (fun j hj => by
      have := hu j hj
      by_cases q : j = i
      · subst q; rw [upd_same, upd_same]; omega
      · rw [upd_other q, upd_other q]; omega) e
    rw [this] at h; cases h
theorem step_ok {n : Nat} {F : Vec → Bool} {c : Vec} {s : FSt} (hF : FillOk n F) (hs : s.ok n F c) (i : Nat) : (stepF F c s i).ok n F c := by
  cases ha : s.a i with
  | false => rw [step_off ha]; exact hs
  | true =>
    have hi := hs.act i ha
    by_cases h : s.x i < c i ∧ F (updF s.x i (s.x i + 1)) = true
    · rw [step_up ha h.1 h.2]
      refine ⟨fun j hj => ?_, h.2, hs.act, fun j hj haj => ?_⟩
      · have := hs.rng j hj
        simp only
        by_cases q : j = i
        · subst q; rw [upd_same]; omega
        · rw [upd_other q]; omega
      · have q : j ≠ i := fun e => by subst e; simp only at haj; rw [ha] at haj; cases haj
        simp only [upd_other q]
        rcases hs.out j hj haj with g | g
        · exact .inl g
        · right
          have := blocked_mono hF (u := s.x) (v := updF s.x i (s.x i + 1)) (i := j) (fun k hk => by
            have := hs.rng k hk
            by_cases e : k = i
            · subst e; rw [upd_same]; omega
            · rw [upd_other e]; omega) (upd_other q).symm g
          rw [upd_other q] at this
          exact this
    · rw [step_out ha h]
      refine ⟨hs.rng, hs.fit, fun j hj => ?_, fun j hj haj => ?_⟩
      · simp only at hj
        by_cases q : j = i
        · subst q; exact hi
        · rw [upd_other q] at hj; exact hs.act j hj
      · simp only at haj ⊢
        by_cases q : j = i
        · subst q
          have := hs.rng j hj
          by_cases g : s.x j < c j
          · right
            cases e : F (updF s.x j (s.x j + 1)) with
            | false => rfl
            | true => exact absurd ⟨g, e⟩ h
          · left; omega
        · rw [upd_other q] at haj
          exact hs.out j hj haj
theorem pass_ok {n : Nat} {F : Vec → Bool} {c : Vec} {s : FSt} (hF : FillOk n F) (hs : s.ok n F c) : ∀ k, (passF F c s k).ok n F c
  | 0 => hs
  | k + 1 => step_ok hF (pass_ok hF hs k) k
/-- what a pass has done to the first k, and to the others -/
theorem pass_at {F : Vec → Bool} {c : Vec} {s : FSt} : ∀ k j, (k ≤ j → (passF F c s k).x j = s.x j ∧ (passF F c s k).a j = s.a j) ∧
    (j < k → (s.a j = false → (passF F c s k).x j = s.x j ∧ (passF F c s k).a j = false) ∧ (s.a j = true → ((passF F c s k).a j = true ∧ (passF F c s k).x j = s.x j + 1 ∧ s.x j < c j) ∨ ((passF F c s k).a j = false ∧ (passF F c s k).x j = s.x j))) := by
  intro k
  induction k with
  | zero => exact fun j => ⟨fun _ => ⟨rfl, rfl⟩, fun h => absurd h (by omega)⟩
  | succ k ih =>
    intro j
    have hk := (ih k).1 (Nat.le_refl _)
    have hsp : passF F c s (k + 1) = stepF F c (passF F c s k) k := rfl
    rw [hsp]
    cases ha : (passF F c s k).a k with
    | false =>
      rw [step_off ha]
      refine ⟨fun h => (ih j).1 (by omega), fun h => ?_⟩
      by_cases q : j = k
      · subst q
        rw [hk.2] at ha
        exact ⟨fun _ => ⟨hk.1, by rw [hk.2]; exact ha⟩, fun g => by rw [ha] at g; cases g⟩
      · exact (ih j).2 (by omega)
    | true =>
      by_cases hu : (passF F c s k).x k < c k ∧ F (updF (passF F c s k).x k ((passF F c s k).x k + 1)) = true
      · rw [step_up ha hu.1 hu.2]
        simp only
        refine ⟨fun h => ?_, fun h => ?_⟩
        · rw [upd_other (by omega)]; exact (ih j).1 (by omega)
        · by_cases q : j = k
          · subst q
            rw [upd_same]
            rw [hk.2] at ha
            refine ⟨fun g => (by rw [ha] at g; cases g), fun _ => .inl ⟨by rw [hk.2]; exact ha, by rw [hk.1], by have := hu.1; rw [hk.1] at this; exact this⟩⟩
          · rw [upd_other q]; exact (ih j).2 (by omega)
      · rw [step_out ha hu]
        simp only
        refine ⟨fun h => ?_, fun h => ?_⟩
        · rw [upd_other (by omega)]; exact (ih j).1 (by omega)
        · by_cases q : j = k
          · subst q
            rw [upd_same]
            rw [hk.2] at ha
            exact ⟨fun g => (by rw [ha] at g; cases g), fun _ => .inr ⟨rfl, hk.1⟩⟩
          · rw [upd_other q]; exact (ih j).2 (by omega)

/-- a round: all active ones together, then one by one -/
def rndF (n : Nat) (F : Vec → Bool) (c : Vec) (s : FSt) (d : Int) : FSt := passF F c ⟨levF s.x c s.a d, s.a⟩ n
theorem lev_ok {n : Nat} {F : Vec → Bool} {c : Vec} {s : FSt} (hF : FillOk n F) (hs : s.ok n F c) {d : Int} (hd : IsTop n F c s d) : FSt.ok n F c ⟨levF s.x c s.a d, s.a⟩ := by
  have hge := lev_ge (s := s) (c := c) hs.rng hd.1
  refine ⟨fun i hi => ?_, hd.2.1, hs.act, fun i hi ha => ?_⟩
  · have := hs.rng i hi; have := hge i hi; simp only; omega
  · simp only at ha ⊢
    have e : levF s.x c s.a d i = s.x i := by unfold levF; rw [if_neg (by rw [ha]; decide)]
    rcases hs.out i hi ha with g | g
    · left; rw [e]; exact g
    · right
      exact blocked_mono hF (u := s.x) (fun j hj => ⟨(hs.rng j hj).1, (hge j hj).1⟩) e.symm g
theorem rnd_ok {n : Nat} {F : Vec → Bool} {c : Vec} {s : FSt} (hF : FillOk n F) (hs : s.ok n F c) {d : Int} (hd : IsTop n F c s d) : (rndF n F c s d).ok n F c := pass_ok hF (lev_ok hF hs hd) n
/-- no active one comes anew -/
theorem rnd_act {n : Nat} {F : Vec → Bool} {c : Vec} {s : FSt} {d : Int} {i : Nat} (h : (rndF n F c s d).a i = true) : s.a i = true := by
  have h1 := pass_at (F := F) (c := c) (s := ⟨levF s.x c s.a d, s.a⟩) n i
  by_cases hi : i < n
  · cases e : s.a i with
    | true => rfl
    | false =>
      have := ((h1.2 hi).1 e).2
      unfold rndF at h
      rw [this] at h; cases h
  · have := (h1.1 (by omega)).2
    unfold rndF at h
    rw [this] at h; exact h
/-- one active receiver at least becomes inactive -/
theorem rnd_drop {n : Nat} {F : Vec → Bool} {c : Vec} {s : FSt} (hF : FillOk n F) (hs : s.ok n F c) {d : Int} (hd : IsTop n F c s d) {i : Nat} (hi : s.a i = true) : ∃ j, s.a j = true ∧ (rndF n F c s d).a j = false := by
  apply Classical.byContradiction
  intro hcon
  have hall : ∀ j, s.a j = true → (rndF n F c s d).a j = true := fun j hj => by
    cases e : (rndF n F c s d).a j with
    | true => rfl
    | false => exact absurd ⟨j, hj, e⟩ hcon
  have hp : ∀ j, j < n → s.a j = true → (rndF n F c s d).x j = levF s.x c s.a d j + 1 ∧ levF s.x c s.a d j < c j := fun j hj ha => by
    rcases (((pass_at (F := F) (c := c) (s := ⟨levF s.x c s.a d, s.a⟩) n j).2 hj).2 ha) with h | h
    · exact h.2
    · have := hall j ha
      unfold rndF at this
      rw [h.1] at this; cases this
  have hq : ∀ j, j < n → s.a j = false → (rndF n F c s d).x j = levF s.x c s.a d j := fun j hj ha => (((pass_at (F := F) (c := c) (s := ⟨levF s.x c s.a d, s.a⟩) n j).2 hj).1 ha).1
  rcases hd.2.2 with h | h
  · have h1 := hs.act i hi
    have h2 := (hp i h1 hi).2
    have h3 := h i h1 hi
    unfold levF at h2
    rw [if_pos hi] at h2
    omega
  · have hfit := (rnd_ok hF hs hd).fit
    have : F (levF s.x c s.a (d + 1)) = F (rndF n F c s d).x := hF.congr (fun j hj => (lev_le hs.rng (d := d + 1) (e := d + 1) (by have := hd.1; omega) (by omega) j hj).1) (fun j hj => by
      cases e : s.a j with
      | true =>
        have h1 := hp j hj e
        rw [h1.1]
        have h2 := h1.2
        unfold levF at h2 ⊢
        rw [if_pos e] at h2 ⊢
        rw [if_pos e]
        omega
      | false =>
        rw [hq j hj e]
        unfold levF
        rw [if_neg (by rw [e]; decide), if_neg (by rw [e]; decide)])
    rw [this, hfit] at h; cases h
/-- the active ones, counted -/
def cntF (a : Act) : Nat → Nat
  | 0 => 0
  | k + 1 => cntF a k + (if a k = true then 1 else 0)
theorem cnt_le {a b : Act} (h : ∀ i, b i = true → a i = true) : ∀ n, cntF b n ≤ cntF a n
  | 0 => Nat.le_refl _
  | n + 1 => by
    have := cnt_le h n
    unfold cntF
    have h2 := h n
    cases e : b n with
    | true => rw [h2 e]; omega
    | false => simp only [Bool.false_eq_true, if_false]; split <;> omega
theorem cnt_lt {a b : Act} (h : ∀ i, b i = true → a i = true) {j : Nat} (h1 : a j = true) (h2 : b j = false) : ∀ n, j < n → cntF b n < cntF a n
  | n + 1, hj => by
    unfold cntF
    by_cases q : j = n
    · subst q
      have := cnt_le h j
      rw [h1, h2]
      simp only [Bool.false_eq_true, if_false, if_true]
      omega
    · have := cnt_lt h h1 h2 n (by omega)
      have h3 := h n
      cases e : b n with
      | true => rw [h3 e]; omega
      | false => simp only [Bool.false_eq_true, if_false]; split <;> omega
theorem cnt_zero {a : Act} : ∀ {n : Nat}, cntF a n = 0 ↔ ∀ i, i < n → a i = false
  | 0 => ⟨fun _ i hi => absurd hi (by omega), fun _ => rfl⟩
  | n + 1 => by
    unfold cntF
    constructor
    · intro h i hi
      by_cases q : i = n
      · subst q
        cases e : a i with
        | false => rfl
        | true => rw [e] at h; simp at h
      · exact (cnt_zero (n := n)).1 (by omega) i (by omega)
    · intro h
      rw [(cnt_zero (n := n)).2 fun i hi => h i (by omega), h n (by omega)]
      rfl
theorem cnt_top (a : Act) : ∀ n, cntF a n ≤ n
  | 0 => Nat.le_refl _
  | n + 1 => by
    have := cnt_top a n
    unfold cntF
    split <;> omega

/-- the filling that is reached from s: round after round -/
inductive Fills (n : Nat) (F : Vec → Bool) (c : Vec) : FSt → Vec → Prop
  | done (s : FSt) (x : Vec) (h : ∀ i, i < n → s.a i = false) (e : ∀ i, i < n → s.x i = x i) : Fills n F c s x
  | round (s : FSt) (d : Int) (x : Vec) (hd : IsTop n F c s d) (h : Fills n F c (rndF n F c s d) x) : Fills n F c s x

end Go.Proofs.YtlpjniejbblcnaaDoor

namespace Go.Proofs.YtlpjniejbblcnaaDoor
set_option linter.unusedVariables false

theorem lev_funext {n : Nat} {F : Vec → Bool} {c : Vec} {s : FSt} (hF : FillOk n F) (hs : s.ok n F c) {d e : Int} (hd : IsTop n F c s d) (he : IsTop n F c s e) : levF s.x c s.a d = levF s.x c s.a e := by
  funext i
  by_cases hi : i < n
  · exact top_unique hF hs hd he i hi
  · have : s.a i = false := by
      cases h : s.a i with
      | false => rfl
      | true => exact absurd (hs.act i h) hi
    unfold levF
    rw [if_neg (by rw [this]; decide), if_neg (by rw [this]; decide)]
noncomputable def topD (n : Nat) (F : Vec → Bool) (c : Vec) (s : FSt) : Int := @dite _ (∃ d, IsTop n F c s d) (Classical.propDecidable _) (fun h => h.choose) (fun _ => 0)
theorem topD_is {n : Nat} {F : Vec → Bool} {c : Vec} {s : FSt} {d : Int} (h : IsTop n F c s d) : IsTop n F c s (topD n F c s) := by
  have g : ∃ d, IsTop n F c s d := ⟨d, h⟩
  unfold topD
  rw [dif_pos g]
  exact g.choose_spec
theorem rnd_eq {n : Nat} {F : Vec → Bool} {c : Vec} {s : FSt} (hF : FillOk n F) (hs : s.ok n F c) {d : Int} (h : IsTop n F c s d) : rndF n F c s d = rndF n F c s (topD n F c s) := by
  unfold rndF
  rw [lev_funext hF hs h (topD_is h)]
/-- round after round, as long as one is active, k rounds at most -/
noncomputable def fillN (n : Nat) (F : Vec → Bool) (c : Vec) : Nat → FSt → FSt
  | 0, s => s
  | k + 1, s => if cntF s.a n = 0 then s else fillN n F c k (rndF n F c s (topD n F c s))
theorem fill_done {n : Nat} {F : Vec → Bool} {c : Vec} {s : FSt} (h : cntF s.a n = 0) : ∀ k, fillN n F c k s = s
  | 0 => rfl
  | k + 1 => if_pos h
theorem fill_step {n : Nat} {F : Vec → Bool} {c : Vec} {s : FSt} (hF : FillOk n F) (hs : s.ok n F c) (h : cntF s.a n ≠ 0) {d : Int} (hd : IsTop n F c s d) (k : Nat) : fillN n F c (k + 1) s = fillN n F c k (rndF n F c s d) := by
  rw [rnd_eq hF hs hd]; exact if_neg h
theorem cnt_act {a : Act} {n : Nat} (h : cntF a n ≠ 0) : ∃ i, i < n ∧ a i = true := by
  apply Classical.byContradiction
  intro g
  refine h (cnt_zero.2 fun i hi => ?_)
  cases e : a i with
  | false => rfl
  | true => exact absurd ⟨i, hi, e⟩ g
/-- the caps have a bound -/
def Capped (n : Nat) (c : Vec) : Prop := ∃ B : Nat, ∀ i, i < n → 0 ≤ c i ∧ c i ≤ B
theorem rnd_cnt {n : Nat} {F : Vec → Bool} {c : Vec} {s : FSt} (hF : FillOk n F) (hs : s.ok n F c) (h : cntF s.a n ≠ 0) {d : Int} (hd : IsTop n F c s d) : cntF (rndF n F c s d).a n < cntF s.a n := by
  obtain ⟨i, hi, ha⟩ := cnt_act h
  obtain ⟨j, h1, h2⟩ := rnd_drop hF hs hd ha
  exact cnt_lt (a := s.a) (b := (rndF n F c s d).a) (fun i => rnd_act) h1 h2 n (hs.act j h1)
theorem fill_more {n : Nat} {F : Vec → Bool} {c : Vec} (hF : FillOk n F) (hc : Capped n c) : ∀ (k m : Nat) (s : FSt), s.ok n F c → cntF s.a n ≤ k → k ≤ m → fillN n F c m s = fillN n F c k s := by
  intro k
  induction k with
  | zero => exact fun m s _ h _ => fill_done (by omega) m
  | succ k ih =>
    intro m s hs h hm
    by_cases h0 : cntF s.a n = 0
    · rw [fill_done h0, fill_done h0]
    · obtain ⟨m, rfl⟩ : ∃ q, m = q + 1 := ⟨m - 1, by omega⟩
      obtain ⟨B, hB⟩ := hc
      obtain ⟨d, hd⟩ := top_exists hF hs (B := B) (fun i hi => (hB i hi).2)
      rw [fill_step hF hs h0 hd, fill_step hF hs h0 hd]
      have := rnd_cnt hF hs h0 hd
      exact ih m _ (rnd_ok hF hs hd) (by omega) (by omega)
theorem fill_ok {n : Nat} {F : Vec → Bool} {c : Vec} (hF : FillOk n F) (hc : Capped n c) : ∀ (k : Nat) (s : FSt), s.ok n F c → (fillN n F c k s).ok n F c ∧ (cntF s.a n ≤ k → cntF (fillN n F c k s).a n = 0) := by
  intro k
  induction k with
  | zero => exact fun s hs => ⟨hs, fun h => by unfold fillN; omega⟩
  | succ k ih =>
    intro s hs
    by_cases h0 : cntF s.a n = 0
    · rw [fill_done h0]; exact ⟨hs, fun _ => h0⟩
    · obtain ⟨B, hB⟩ := hc
      obtain ⟨d, hd⟩ := top_exists hF hs (B := B) (fun i hi => (hB i hi).2)
      rw [fill_step hF hs h0 hd]
      have := rnd_cnt hF hs h0 hd
      have h2 := ih _ (rnd_ok hF hs hd)
      exact ⟨h2.1, fun h => h2.2 (by omega)⟩
def zeroV : Vec := fun _ => 0
def startF (n : Nat) : FSt := ⟨zeroV, fun i => decide (i < n)⟩
theorem start_ok {n : Nat} {F : Vec → Bool} {c : Vec} (hc : Capped n c) (h : F zeroV = true) : (startF n).ok n F c := by
  obtain ⟨B, hB⟩ := hc
  exact ⟨fun i hi => ⟨Int.le_refl _, (hB i hi).1⟩, h, fun i hi => by simpa [startF] using hi, fun i hi ha => by simp [startF] at ha; omega⟩
/-- the fair filling -/
noncomputable def fillX (n : Nat) (F : Vec → Bool) (c : Vec) : Vec := if F zeroV = true then (fillN n F c n (startF n)).x else zeroV
theorem fillX_zero {n : Nat} {F : Vec → Bool} {c : Vec} (h : F zeroV = false) : fillX n F c = zeroV := if_neg (by rw [h]; decide)
theorem fillX_eq {n : Nat} {F : Vec → Bool} {c : Vec} (h : F zeroV = true) : fillX n F c = (fillN n F c n (startF n)).x := if_pos h
/-- what the filling is -/
structure Filled (n : Nat) (F : Vec → Bool) (c : Vec) (x : Vec) : Prop where
  rng : ∀ i, i < n → 0 ≤ x i ∧ x i ≤ c i
  fit : F x = true
  out : ∀ i, i < n → x i = c i ∨ F (updF x i (x i + 1)) = false
theorem fillX_is {n : Nat} {F : Vec → Bool} {c : Vec} (hF : FillOk n F) (hc : Capped n c) (h : F zeroV = true) : Filled n F c (fillX n F c) := by
  rw [fillX_eq h]
  obtain ⟨h1, h2⟩ := fill_ok hF hc n (startF n) (start_ok hc h)
  have h3 := cnt_zero.1 (h2 (cnt_top _ n))
  exact ⟨h1.rng, h1.fit, fun i hi => h1.out i hi (h3 i hi)⟩

/-- i can have no more -/
def Blocked (F : Vec → Bool) (c x : Vec) (i : Nat) : Prop := x i = c i ∨ F (updF x i (x i + 1)) = false
theorem Blocked.mono {n : Nat} {F : Vec → Bool} {c u v : Vec} {i : Nat} (hF : FillOk n F) (hu : ∀ j, j < n → 0 ≤ u j ∧ u j ≤ v j) (hi : u i = v i) (h : Blocked F c u i) : Blocked F c v i := by
  rcases h with h | h
  · exact .inl (by rw [← hi]; exact h)
  · exact .inr (blocked_mono hF hu hi h)
/-- i and k can be exchanged: a watt more for one, or for the other, fits alike -/
def Alike (n : Nat) (F : Vec → Bool) (c : Vec) (i k : Nat) : Prop :=
  ∀ v : Vec, (∀ j, j < n → 0 ≤ v j) → v i + 1 ≤ c i → v k + 1 ≤ c k → F (updF v i (v i + 1)) = F (updF v k (v k + 1))
/-- two equal receivers: equal so far, or at rest -/
def Even (F : Vec → Bool) (c : Vec) (s : FSt) (i k : Nat) : Prop :=
  (s.a i = true ∧ s.a k = true ∧ s.x i = s.x k) ∨ (Blocked F c s.x i ∧ Blocked F c s.x k ∧ s.x i - s.x k ≤ 1 ∧ s.x k - s.x i ≤ 1)
theorem blocked_lev {n : Nat} {F : Vec → Bool} {c : Vec} {s : FSt} (hF : FillOk n F) (hs : s.ok n F c) {d : Int} (hd : IsTop n F c s d) {i : Nat} (hi : i < n) (h : Blocked F c s.x i) : levF s.x c s.a d i = s.x i := by
  have hr := hs.rng i hi
  have hge := lev_ge (s := s) (c := c) hs.rng hd.1
  rcases h with h | h
  · have := hge i hi; omega
  · apply Classical.byContradiction
    intro g
    have h1 := hge i hi
    have := hF.mono (updF s.x i (s.x i + 1)) (levF s.x c s.a d) (fun j hj => by
      have := hs.rng j hj
      have := hge j hj
      by_cases q : j = i
      · subst q; rw [upd_same]; omega
      · rw [upd_other q]; omega) hd.2.1
    rw [this] at h; cases h
theorem even_lev {n : Nat} {F : Vec → Bool} {c : Vec} {s : FSt} (hF : FillOk n F) (hs : s.ok n F c) {d : Int} (hd : IsTop n F c s d) {i k : Nat} (hi : i < n) (hk : k < n) (hc : c i = c k) (h : Even F c s i k) : Even F c ⟨levF s.x c s.a d, s.a⟩ i k := by
  have hge := lev_ge (s := s) (c := c) hs.rng hd.1
  rcases h with ⟨h1, h2, h3⟩ | ⟨h1, h2, h3, h4⟩
  · refine .inl ⟨h1, h2, ?_⟩
    simp only
    unfold levF
    rw [if_pos h1, if_pos h2, h3, hc]
  · have e1 := blocked_lev hF hs hd hi h1
    have e2 := blocked_lev hF hs hd hk h2
    refine .inr ⟨h1.mono hF (fun j hj => ⟨(hs.rng j hj).1, (hge j hj).1⟩) e1.symm, h2.mono hF (fun j hj => ⟨(hs.rng j hj).1, (hge j hj).1⟩) e2.symm, ?_, ?_⟩
    · simp only; rw [e1, e2]; exact h3
    · simp only; rw [e1, e2]; exact h4
/-- a step of a pass raises, or leaves -/
theorem step_ge {n : Nat} {F : Vec → Bool} {c : Vec} {s : FSt} (hs : s.ok n F c) (t : Nat) : (∀ j, s.x j ≤ (stepF F c s t).x j) ∧ (∀ j, j ≠ t → (stepF F c s t).x j = s.x j ∧ (stepF F c s t).a j = s.a j) := by
  cases ha : s.a t with
  | false => rw [step_off ha]; exact ⟨fun j => Int.le_refl _, fun j _ => ⟨rfl, rfl⟩⟩
  | true =>
    by_cases h : s.x t < c t ∧ F (updF s.x t (s.x t + 1)) = true
    · rw [step_up ha h.1 h.2]
      refine ⟨fun j => ?_, fun j hj => ⟨upd_other hj, rfl⟩⟩
      simp only
      by_cases q : j = t
      · subst q; rw [upd_same]; omega
      · rw [upd_other q]; exact Int.le_refl _
    · rw [step_out ha h]
      exact ⟨fun j => Int.le_refl _, fun j hj => ⟨rfl, upd_other hj⟩⟩
theorem blocked_step {n : Nat} {F : Vec → Bool} {c : Vec} {s : FSt} (hF : FillOk n F) (hs : s.ok n F c) {i : Nat} (h : Blocked F c s.x i) (t : Nat) : Blocked F c (stepF F c s t).x i ∧ (stepF F c s t).x i = s.x i := by
  have hg := step_ge hs t
  have hx : (stepF F c s t).x i = s.x i := by
    by_cases q : i = t
    · subst q
      cases ha : s.a i with
      | false => rw [step_off ha]
      | true =>
        have : ¬ (s.x i < c i ∧ F (updF s.x i (s.x i + 1)) = true) := fun g => by
          rcases h with h | h
          · omega
          · rw [h] at g; cases g.2
        rw [step_out ha this]
    · exact (hg.2 i q).1
  exact ⟨h.mono hF (fun j hj => ⟨(hs.rng j hj).1, hg.1 j⟩) hx.symm, hx⟩
/-- where the pass stands between the two -/
def Mid (F : Vec → Bool) (c : Vec) (s : FSt) (i k : Nat) : Prop :=
  (s.a i = true ∧ s.a k = true ∧ s.x i = s.x k + 1 ∧ s.x k < c k) ∨ (Blocked F c s.x i ∧ Blocked F c s.x k ∧ s.x i - s.x k ≤ 1 ∧ s.x k - s.x i ≤ 1)
theorem rest_step {n : Nat} {F : Vec → Bool} {c : Vec} {s : FSt} (hF : FillOk n F) (hs : s.ok n F c) {i k : Nat} (h : Blocked F c s.x i ∧ Blocked F c s.x k ∧ s.x i - s.x k ≤ 1 ∧ s.x k - s.x i ≤ 1) (t : Nat) :
    Blocked F c (stepF F c s t).x i ∧ Blocked F c (stepF F c s t).x k ∧ (stepF F c s t).x i - (stepF F c s t).x k ≤ 1 ∧ (stepF F c s t).x k - (stepF F c s t).x i ≤ 1 := by
  obtain ⟨a, b⟩ := blocked_step hF hs h.1 t
  obtain ⟨a', b'⟩ := blocked_step hF hs h.2.1 t
  exact ⟨a, a', by rw [b, b']; exact h.2.2.1, by rw [b, b']; exact h.2.2.2⟩
theorem even_far {n : Nat} {F : Vec → Bool} {c : Vec} {s : FSt} (hF : FillOk n F) (hs : s.ok n F c) {i k t : Nat} (hi : i ≠ t) (hk : k ≠ t) (h : Even F c s i k) : Even F c (stepF F c s t) i k := by
  have hg := step_ge hs t
  rcases h with ⟨h1, h2, h3⟩ | h
  · exact .inl ⟨by rw [(hg.2 i hi).2]; exact h1, by rw [(hg.2 k hk).2]; exact h2, by rw [(hg.2 i hi).1, (hg.2 k hk).1]; exact h3⟩
  · exact .inr (rest_step hF hs h t)
theorem mid_far {n : Nat} {F : Vec → Bool} {c : Vec} {s : FSt} (hF : FillOk n F) (hs : s.ok n F c) {i k t : Nat} (hi : i ≠ t) (hk : k ≠ t) (h : Mid F c s i k) : Mid F c (stepF F c s t) i k := by
  have hg := step_ge hs t
  rcases h with ⟨h1, h2, h3, h4⟩ | h
  · exact .inl ⟨by rw [(hg.2 i hi).2]; exact h1, by rw [(hg.2 k hk).2]; exact h2, by rw [(hg.2 i hi).1, (hg.2 k hk).1]; exact h3, by rw [(hg.2 k hk).1]; exact h4⟩
  · exact .inr (rest_step hF hs h t)
/-- the step of the first of the two -/
theorem even_first {n : Nat} {F : Vec → Bool} {c : Vec} {s : FSt} (hF : FillOk n F) (hs : s.ok n F c) {i k : Nat} (hi : i < n) (hk : k < n) (hik : i ≠ k) (hc : c i = c k) (hal : Alike n F c i k) (h : Even F c s i k) : Mid F c (stepF F c s i) i k := by
  rcases h with ⟨h1, h2, h3⟩ | h
  · have hr := hs.rng i hi
    by_cases hu : s.x i < c i ∧ F (updF s.x i (s.x i + 1)) = true
    · rw [step_up h1 hu.1 hu.2]
      refine .inl ⟨h1, h2, ?_, ?_⟩
      · simp only; rw [upd_same, upd_other (Ne.symm hik), h3]
      · simp only; rw [upd_other (Ne.symm hik), ← h3, ← hc]; exact hu.1
    · rw [step_out h1 hu]
      have hb : Blocked F c s.x i := by
        by_cases g : s.x i < c i
        · right
          cases e : F (updF s.x i (s.x i + 1)) with
          | false => rfl
          | true => exact absurd ⟨g, e⟩ hu
        · left; omega
      refine .inr ⟨hb, ?_, ?_, ?_⟩
      · rcases hb with g | g
        · left; simp only; rw [← h3, ← hc]; exact g
        · by_cases g2 : s.x i = c i
          · left; simp only; rw [← h3, ← hc]; exact g2
          · right
            have := hal s.x (fun j hj => (hs.rng j hj).1) (by omega) (by omega)
            rw [g] at this
            exact this.symm
      · simp only; omega
      · simp only; omega
  · exact .inr (rest_step hF hs h i)
/-- the step of the second -/
theorem mid_second {n : Nat} {F : Vec → Bool} {c : Vec} {s : FSt} (hF : FillOk n F) (hs : s.ok n F c) {i k : Nat} (hi : i < n) (hk : k < n) (hik : i ≠ k) (hc : c i = c k) (hal : Alike n F c i k) (h : Mid F c s i k) : Even F c (stepF F c s k) i k := by
  rcases h with ⟨h1, h2, h3, h4⟩ | h
  · by_cases hu : s.x k < c k ∧ F (updF s.x k (s.x k + 1)) = true
    · rw [step_up h2 hu.1 hu.2]
      refine .inl ⟨h1, h2, ?_⟩
      simp only
      rw [upd_same, upd_other hik, h3]
    · rw [step_out h2 hu]
      have hf : F (updF s.x k (s.x k + 1)) = false := by
        cases e : F (updF s.x k (s.x k + 1)) with
        | false => rfl
        | true => exact absurd ⟨h4, e⟩ hu
      refine .inr ⟨?_, .inr hf, ?_, ?_⟩
      · by_cases g : s.x i = c i
        · exact .inl g
        · right
          have hr := hs.rng i hi
          have := hal s.x (fun j hj => (hs.rng j hj).1) (by omega) (by omega)
          rw [hf] at this
          exact this
      · simp only; omega
      · simp only; omega
  · exact .inr (rest_step hF hs h k)
theorem even_pass {n : Nat} {F : Vec → Bool} {c : Vec} {s : FSt} (hF : FillOk n F) (hs : s.ok n F c) {i k : Nat} (hik : i < k) (hk : k < n) (hc : c i = c k) (hal : Alike n F c i k) (h : Even F c s i k) :
    ∀ t, (t ≤ i → Even F c (passF F c s t) i k) ∧ (i < t → t ≤ k → Mid F c (passF F c s t) i k) ∧ (k < t → Even F c (passF F c s t) i k) := by
  intro t
  induction t with
  | zero => exact ⟨fun _ => h, fun g => by omega, fun g => by omega⟩
  | succ t ih =>
    have hp := pass_ok hF hs t
    have hsp : passF F c s (t + 1) = stepF F c (passF F c s t) t := rfl
    rw [hsp]
    refine ⟨fun g => even_far hF hp (by omega) (by omega) (ih.1 (by omega)), fun g1 g2 => ?_, fun g => ?_⟩
    · by_cases q : t = i
      · subst q; exact even_first hF hp (by omega) hk (by omega) hc hal (ih.1 (Nat.le_refl _))
      · exact mid_far hF hp (by omega) (by omega) (ih.2.1 (by omega) (by omega))
    · by_cases q : t = k
      · subst q; exact mid_second hF hp (by omega) hk (by omega) hc hal (ih.2.1 hik (Nat.le_refl _))
      · exact even_far hF hp (by omega) (by omega) (ih.2.2 (by omega))
theorem even_fill {n : Nat} {F : Vec → Bool} {c : Vec} (hF : FillOk n F) (hcap : Capped n c) {i k : Nat} (hik : i < k) (hk : k < n) (hc : c i = c k) (hal : Alike n F c i k) : ∀ (m : Nat) (s : FSt), s.ok n F c → Even F c s i k → Even F c (fillN n F c m s) i k := by
  intro m
  induction m with
  | zero => exact fun s _ h => h
  | succ m ih =>
    intro s hs h
    by_cases h0 : cntF s.a n = 0
    · rw [fill_done h0]; exact h
    · obtain ⟨B, hB⟩ := hcap
      obtain ⟨d, hd⟩ := top_exists hF hs (B := B) (fun i hi => (hB i hi).2)
      rw [fill_step hF hs h0 hd]
      exact ih _ (rnd_ok hF hs hd) ((even_pass hF (lev_ok hF hs hd) hik hk hc hal (even_lev hF hs hd (by omega) hk hc h) n).2.2 hk)
/-- equal receivers get equal shares, up to one -/
theorem fill_even {n : Nat} {F : Vec → Bool} {c : Vec} (hF : FillOk n F) (hcap : Capped n c) {i k : Nat} (hik : i < k) (hk : k < n) (hc : c i = c k) (hal : Alike n F c i k) : fillX n F c i - fillX n F c k ≤ 1 ∧ fillX n F c k - fillX n F c i ≤ 1 := by
  cases h : F zeroV with
  | false => rw [fillX_zero h]; exact ⟨by show (0 : Int) - 0 ≤ 1; omega, by show (0 : Int) - 0 ≤ 1; omega⟩
  | true =>
    rw [fillX_eq h]
    rcases even_fill hF hcap hik hk hc hal n (startF n) (start_ok hcap h) (.inl ⟨by simp [startF]; omega, by simp [startF]; omega, rfl⟩) with ⟨_, _, e⟩ | ⟨_, _, e1, e2⟩
    · omega
    · exact ⟨e1, e2⟩

end Go.Proofs.YtlpjniejbblcnaaDoor
