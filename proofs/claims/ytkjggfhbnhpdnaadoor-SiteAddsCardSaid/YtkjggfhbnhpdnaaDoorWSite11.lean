/-
  Walks: Load of package site.
-/
import Derived.Test.YtkjggfhbnhpdnaaDoorWSite10
import Derived.Test.YtkjggfhbnhpdnaaDoorPSite3
import Derived.StillTailTactics
namespace Go.Proofs.YtkjggfhbnhpdnaaDoor
open Go.RowKit Go.Lib Go.Maps
set_option linter.unusedVariables false

theorem ret_vint {k : IntKind} {a b : Value} {c d : Int} (h : a = b) (h' : c = d) : Ending.returned (.tuple #[a, .int k c]) = .returned (.tuple #[b, .int k d]) := by rw [h, h']

theorem WantR.cells_len (c : WantR) : c.cells.length = 3 := rfl
theorem want_at {w : World} {A : Option Addr} {l : List WantR} (h : SlAt w 3 A (l.map WantR.cells)) {k : Nat} (hk : k < l.length) :
    ∃ b off, A = some ⟨b, off, none⟩ ∧ b < w.heap.size ∧ w.cell? ⟨b, off + k * 3, none⟩ = some (.int .i64 l[k].point) ∧ w.cell? ⟨b, off + k * 3 + 1, none⟩ = some (.int .i64 l[k].phases) ∧ w.cell? ⟨b, off + k * 3 + 2, none⟩ = some (.int .i64 l[k].top) := by
  obtain ⟨b, off, e, hb, hc⟩ := h k l[k].cells (by rw [List.getElem?_map, List.getElem?_eq_getElem hk]; rfl)
  exact ⟨b, off, e, hb, hc 0 _ rfl, hc 1 _ rfl, hc 2 _ rfl⟩

theorem capInfo : (Tryd.prog.info? 47).map (fun i => (i.zero, i.size, i.bytes)) = some (some (.agg #[.int .i64 0, .int .i64 0, .int .i64 0, .int .i64 0]), 4, 32) := by kernel_rfl

theorem zero_cells (n : Nat) : (madeCells (Value.agg #[.int .i64 0, .int .i64 0, .int .i64 0, .int .i64 0]).cells (n * 4)).toList = (List.replicate n zeroC).flatMap CapR.cells := by
  have h1 : (madeCells (Value.agg #[.int .i64 0, .int .i64 0, .int .i64 0, .int .i64 0]).cells (n * 4)).toList = List.replicate (n * 4) (.int .i64 0) := by
    rw [List.eq_replicate_iff]
    refine ⟨by simp [size_madeCells], fun v hv => ?_⟩
    unfold madeCells at hv
    simp only [Array.toList_map, List.mem_map] at hv
    obtain ⟨x, _, rfl⟩ := hv
    have hs : (Value.agg #[.int .i64 0, .int .i64 0, .int .i64 0, .int .i64 0]).cells = #[.int .i64 0, .int .i64 0, .int .i64 0, .int .i64 0] := rfl
    rw [hs]
    have hx : x % 4 = 0 ∨ x % 4 = 1 ∨ x % 4 = 2 ∨ x % 4 = 3 := by omega
    show (#[Value.int .i64 0, .int .i64 0, .int .i64 0, .int .i64 0] : Array Value)[x % 4]! = _
    rcases hx with h | h | h | h <;> rw [h] <;> rfl
  rw [h1]
  symm
  rw [List.eq_replicate_iff]
  refine ⟨by rw [flat_len CapR.cells 4 CapR.cells_len]; simp, fun v hv => ?_⟩
  rw [List.mem_flatMap] at hv
  obtain ⟨y, hy, hv⟩ := hv
  rw [List.mem_replicate] at hy
  rw [hy.2] at hv
  simpa [CapR.cells, zeroC] using hv

theorem PathInv.fresh {F : List Feed} {i0 : Int} {pre : List Nat} {last k : Nat} (h : PathInv F i0 pre last (k : Int)) (hk : k < last) (hl : k < F.length) : k ∉ pre ∧ pre.Pairwise (fun a b => b < a) := by
  have hd := pathL_desc (F := F) (last := F.length) (i := i0)
  rw [h.eq, pathL_in hk hl, List.pairwise_append] at hd
  exact ⟨fun hm => by have := hd.2.2 k hm k (by simp); omega, hd.1⟩
theorem addPath_snoc (L : List CapR) (pre : List Nat) (k : Nat) (ph p : Int) : addPath L (pre ++ [k]) ph p = (addPath L pre ph p).modify k (fun c => addC c ph p) := by
  unfold addPath; rw [List.foldl_append]; rfl
/-- a feeder of the path gets its load -/
theorem load_step {F : List Feed} {P : List Pnt} {l : List (WantR × Int)} {i0 : Int} {pre : List Nat} {last k : Nat} {ph q : Int} (h : PathInv F i0 pre last (k : Int)) (hk : k < last) (hl : k < F.length) :
    (addPath (loadL F P l) pre ph q)[k]? = some (capAt F P k l) ∧ setAll ((addPath (loadL F P l) pre ph q).flatMap CapR.cells) (k * 4) (addC (capAt F P k l) ph q).cells = (addPath (loadL F P l) (pre ++ [k]) ph q).flatMap CapR.cells := by
  obtain ⟨hf, hd⟩ := h.fresh hk hl
  have hg : (addPath (loadL F P l) pre ph q)[k]? = some (capAt F P k l) := by rw [addPath_get hd, if_neg hf, loadL_get hl]
  refine ⟨hg, ?_⟩
  have hlt : k < (addPath (loadL F P l) pre ph q).length := (List.getElem?_eq_some_iff.1 hg).1
  rw [set_row CapR.cells_len (by omega) _ k hlt, addPath_snoc, addPath_step (F := F) hg]

theorem zip_take_snoc {α β : Type} {a : List α} {b : List β} {k : Nat} (h1 : k < a.length) (h2 : k < b.length) : (a.zip b).take (k + 1) = (a.zip b).take k ++ [(a[k], b[k])] := by
  rw [List.take_succ_eq_append_getElem (by simp; omega)]
  simp
theorem zip_all_false {α β : Type} {a : List α} {b : List β} {k : Nat} (h1 : k < a.length) (h2 : k < b.length) (p : α × β → Bool) (h : p (a[k], b[k]) = false) : (a.zip b).all p = false := by
  have hk : k < (a.zip b).length := by simp; omega
  refine all_false' (a.zip b) p hk ?_
  rw [List.getElem_zip]; exact h

/-- the facts of a round -/
structure LoadRound (S : SiteR) (Z : List (WantR × Int)) (x : WantR) (q : Int) (k : Nat) : Prop where
  take : Z.take (k + 1) = Z.take k ++ [(x, q)]
  bad : wantB S.P (x, q) = false → Z.all (wantB S.P) = false
  good : wantB S.P (x, q) = true → (Z.take k).all (wantB S.P) = true → (Z.take (k + 1)).all (wantB S.P) = true
theorem LoadRound.mk' {S : SiteR} {W : List WantR} {pw : List Int} {k : Nat} (h1 : k < W.length) (h2 : k < pw.length) : LoadRound S (W.zip pw) W[k] pw[k] k :=
  ⟨zip_take_snoc h1 h2, fun h => zip_all_false h1 h2 _ h, fun h h3 => by rw [zip_take_snoc h1 h2, List.all_append, h3]; simp [h]⟩

theorem take_bd {P : List Pnt} {l : List (WantR × Int)} (h : l.all (wantB P) = true) : ∀ x ∈ l, 0 ≤ x.2 ∧ x.2 ≤ 1048576 := fun x hx => by
  have := wantB_iff.1 (List.all_eq_true.1 h x hx)
  exact ⟨this.w0, this.w1⟩

set_option maxRecDepth 100000 in
set_option maxHeartbeats 12800000 in
theorem load_any (S : SiteR) (W : List WantR) (pw : List Int) (fv pv wv zv : Value) (w : World) (hF : IsSl w 5 fv (S.F.map Feed.cells)) (hP : IsSl w 5 pv (S.P.map Pnt.cells)) (hW : IsSl w 3 wv (W.map WantR.cells)) (hZ : IsSl w 1 zv (pw.map encZ))
    (hn : S.name.size ≤ maxLen) (hfF : ∀ f ∈ S.F, f.fits) (hfP : ∀ p ∈ S.P, p.fits) (hfW : ∀ x ∈ W, I64 x.phases) (hlW : W.length ≤ 1000) (hlZ : pw.length ≤ 1000) :
    Calls Tryd.prog 21 #[.agg #[.string S.name, fv, pv], wv, zv] w
      fun e w' => ∃ v, e = .returned (.tuple #[v, .int .i64 (loadE S W pw)]) ∧ IsSl w' 4 v ((loadsOf S W pw).map CapR.cells) ∧ Below w.heap.size w w' := by
  have HIF := Lib.hid hF
  have HIP := Lib.hid hP
  have HIW := Lib.hid hW
  have HIZ := Lib.hid hZ
  obtain ⟨A, c, rfl, hlc, hcm, hsl⟩ := islen' hF
  obtain ⟨B, d, rfl, hld, hdm, hsp⟩ := islen' hP
  obtain ⟨C, c', rfl, hlc', hcm', hsw⟩ := islen' hW
  obtain ⟨D, d', rfl, hld', hdm', hsz⟩ := islen' hZ
  obtain ⟨W0, hW0, hb0, hg0, hx0⟩ := box1 w #[.string S.name, .slice A S.F.length c, .slice B S.P.length d] 25
  have HV := Lib.hid (siteValid_any S _ _ W0 (HIF.out.below hb0) (HIP.out.below hb0) hn hfF hfP)
  have HSF := Lib.hid (hsl.below hb0)
  have HSP := Lib.hid (hsp.below hb0)
  have HSW := Lib.hid (hsw.below hb0)
  have HSZ := Lib.hid (hsz.below hb0)
  have HFW := Lib.hid hfW
  clear hF hP hW hZ hsl hsp hsw hsz hfF hfP hfW hlc hld hlc' hld' hcm hdm hcm' hdm' hn HIF HIP HIW HIZ
  cases hv : (siteE S != 0) with
  | true =>
    have h0 : siteE S ≠ 0 := by simpa using hv
    have HE := Lib.hid (loadE_site (W := W) (pw := pw) h0)
    have HN := Lib.hid (loadsOf_no (S := S) (W := W) (pw := pw) (by rw [HE.out]; exact h0))
    clear h0
    go_enter Tryd.func21, Tryd.ntmps21
    go_wp2_with fail
    rw [← hW0]
    clear hW0
    refine HV.out.mono ?_
    rintro e w1 ⟨rfl, hb1⟩
    go_wp2_with fail
    go_ret2
    exact ⟨.slice none 0 0, ret_vint rfl (by rw [HE.out]), by rw [HN.out]; exact IsSl.nil _ _, below_step hb0 hb1⟩
  | false =>
  have h0 : siteE S = 0 := by simpa using hv
  by_cases hl : W.length = pw.length
  rotate_left 1
  · have hne : ((W.length : Int) != (pw.length : Int)) = true := by simp; omega
    have HE := Lib.hid (loadE_len (W := W) (pw := pw) h0 hl)
    have HN := Lib.hid (loadsOf_no (S := S) (W := W) (pw := pw) (by rw [HE.out]; simp))
    clear h0 hl
    go_enter Tryd.func21, Tryd.ntmps21
    go_wp2_with fail
    rw [← hW0]
    clear hW0
    refine HV.out.mono ?_
    rintro e w1 ⟨rfl, hb1⟩
    go_wp2_with fail
    go_ret2
    exact ⟨.slice none 0 0, ret_vint rfl (by rw [HE.out]), by rw [HN.out]; exact IsSl.nil _ _, below_step hb0 hb1⟩
  have hne : ((W.length : Int) != (pw.length : Int)) = false := by simp; omega
  have HOK := Lib.hid (siteE_ok h0)
  have HBAD : Hid ((W.zip pw).all (wantB S.P) = false → loadE S W pw = 1 ∧ loadsOf S W pw = []) := fun h => ⟨loadE_bad h0 hl h, loadsOf_no (by rw [loadE_bad h0 hl h]; simp)⟩
  have HGOOD : Hid ((W.zip pw).all (wantB S.P) = true → loadE S W pw = 0 ∧ loadsOf S W pw = loadL S.F S.P (W.zip pw)) := fun h => ⟨loadE_ok h0 hl h, loadsOf_ok (loadE_ok h0 hl h)⟩
  have HZL : Hid ((W.zip pw).length = W.length) := by unfold Hid; simp; omega
  have HL := Lib.hid hl
  have HR := Lib.hid (fun (k : Nat) (h1 : k < W.length) (h2 : k < pw.length) => LoadRound.mk' (S := S) h1 h2)
  generalize W.zip pw = Z at *
  have hlF := HOK.out.lF
  have hlP := HOK.out.lP
  obtain ⟨i0, hi0, hz0, hz1, hz2⟩ := info_parts capInfo
  have hmk := fun W => run_make_rowZ (P := Tryd.prog) 27 47 i0 _ Tryd.underlying27 hi0 hz0 .i64 .i64 S.F.length S.F.length (S.F.length : Int) (S.F.length : Int) rfl rfl (by omega) (by rw [hz2]; omega) (by omega) W
  rw [hz1] at hmk
  have HZC := Lib.hid (zero_cells S.F.length)
  generalize madeCells _ (S.F.length * 4) = ZC at hmk HZC
  clear h0 hl
  go_enter Tryd.func21, Tryd.ntmps21
  go_wp2_with fail
  rw [← hW0]
  clear hW0
  refine HV.out.mono ?_
  rintro e w1 ⟨rfl, hb1⟩
  obtain ⟨hc, hf⟩ := bcell hb1
  have hb01 := below_step hb0 hb1
  have hgx : w.heap.size < w1.heap.size := Nat.lt_of_lt_of_le hg0 hb1.size
  have hx1 : ∀ j, w1.cell? ⟨w.heap.size, j, none⟩ = (#[.string S.name, .slice A S.F.length c, .slice B S.P.length d] : Array Value)[j]? := fun j => (hc _ _ hg0).trans (hx0 j)
  clear hc hf hx0
  go_wp2_with fail
  have HSF1 := Lib.hid (HSF.out.below hb1)
  have HSP1 := Lib.hid (HSP.out.below hb1)
  have HSW1 := Lib.hid (HSW.out.below hb1)
  have HSZ1 := Lib.hid (HSZ.out.below hb1)
  clear HSF HSP HSW HSZ HV hmk hb0 hb1 hg0
  have HB1 : Hid (Blk (w1.alloc (.cells ZC 47)) w1.heap.size 47 ((loadL S.F S.P (Z.take 0)).flatMap CapR.cells)) := by
    refine Blk.new' rfl _ _ ?_
    rw [HZC.out]; rfl
  go_loopw [30] (fun i wr => ∃ k : Nat, k ≤ W.length ∧ i = .int .i64 k ∧ Below w1.heap.size w1 wr ∧ w1.heap.size < wr.heap.size ∧ Hid (Blk wr w1.heap.size 47 ((loadL S.F S.P (Z.take k)).flatMap CapR.cells)) ∧ Hid ((Z.take k).all (wantB S.P) = true)) (fun i _ => W.length - (intOf i).toNat)
  case atStart => exact ⟨0, by omega, rfl, below_alloc (Below.refl _ _) _, by simp, HB1, by simp [Hid]⟩
  case round =>
    obtain ⟨k, hk, rfl, hbw, hgm, HB, HG⟩ := hrel
    clear HB1 HZC
    obtain ⟨hc, hf⟩ := bcell hbw
    by_cases hlt : k < W.length
    · have hki : (k : Int) < (W.length : Int) := by omega
      have hlt2 : k < pw.length := by have := HL.out; omega
      have hki2 : (k : Int) < (pw.length : Int) := by omega
      have HLR := Lib.hid (HR.out k hlt hlt2)
      have hix := HFW.out _ (List.getElem_mem hlt)
      obtain ⟨bw, offw, rfl, hbb, c0, c1, c2⟩ := want_at HSW1.out hlt
      obtain ⟨bz, offz, rfl, hbz, d0⟩ := int_at HSZ1.out hlt2
      generalize W[k] = x at *
      generalize pw[k] = q at *
      have HIX := Lib.hid hix
      clear hix
      have g1 : w.heap.size < wr.heap.size := by omega
      have g2 : bw < wr.heap.size := by omega
      have g3 : bz < wr.heap.size := by omega
      by_cases hp : x.point < 0 ∨ (S.P.length : Int) ≤ x.point
      · obtain ⟨HE, HN⟩ := HBAD.out (HLR.out.bad (want_out hp))
        replace HE := Lib.hid HE
        replace HN := Lib.hid HN
        by_cases hp0 : x.point < 0
        · clear hp
          go_wp2_with fail
          go_ret2
          exact ⟨.slice none 0 0, ret_vint rfl (by rw [HE.out]), by rw [HN.out]; exact IsSl.nil _ _, below_step hb01 (below_alloc hbw _)⟩
        · have hp1 : (S.P.length : Int) ≤ x.point := by omega
          clear hp
          go_wp2_with fail
          go_ret2
          exact ⟨.slice none 0 0, ret_vint rfl (by rw [HE.out]), by rw [HN.out]; exact IsSl.nil _ _, below_step hb01 (below_alloc hbw _)⟩
      · obtain ⟨j, hj⟩ : ∃ j : Nat, x.point = j := ⟨x.point.toNat, by omega⟩
        have hjl : j < S.P.length := by omega
        have hjli : (j : Int) < (S.P.length : Int) := by omega
        have HC := Lib.hid (want_code (x := (x, q)) HOK.out HIX.out hjl hj)
        have HWP := Lib.hid (wantPath_eq (F := S.F) (x := x) hjl hj)
        have hpn := HOK.out.pnt j hjl
        obtain ⟨bp, offp, rfl, hbp, e0, e1, e2, e3, e4⟩ := pnt_at HSP1.out hjl
        generalize S.P[j] = y at *
        have g4 : bp < wr.heap.size := by omega
        rw [hj] at c0
        clear hp
        have HJ := Lib.hid hj
        clear hj
        obtain ⟨W2, hW2, hb2, hg23, hg2, hx2, hy2⟩ := box2 wr #[.int .i64 j, .int .i64 x.phases, .int .i64 x.top] 61 #[.string y.name, .int .i64 y.feeder, .int .i64 y.phases, .int .i64 y.rated, .int .i64 y.least] 58
        have hbw2 := hbw.trans (hb2.mono hbw.size)
        cases hz : (x.phases == 0) with
        | true =>
          obtain ⟨HE, HN⟩ := HBAD.out (HLR.out.bad (by rw [HC.out]; simp only [hz]; rfl))
          replace HE := Lib.hid HE
          replace HN := Lib.hid HN
          go_wp2_with fail
          go_ret2
          exact ⟨.slice none 0 0, ret_vint rfl (by rw [HE.out]), by rw [HN.out]; exact IsSl.nil _ _, below_step hb01 (below_alloc (below_alloc hbw _) _)⟩
        | false =>
          cases hm : maskB x.phases y.phases with
          | false =>
            obtain ⟨HE, HN⟩ := HBAD.out (HLR.out.bad (by rw [HC.out]; simp only [hz, hm]; rfl))
            replace HE := Lib.hid HE
            replace HN := Lib.hid HN
            have hm2 : (bits .andNot .i64 x.phases y.phases != 0) = true := by unfold maskB at hm; simpa using hm
            go_wp2_with fail
            go_ret2
            exact ⟨.slice none 0 0, ret_vint rfl (by rw [HE.out]), by rw [HN.out]; exact IsSl.nil _ _, below_step hb01 (below_alloc (below_alloc hbw _) _)⟩
          | true =>
            have hm1 : bits .andNot .i64 x.phases y.phases = 0 := by unfold maskB at hm; simpa using hm
            have hm2 : (bits .andNot .i64 x.phases y.phases != 0) = false := by simpa using hm1
            cases hpw : powB q with
            | false =>
              obtain ⟨HE, HN⟩ := HBAD.out (HLR.out.bad (by rw [HC.out]; simp only [hz, hm, hpw]; rfl))
              replace HE := Lib.hid HE
              replace HN := Lib.hid HN
              clear hm1 hm
              go_wp2_with (go_at_call 26; refine (isPower_any _ _).mono ?_; rintro e w' ⟨rfl, rfl⟩; rw [hpw])
              go_ret2
              exact ⟨.slice none 0 0, ret_vint rfl (by rw [HE.out]), by rw [HN.out]; exact IsSl.nil _ _, below_step hb01 (below_alloc (below_alloc hbw _) _)⟩
            | true =>
              have HWG : Hid (wantB S.P (x, q) = true) := by unfold Hid; rw [HC.out]; simp only [hz, hm, hpw]; rfl
              have HBD := Lib.hid (take_bd HG.out)
              have hmb := mask_bd hm1 (by omega) (by omega) HIX.out
              have hph1 : 1 ≤ x.phases := by simp at hz; omega
              have hph7 := hmb.2
              obtain ⟨hq0, hq1⟩ := powB_iff.1 hpw
              have hlk : (Z.take k).length ≤ 1000 := by have := List.length_take_le k Z; omega
              clear hm1 hm hmb
              go_wp2_with (go_at_call 26; refine (isPower_any _ _).mono ?_; rintro e w' ⟨rfl, rfl⟩; rw [hpw])
              rw [← hW2]
              clear hc hf
              have HB2 : Hid (Blk W2 w1.heap.size 47 ((loadL S.F S.P (Z.take k)).flatMap CapR.cells)) := by unfold Hid; rw [hW2]; exact (HB.out.alloc _).alloc _
              clear hW2 hm2 hz hpw c0 c1 c2 e0 e1 e2 e3 e4
              go_loopw [13] (fun i wi => ∃ (pre : List Nat) (last : Nat) (p : Int), i = .int .i64 p ∧ p < (last : Int) ∧ Below w1.heap.size w1 wi ∧ W2.heap.size ≤ wi.heap.size ∧ (∀ u, wi.cell? ⟨wr.heap.size, u, none⟩ = (#[.int .i64 j, .int .i64 x.phases, .int .i64 x.top] : Array Value)[u]?) ∧
                Hid (Blk wi w1.heap.size 47 ((addPath (loadL S.F S.P (Z.take k)) pre x.phases q).flatMap CapR.cells)) ∧ Hid (PathInv S.F y.feeder pre last p)) (fun i _ => (intOf i + 1).toNat)
              case atStart => exact ⟨[], S.F.length, y.feeder, rfl, hpn.2.1, hbw2, Nat.le_refl _, hx2, HB2, PathInv.start _ _⟩
              case round =>
                obtain ⟨pre, last, p, rfl, hpl, hbi, hzi, hxi, HBi, HI⟩ := hrel
                obtain ⟨hc, hf⟩ := bcell hbi
                have hle := HI.out.le
                by_cases hp0 : 0 ≤ p
                · obtain ⟨n, rfl⟩ : ∃ n : Nat, p = n := ⟨p.toNat, by omega⟩
                  have hn1 : n < last := by omega
                  have hn2 : n < S.F.length := by omega
                  have hn3 : (n : Int) < (S.F.length : Int) := by omega
                  have HLS := Lib.hid (load_step (P := S.P) (l := Z.take k) (ph := x.phases) (q := q) HI.out hn1 hn2)
                  have HNX := Lib.hid (HI.out.next hn1 hn2)
                  have hpar := HOK.out.par n hn2
                  have HCO := Lib.hid (capAt_ok (F := S.F) (P := S.P) (f := n) HBD.out)
                  obtain ⟨bf, offf, rfl, hbf, _, f1, _, _, _⟩ := feed_at HSF1.out hn2
                  generalize S.F[n].parent = par at *
                  generalize capAt S.F S.P n (Z.take k) = cc at *
                  generalize hLL : addPath (loadL S.F S.P (Z.take k)) pre x.phases q = LL at *
                  have HLL := Lib.hid hLL
                  clear hLL
                  have hnl : n < LL.length := (List.getElem?_eq_some_iff.1 HLS.out.1).1
                  have HFL := Lib.hid (fun j u h => flat_at CapR.cells 4 CapR.cells_len LL n cc HLS.out.1 j u h)
                  have hfl := flat_len CapR.cells 4 CapR.cells_len LL
                  go_wp2_with fail
                  go_still_tail 9, (by kernel_rfl)
                  go_wp2_with fail
                  refine (add_any w1.heap.size (n * 4) _ _ cc x.phases q (((Z.take k).length : Int) * 1048576) _ HBi.out.drew (by omega) (HFL.out 0 _ rfl) (HFL.out 1 _ rfl) (HFL.out 2 _ rfl) (HFL.out 3 _ rfl) HCO.out (by omega) hph1 hph7 hq0 hq1).mono ?_
                  rintro e w3 ⟨rfl, hB3, hg3⟩
                  rw [HLS.out.2] at hB3
                  have hbi3 : Below w1.heap.size w1 w3 := hbi.drew.grown hg3 hbi.drew.size (fun j hj => by cases hj; exact Nat.le_refl _)
                  have hxi3 := fun (u : Nat) => (hg3.cell_far ⟨_, u, none⟩ (Nat.lt_of_lt_of_le hg2 hzi) (by simp; omega)).trans (hxi u)
                  have hzi3 : W2.heap.size ≤ w3.heap.size := Nat.le_trans hzi hg3.size
                  clear hc hf
                  obtain ⟨hc, hf⟩ := bcell hbi3
                  go_wp2_with fail
                  go_roundw
                  case measure => simp [intOf]; omega
                  case rel => exact ⟨pre ++ [n], n, par, rfl, hpar.2, hbi3, hzi3, hxi3, hB3, HNX.out⟩
                · have HE := Lib.hid (HI.out.stop (fun h => hp0 h.1))
                  go_wp2_with fail
                  go_roundw
                  case measure => simp [intOf]; omega
                  case rel =>
                    refine ⟨k + 1, by omega, by go_num, hbi, by omega, ?_, ?_⟩
                    · unfold Hid
                      rw [HLR.out.take, loadL_snoc]
                      show Blk _ _ _ ((addPath _ (wantPath S.F S.P x) x.phases q).flatMap CapR.cells)
                      rw [HWP.out, HE.out]
                      exact HBi.out
                    · exact HLR.out.good HWG.out HG.out
    · have hall : Z.take k = Z := List.take_of_length_le (by have := HZL.out; omega)
      have HB' := HB.out
      have HG' := HG.out
      rw [hall] at HB' HG'
      obtain ⟨HE, HN⟩ := HGOOD.out HG'
      replace HE := Lib.hid HE
      replace HN := Lib.hid HN
      replace HB' := Lib.hid HB'
      clear hall HG' HB HG
      go_wp2_with fail
      go_ret2
      exact ⟨.slice (some ⟨w1.heap.size, 0, none⟩) S.F.length S.F.length, ret_vint rfl (by rw [HE.out]), by rw [HN.out]; exact Blk.isSl CapR.cells_len HB'.out (loadL_len _ _ _) (by unfold maxLen; omega), below_step hb01 hbw⟩

end Go.Proofs.YtkjggfhbnhpdnaaDoor
