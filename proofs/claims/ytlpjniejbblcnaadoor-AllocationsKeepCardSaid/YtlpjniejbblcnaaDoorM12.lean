/-
  Walks: Run of package allocate.
  Walks: Greatest and Run of the reference of package allocate.
-/
import Derived.Test.YtlpjniejbblcnaaDoorM10
import Derived.Test.YtlpjniejbblcnaaDoorM8
import Derived.Test.YtlpjniejbblcnaaDoorM7
import Derived.Test.YtlpjniejbblcnaaDoorM11
import Derived.Test.YtlpjniejbblcnaaDoorM9

namespace Go.Proofs.YtlpjniejbblcnaaDoor
open Go.RowKit Go.Lib Go.Maps
attribute [local go_sem] after_cell
set_option linter.unusedVariables false

/-- what Run returns -/
def RunPost (S : SiteR) (C : List CapR) (W : List WantR) (w : World) (e : Ending) (w' : World) : Prop :=
  Below w.heap.size w w' ∧ ((allocE S C W ≠ 0 ∧ e = .returned (.tuple #[.slice none 0 0, .int .i64 (allocE S C W)])) ∨ (allocE S C W = 0 ∧ ∃ (v : Value) (x : Vec), e = .returned (.tuple #[v, .int .i64 0]) ∧ AllocTo S C W x ∧ IsSl w' 1 v ((listV W.length x).map encZ) ∧ Fresh w v))
theorem RunPost.bad {S : SiteR} {C : List CapR} {W : List WantR} {w w' : World} (h : allocE S C W ≠ 0) (hb : Below w.heap.size w w') : RunPost S C W w (.returned (.tuple #[.slice none 0 0, .int .i64 (allocE S C W)])) w' := ⟨hb, .inl ⟨h, rfl⟩⟩
theorem RunPost.good {S : SiteR} {C : List CapR} {W : List WantR} {w w' : World} {v : Value} {x : Vec} (h : allocE S C W = 0) (hx : AllocTo S C W x) (hv : IsSl w' 1 v ((listV W.length x).map encZ)) (hb : Below w.heap.size w w') (hf : Fresh w v) : RunPost S C W w (.returned (.tuple #[v, .int .i64 0])) w' := ⟨hb, .inr ⟨h, v, x, rfl, hx, hv, hf⟩⟩
theorem slInfo : (Tryd.prog.info? 22).map (fun i => (i.zero, i.size, i.bytes)) = some (some (.slice none 0 0), 1, 24) := by kernel_rfl
def liveC : Option Value → Bool
  | some (.int _ v) => decide (v ≠ 0)
  | _ => false
/-- the number of shares that are not yet put out -/
def liveW (w : World) (v : Value) (n : Nat) : Nat := match v with
  | .slice (some a) _ _ => cntF (fun i => liveC (w.cell? ⟨a.block, i, none⟩)) n
  | _ => 0
theorem live_eq {w : World} {N m c b : Nat} {s : List Int} (h : w.ownsRow N 3 1 (.slice (some ⟨b, 0, none⟩) m c) m (s.flatMap encZ)) (hs : s.length = m) : ∀ n, n ≤ m → liveW w (.slice (some ⟨b, 0, none⟩) m c) n = liveF (vecL s) n
  | 0, _ => rfl
  | k + 1, hk => by
    have ih := live_eq h hs k (by omega)
    unfold liveW liveF at ih ⊢
    have hc := h.cellAt k (by omega)
    have he : (s.flatMap encZ)[k]? = some (.int .i64 (vecL s k)) := by
      have := flat_at encZ 1 encZ_len s k (vecL s k) (by rw [vecL_get (by omega)]; exact List.getElem?_eq_getElem (by omega)) 0 _ rfl
      simpa using this
    rw [he] at hc
    have e : liveC (w.cell? ⟨b, k, none⟩) = decide (vecL s k ≠ 0) := by rw [hc]; rfl
    unfold cntF
    simp only at ih ⊢
    rw [ih, e]
/-- the memory behind k rounds -/
def RunL (N : Nat) (cv wv : Value) (S : SiteR) (W : List WantR) (s : Value) (k : Nat) (w : World) : Prop :=
  ∃ (pw gw : Value) (us : List SlH), RunM w N N cv wv pw gw s us ((W.take k).map (wantPath S.F S.P)) ((W.take k).map (greatW S.P)) ((W.take k).map (askW S.P))
theorem mapN {α β : Type} (f : α → β) {l : List α} {k : Nat} (h : k < l.length) : (l.take (k + 1)).map f = (l.take k).map f ++ [f l[k]] := by
  rw [List.take_succ_eq_append_getElem h, List.map_append]; rfl

set_option maxRecDepth 100000 in
set_option maxHeartbeats 12800000 in
theorem arun_any (S : SiteR) (C : List CapR) (W : List WantR) (fv pv cv wv : Value) (w : World) (hF : IsSl w 5 fv (S.F.map Feed.cells)) (hP : IsSl w 5 pv (S.P.map Pnt.cells)) (hC : IsSl w 4 cv (C.map CapR.cells)) (hW : IsSl w 3 wv (W.map WantR.cells))
    (hn : S.name.size ≤ maxLen) (hfF : ∀ f ∈ S.F, f.fits) (hfP : ∀ p ∈ S.P, p.fits) (hlC : C.length ≤ 1000) (hlW : W.length ≤ 64) :
    Calls Tryd.prog 9 #[.agg #[.string S.name, fv, pv], cv, wv] w (RunPost S C W w) := by
  obtain ⟨A, c, rfl, hlc, hcm, hsl⟩ := islen' hF
  obtain ⟨B, d, rfl, hld, hdm, hsp⟩ := islen' hP
  obtain ⟨C', c', rfl, hlc', hcm', hsc⟩ := islen' hC
  obtain ⟨D, d', rfl, hld', hdm', hsw⟩ := islen' hW
  obtain ⟨W0, hW0, hb0, hg0, hx0⟩ := box1 w #[.string S.name, .slice A S.F.length c, .slice B S.P.length d] 30
  have HV := Lib.hid (acheck_any S C W _ _ _ _ W0 (hF.below hb0) (hP.below hb0) (hC.below hb0) (hW.below hb0) hn hfF hfP hlC (by omega))
  have HSC := Lib.hid (hC.below hb0)
  have HSP := Lib.hid (hsp.below hb0)
  have HSW := Lib.hid (hW.below hb0)
  have HSWs := Lib.hid (hsw.below hb0)
  have HSF := Lib.hid (hF.below hb0)
  clear hF hP hC hW hsl hsp hsc hsw hfF hfP hlc hld hlc' hld' hcm hdm hcm' hdm' hn
  cases hv : (allocE S C W != 0) with
  | true =>
    have HE := Lib.hid (show allocE S C W ≠ 0 by simpa using hv)
    go_enter Tryd.func9, Tryd.ntmps9
    go_wp2_with fail
    rw [← hW0]
    clear hW0
    refine HV.out.mono ?_
    rintro e w1 ⟨rfl, hb1⟩
    go_wp2_with fail
    go_ret2
    exact .bad HE.out (below_step hb0 hb1)
  | false =>
  have h0 : allocE S C W = 0 := by simpa using hv
  have HA := Lib.hid (allocE_ok h0)
  have H0 := Lib.hid h0
  have HOK := Lib.hid (siteE_ok HA.out.site)
  have hlP := HOK.out.lP
  have hlF := HOK.out.lF
  obtain ⟨i0, hi, hz0, hz1, hz2⟩ := info_parts intInfo
  obtain ⟨i1, hs, hs0, hs1, hs2⟩ := info_parts slInfo
  rw [h0] at hv HV
  clear h0
  go_enter Tryd.func9, Tryd.ntmps9
  go_wp2_with fail
  rw [← hW0]
  clear hW0
  refine HV.out.mono ?_
  rintro e w1 ⟨rfl, hb1⟩
  obtain ⟨hc, hf⟩ := bcell hb1
  have hb01 := below_step hb0 hb1
  have hgx : w.heap.size < w1.heap.size := Nat.lt_of_lt_of_le hg0 hb1.size
  have hx1 : ∀ j, w1.cell? ⟨w.heap.size, j, none⟩ = (#[.string S.name, .slice A S.F.length c, .slice B S.P.length d] : Array Value)[j]? := fun j => (hc _ _ hg0).trans (hx0 j)
  have HSC1 := Lib.hid (HSC.out.below hb1)
  have HSP1 := Lib.hid (HSP.out.below hb1)
  have HSW1 := Lib.hid (HSW.out.below hb1)
  have HSWs1 := Lib.hid (HSWs.out.below hb1)
  have HSF1 := Lib.hid (HSF.out.below hb1)
  clear hc hf hx0 HSC HSP HSW HSWs HSF HV hb0 hb1 hg0
  obtain ⟨W1, hW1, hb1, hg1, hM1⟩ : ∃ W1, W1 = w1.alloc (.cells #[.slice C' C.length c', .slice D W.length d', .slice none 0 0, .slice none 0 0] 66) ∧ Below w1.heap.size w1 W1 ∧ w1.heap.size < W1.heap.size ∧ RunM W1 w1.heap.size w1.heap.size (.slice C' C.length c') (.slice D W.length d') (.slice none 0 0) (.slice none 0 0) (.slice none 0 0) [] [] [] [] :=
    ⟨_, rfl, below_alloc (Below.refl _ _) _, by simp, RunM.start _ _ (Nat.le_refl _)⟩
  have HM1 := Lib.hid hM1
  clear hM1
  go_wp2_with fail
  rw [← hW1]
  clear hW1
  go_loopw [10, 30] (fun s i wr => ∃ k : Nat, k ≤ W.length ∧ i = .int .i64 k ∧ Below w1.heap.size w1 wr ∧ RunL w1.heap.size (.slice C' C.length c') (.slice D W.length d') S W s k wr) (fun _ i _ => W.length - (intOf i).toNat)
  case atStart => exact ⟨0, by omega, rfl, hb1, _, _, _, HM1.out⟩
  case round =>
    obtain ⟨k, hk, rfl, hbw, pw, gw, us, hM⟩ := hrel
    have HM := Lib.hid hM
    clear hM
    clear HM1 hb1 hg1
    obtain ⟨hc, hf⟩ := bcell hbw
    have hdb := HM.out.d.lt
    by_cases hlt : k < W.length
    · have hki : (k : Int) < (W.length : Int) := by omega
      have HWT := Lib.hid (HA.out.want hlt).1
      have hp0 := HWT.out.p0
      obtain ⟨j, hj⟩ : ∃ j : Nat, W[k].point = j := ⟨W[k].point.toNat, by omega⟩
      have hjl : j < S.P.length := by have := HWT.out.p1; rw [hj] at this; simpa using this
      have hjli : (j : Int) < (S.P.length : Int) := by omega
      obtain ⟨bw, offw, rfl, hbb, c0, c1, c2⟩ := want_at HSWs1.out hlt
      obtain ⟨bp, offp, rfl, hbp, e0, e1, e2, e3, e4⟩ := pnt_at HSP1.out hjl
      have HPN : Hid (pntOf S.P W[k] = S.P[j]) := by
        unfold Hid; rw [pntOf_eq HWT.out.p1]; simp only [hj, Int.toNat_natCast]
      have HT1 := Lib.hid (mapN (wantPath S.F S.P) hlt)
      have HT2 := Lib.hid (mapN (greatW S.P) hlt)
      have HT3 := Lib.hid (mapN (askW S.P) hlt)
      have HGR : Hid (min W[k].top S.P[j].rated = greatW S.P W[k]) := by unfold Hid greatW; rw [HPN.out]
      have HAK : Hid (askW S.P W[k] = if greatW S.P W[k] < S.P[j].least then 0 else greatW S.P W[k]) := by unfold Hid askW; rw [HPN.out]
      have HPW : Hid (wantPath S.F S.P W[k] = pathL S.F S.F.length S.P[j].feeder) := wantPath_eq hjl hj
      rw [hj] at c0
      have HUL : Hid (us.length = k) := by have h := HM.out.len; rw [List.length_map, List.length_take] at h; unfold Hid; omega
      have HML : Hid (((W.take k).map (greatW S.P)).length = k) := by unfold Hid; rw [List.length_map, List.length_take]; omega
      have HMA : Hid (((W.take k).map (askW S.P)).length = k) := by unfold Hid; rw [List.length_map, List.length_take]; omega
      generalize (W.take k).map (wantPath S.F S.P) = PS at *
      generalize (W.take k).map (greatW S.P) = GS at *
      generalize (W.take k).map (askW S.P) = SS at *
      generalize greatW S.P W[k] = gr at *
      generalize askW S.P W[k] = ak at *
      generalize wantPath S.F S.P W[k] = pl at *
      generalize W[k] = y at *
      generalize S.P[j] = pt at *
      obtain ⟨W3, hW3, hb3, hg4, hg3, hx3, hx4⟩ := box2 wr #[.int .i64 j, .int .i64 y.phases, .int .i64 y.top] 36 #[.string pt.name, .int .i64 pt.feeder, .int .i64 pt.phases, .int .i64 pt.rated, .int .i64 pt.least] 34
      have hb13 := hbw.trans (hb3.mono hbw.size)
      have HM3 := Lib.hid (HM.out.below hb3)
      have X3 : ∀ j, W3.cell? ⟨w.heap.size, j, none⟩ = (#[.string S.name, .slice A S.F.length c, .slice (some ⟨bp, offp, none⟩) S.P.length d] : Array Value)[j]? := fun j => (hb13.cell (p := ⟨w.heap.size, j, none⟩) hgx).trans (hx1 j)
      have d2 := (HM3.out.d.cell 2).trans rfl
      have hz3 := hb13.size
      have hzw := hbw.size
      have g1 : w.heap.size < W3.heap.size := by omega
      have g2 : w1.heap.size < W3.heap.size := by omega
      have g3 : w.heap.size < wr.heap.size := by omega
      have g5 : bp < wr.heap.size := by omega
      go_wp2_with fail
      rw [← hW3]
      clear hW3 hc hf
      have HPA := Lib.hid (fun w' (h : Below W3.heap.size W3 w') => path_own S.name S.F (.slice A S.F.length c) (some ⟨bp, offp, none⟩) S.P.length d pt.feeder w' ((HSF1.out.below hb13).below h) (by omega))
      have HPB : Hid (∀ g, pw.ownBlock = some g → g < wr.heap.size) := fun g e => (HM.out.p.lt g e).2
      have hbr := Below.refl W3.heap.size W3
      rw [← HPW.out] at HPA
      go_cut [] (fun wx => ∃ (pw' : Value) (us' : List SlH), Below w1.heap.size w1 wx ∧ W3.heap.size ≤ wx.heap.size ∧ Hid (RunM wx w1.heap.size w1.heap.size (.slice C' C.length c') (.slice (some ⟨bw, offw, none⟩) W.length d') pw' gw u10 us' (PS ++ [pl]) GS SS) ∧ (∀ j, wx.cell? ⟨wr.heap.size + 1, j, none⟩ = (#[.string pt.name, .int .i64 pt.feeder, .int .i64 pt.phases, .int .i64 pt.rated, .int .i64 pt.least] : Array Value)[j]?))
      case first =>
        go_region_law ((first
          | (refine step_append_list (enc := encSl) _ (by rfl) (.tmp 46) (.tmp 51) _ (by rfl) w1.heap.size 22 i1 _ 1 24 Tryd.underlying64 hs hs0 hs1 hs2 rfl (by decide) encSl_len encSl_one pw us.length (us.flatMap encSl) (by rfl) hm8.p _ 1 1 [((xa, xn, xc) : SlH)] rfl (by rfl) (lit_one w7 (.slice xa xn xc) 22) (by have := HUL.out; unfold maxLen; omega) (by have := HUL.out; omega) (Nat.le_of_lt hm8.d.lt) ?_; intro v8 w8 hown8 hgrow8 hnil8 hblk8; obtain ⟨A8, c8, rfl⟩ := own_shape hown8; have hd8 := kept_nb hm8.d hgrow8 hm8.pd; have s8 := (hd8.cell 2).trans rfl; have f8 := hd8.free 2)
          | (go_simp; go_at_call 22; refine (HPA.out _ (Below.refl _ _).drew).mono ?_; rintro e w7 ⟨v7, rfl, hown7, hb7⟩; obtain ⟨xa, xn, xc, rfl, hm7, hx7, hn7⟩ := HM3.out.path (Below.refl _ _).drew hown7 hb7 (by omega); have hm8 := hm7.alloc (.cells #[.slice xa xn xc] 22); have y7 := (hm7.d.cell 2).trans rfl; have y8 := (hm8.d.cell 2).trans rfl)))
        all_goals
          have hb37 : Below W3.heap.size W3 w7 := below_step (Below.refl _ _).drew hb7
          have hx8 := own_below hx7 (below_alloc (Below.refl _ _) (.cells #[.slice xa xn xc] 22))
          have hm9 := hm8.snocP (x := ((xa, xn, xc) : SlH)) (l := pl) hx8 hn7 hgrow8 hown8 hblk8
          have hb38 := below_alloc hb37 (.cells #[.slice xa xn xc] 22)
          have hz38 := hb38.size
          have hz8 := hgrow8.size
          have hb9 := (below_grown (hb13.trans (hb38.mono hz3)) hm8.p (Nat.le_refl _) hgrow8).setCell (p := ⟨w1.heap.size, 2, none⟩) (Nat.le_refl _) (.slice A8 (us.length + 1) c8)
          have hp9 : ∀ j, (w8.setCell ⟨w1.heap.size, 2, none⟩ (.slice A8 (us.length + 1) c8)).cell? ⟨wr.heap.size + 1, j, none⟩ = (#[.string pt.name, .int .i64 pt.feeder, .int .i64 pt.phases, .int .i64 pt.rated, .int .i64 pt.least] : Array Value)[j]? := fun j =>
            (far_cell (by omega) _ _ _ _).trans ((hgrow8.cell_far ⟨wr.heap.size + 1, j, none⟩ (Nat.lt_of_lt_of_le hg4 hz38) (fun e => absurd (HPB.out _ e.symm) (by show ¬ (wr.heap.size + 1 < wr.heap.size); omega))).trans ((hb38.cell (p := ⟨wr.heap.size + 1, j, none⟩) hg4).trans (hx4 j)))
          have hz9 : W3.heap.size ≤ (w8.setCell ⟨w1.heap.size, 2, none⟩ (.slice A8 (us.length + 1) c8)).heap.size := by
            have h : (w8.setCell ⟨w1.heap.size, 2, none⟩ (.slice A8 (us.length + 1) c8)).heap.size = w8.heap.size := by simp
            omega
          have HF9 : Hid (∃ (pw' : Value) (us' : List SlH), Below w1.heap.size w1 (w8.setCell ⟨w1.heap.size, 2, none⟩ (.slice A8 (us.length + 1) c8)) ∧ W3.heap.size ≤ (w8.setCell ⟨w1.heap.size, 2, none⟩ (.slice A8 (us.length + 1) c8)).heap.size ∧ Hid (RunM (w8.setCell ⟨w1.heap.size, 2, none⟩ (.slice A8 (us.length + 1) c8)) w1.heap.size w1.heap.size (.slice C' C.length c') (.slice (some ⟨bw, offw, none⟩) W.length d') pw' gw u10 us' (PS ++ [pl]) GS SS) ∧ (∀ j, (w8.setCell ⟨w1.heap.size, 2, none⟩ (.slice A8 (us.length + 1) c8)).cell? ⟨wr.heap.size + 1, j, none⟩ = (#[.string pt.name, .int .i64 pt.feeder, .int .i64 pt.phases, .int .i64 pt.rated, .int .i64 pt.least] : Array Value)[j]?)) := ⟨_, us ++ [(xa, xn, xc)], hb9, hz9, hm9, hp9⟩
          clear hb9 hz9 hm9 hp9 hb38 hb37 hx8 hz38 hz8 hnil8 hblk8 hgrow8 hown8 hown7 hb7 hx7 hn7 hm8 hm7 y7 y8 hd8 s8 f8 X3 d2 hx3 hx4 hbr hbp hbb c0 c1 c2 e0 e1 e2 e3 e4 hx1
          go_simp
          go_step
          go_meet
          exact HF9.out
      case rest =>
        obtain ⟨pw', us', hbx, hzx, HMX, hpx⟩ := hcut
        rw [HGR.out]
        have d3 := (HMX.out.d.cell 3).trans rfl
        have p4 := (hpx 4).trans rfl
        have hgb : ∀ g, gw.ownBlock = some g → g < wr.heap.size := fun g e => (HM.out.g.lt g e).2
        have HGB := Lib.hid hgb
        have HZX : Hid (wr.heap.size + 1 < wc.heap.size) := Nat.lt_of_lt_of_le hg4 hzx
        have HKS : (gr < pt.least ∧ Hid (ak = 0)) ∨ (¬ gr < pt.least ∧ Hid (ak = gr)) := by
          by_cases hg : gr < pt.least
          · exact .inl ⟨hg, by unfold Hid; rw [HAK.out, if_pos hg]⟩
          · exact .inr ⟨hg, by unfold Hid; rw [HAK.out, if_neg hg]⟩
        clear X3 d2 hx3 hgb HM HM3 HPA HPB hbr c0 c1 c2 e0 e1 e2 e3 e4
        go_upto_region 12 with fail
        go_cut [] (fun wx => ∃ (gw' : Value), Below w1.heap.size w1 wx ∧ Hid (RunM wx w1.heap.size w1.heap.size (.slice C' C.length c') (.slice (some ⟨bw, offw, none⟩) W.length d') pw' gw' u10 us' (PS ++ [pl]) (GS ++ [gr]) SS) ∧ wx.cell? ⟨wr.heap.size + 1, 4, none⟩ = some (.int .i64 pt.least))
        case first =>
          go_wp2_with (at_builtin; refine wpList_append_row _ _ rfl (.tmp 55) (.tmp 57) _ rfl w1.heap.size 3 i0 _ 1 8 Tryd.underlying22 hi hz0 hz1 hz2 rfl (by decide) gw GS.length (GS.flatMap encZ) rfl HMX.out.g _ rfl rfl (by intro u hu; simp at hu; subst hu; rfl) (by have := HML.out; omega) (by have := HML.out; omega) hbx.size ?_; intro v4 w4 hown4 hgrow4 hblk4; obtain ⟨A4, c4, rfl⟩ := own_shape hown4; have hd4 := kept_nb HMX.out.d hgrow4 HMX.out.gd; have s4 := (hd4.cell 3).trans rfl; have f4 := hd4.free 3)
          have hm5 := HMX.out.snocG hgrow4 hown4 hblk4
          have hq5 := (hgrow4.cell_far ⟨wr.heap.size + 1, 4, none⟩ HZX.out (fun e => absurd (HGB.out _ e.symm) (by show ¬ (wr.heap.size + 1 < wr.heap.size); omega))).trans p4
          have hp5 := (far_cell (b := wr.heap.size + 1) (g := w1.heap.size) (by omega) w4 3 (.slice A4 (GS.length + 1) c4) 4).trans hq5
          have hb5 := (below_grown hbx HMX.out.g (Nat.le_refl _) hgrow4).setCell (p := ⟨w1.heap.size, 3, none⟩) (Nat.le_refl _) (.slice A4 (GS.length + 1) c4)
          go_meet
          exact ⟨_, hb5, hm5, hp5⟩
        case rest =>
          clear hbx hzx HMX hpx d3 p4 HGB HZX
          obtain ⟨gw', hbx, HMX, p4⟩ := hcut
          rcases HKS with ⟨hg, HKV⟩ | ⟨hg, HKV⟩
          all_goals
            go_wp2_with (at_builtin; refine wpList_append_row _ _ rfl (.tmp 64) (.tmp 66) _ rfl w1.heap.size 3 i0 _ 1 8 Tryd.underlying22 hi hz0 hz1 hz2 rfl (by decide) u10 SS.length (SS.flatMap encZ) rfl HMX.out.s _ rfl rfl (by intro u hu; simp at hu; subst hu; rfl) (by have := HMA.out; omega) (by have := HMA.out; omega) hbx.size ?_; intro v6 w6 hown6 hgrow6 hblk6)
            (try go_simp)
            go_roundw
            case measure => simp [intOf]; omega
            case rel =>
              have hb6 := below_grown hbx HMX.out.s (Nat.le_refl _) hgrow6
              have hm7 := HMX.out.snocS hgrow6 hown6 hblk6
              exact ⟨k + 1, by omega, by go_num, hb6, _, _, us', by rw [HT1.out, HT2.out, HT3.out, HKV.out]; exact hm7⟩
    · have hki : ¬ (k : Int) < (W.length : Int) := by omega
      have hkn : k = W.length := by omega
      have HM0 : Hid (RunM wr w1.heap.size w1.heap.size (.slice C' C.length c') (.slice D W.length d') pw gw u10 us (W.map (wantPath S.F S.P)) (W.map (greatW S.P)) (askL S.P W)) := by
        have h := HM.out
        rw [hkn, List.take_length] at h
        exact h
      clear HM hk hlt hdb
      have hla : (askL S.P W).length = W.length := by simp [askL]
      have hown := HM0.out.s
      rw [hla] at hown
      obtain ⟨A2, cap, rfl⟩ := own_shape hown
      have HA2 : Hid (0 < W.length → ∃ b, A2 = some ⟨b, 0, none⟩ ∧ w1.heap.size ≤ b) := fun h => by
        obtain ⟨g, cap', e, h1, _⟩ := own_split hown h
        injection e with e1 e2 e3
        exact ⟨g, e1, h1⟩
      have HR0 : Hid (∀ x, RunsTo W.length (siteV S C W) (minV S.P W) (vecL (askL S.P W)) x → AllocTo S C W x) := fun x h => h
      have HC0 : Hid (∀ i, i < W.length → 0 ≤ vecL (askL S.P W) i ∧ vecL (askL S.P W) i ≤ 1048576) := fun i hi => by
        have := ask_bd HA.out hi; have := great_bd HA.out hi; omega
      have hwn : IntKind.i64.wrap ((W.length : Int) - 1) = (W.length : Int) - 1 := IntWalk.i64_in _ (by omega)
      clear hown
      go_wp2_with fail
      go_loopw [17] (fun i wi => ∃ s : List Int, s.length = W.length ∧ Below w1.heap.size w1 wi ∧ Hid (RunM wi w1.heap.size w1.heap.size (.slice C' C.length c') (.slice D W.length d') pw gw (.slice A2 W.length cap) us (W.map (wantPath S.F S.P)) (W.map (greatW S.P)) s) ∧ Hid (∀ i, i < W.length → 0 ≤ vecL s i ∧ vecL s i ≤ 1048576) ∧ Hid (∀ x, RunsTo W.length (siteV S C W) (minV S.P W) (vecL s) x → AllocTo S C W x)) (fun _ wi => liveW wi (.slice A2 W.length cap) W.length)
      case atStart => exact ⟨_, hla, hbw, HM0, HC0, HR0⟩
      case round =>
        clear HM0 HR0 HC0 hla hbw hc hf hki
        obtain ⟨s, hls, hbw, HM, HC, HR⟩ := hrel
        obtain ⟨hc, hf⟩ := bcell hbw
        have hdl := HM.out.d.lt
        have hd := HM.out.d.arr
        have HOS : Hid (wr.ownsRow w1.heap.size 3 1 (.slice A2 W.length cap) W.length (s.flatMap encZ)) := by have h := HM.out.s; rw [hls] at h; exact h
        have HSV : Hid (IsSl wr 1 (.slice A2 W.length cap) ((listV W.length (vecL s)).map encZ)) := by
          have h := IsSl.of_own encZ_len HOS.out hls
          have e : listV W.length (vecL s) = s := by rw [← hls, listV_vecL]
          unfold Hid
          rw [e]; exact h
        have HFC : Hid (FitsC wr.heap.size wr (.agg #[.slice C' C.length c', .slice D W.length d', pw, gw]) W.length (siteV S C W)) := fun w' hb pv t hp =>
          fits17_any S C W t _ _ _ _ pv w' ((HM.out.divIn (HSC1.out.below hbw) (HSW1.out.below hbw)).below hb) HA.out hlW hp
        have HFO := Lib.hid (siteV_mono S C W)
        have HFZ := Lib.hid (siteV_zero HA.out)
        have HFL := Lib.hid (fill_any HSV.out HFC.out HFO.out HFZ.out hlW (fun i hi => by have := HC.out i hi; omega))
        go_wp2_with (go_at_call 23; refine HFL.out.mono ?_; rintro e w3 ⟨v3, rfl, hs3, hb3, hfr3⟩)
        generalize hX : fillX W.length (siteV S C W) (vecL s) = X at *
        have HX := Lib.hid hX
        have HFR := Lib.hid (hfr3.mono (w := w) (by have := hb01.size; have := hbw.size; omega))
        clear hX HFL HFC HSV hfr3
        have hb13 := hbw.trans (hb3.mono hbw.size)
        obtain ⟨G, g, rfl, hg1, hg2, hsx⟩ := islen' hs3
        rw [listV_len]
        have HS3 := Lib.hid hs3
        have HSX := Lib.hid hsx
        rw [listV_len] at HS3 HFR
        have HM3 := Lib.hid (HM.out.below hb3)
        have HO3 := Lib.hid (own_below HOS.out hb3)
        have hz3 := hb3.size
        clear hs3 hsx hg1 hg2 hc hf hd
        go_loopw [17] (fun i wi => ∃ m : Nat, m ≤ W.length ∧ i = .int .i64 ((m : Int) - 1) ∧ Below w3.heap.size w3 wi ∧ Hid (∀ j, m ≤ j → j < W.length → ¬ (vecL s j ≠ 0 ∧ X j < minV S.P W j))) (fun i _ => (intOf i + 1).toNat)
        case atStart => exact ⟨W.length, by omega, rfl, Below.refl _ _, fun j h1 h2 => by omega⟩
        case round =>
          obtain ⟨m, hm, rfl, hbi, HL⟩ := hrel
          obtain ⟨hc, hf⟩ := bcell hbi
          have hb1i := hb13.trans (hbi.mono hb13.size)
          rcases Nat.eq_zero_or_pos m with hm0 | hmp
          · subst hm0
            have hv1 : ((0 : Nat) : Int) - 1 = -1 := rfl
            rw [hv1]
            have HE : Hid (AllocTo S C W X) := by
              have h := RunsTo.stop (n := W.length) (F := siteV S C W) (mn := minV S.P W) (c := vecL s) (by rw [HX.out]; exact fun j hj => HL.out j (by omega) hj)
              rw [HX.out] at h
              exact HR.out X h
            have hbr := Below.refl wr.heap.size wr
            go_wp2_with fail
            (refine wp_region_kept wr (by kernel_rfl) (by kernel_rfl) (by assumption) ?_; (repeat (go_big_quiet_step ((first | fail)))); refine wpQuiet_nil ?_; intro _ hw'; obtain ⟨x9, hw''⟩ := hw'; subst hw''; have hk9 := after_kept x9; generalize after x9 = w9 at *)
            obtain ⟨hc9, hb9⟩ := hk9
            clear hc9
            go_wp2_with fail
            go_ret2
            exact .good H0.out HE.out ((HS3.out.below hbi).below hb9) (below_step hb01 (below_step hb1i hb9)) HFR.out
          · obtain ⟨q, rfl⟩ : ∃ q, m = q + 1 := ⟨m - 1, by omega⟩
            have hv1 : ((q + 1 : Nat) : Int) - 1 = (q : Int) := by omega
            rw [hv1]
            have hq : q < W.length := by omega
            have hqi : (q : Int) < (W.length : Int) := by omega
            have hwq : IntKind.i64.wrap ((q : Int) - 1) = (q : Int) - 1 := IntWalk.i64_in _ (by omega)
            obtain ⟨b, hA, hbN⟩ := HA2.out (by omega)
            subst hA
            have HWT := Lib.hid (HA.out.want hq).1
            have hp0 := HWT.out.p0
            obtain ⟨j, hj⟩ : ∃ j : Nat, W[q].point = j := ⟨W[q].point.toNat, by omega⟩
            have hjl : j < S.P.length := by have := HWT.out.p1; rw [hj] at this; simpa using this
            have hjli : (j : Int) < (S.P.length : Int) := by omega
            have HMN : Hid (minV S.P W q = S.P[j].least) := by
              unfold Hid; rw [minV_eq hq, pntOf_eq HWT.out.p1]; simp only [hj, Int.toNat_natCast]
            have HOI := Lib.hid (own_below HO3.out hbi)
            have HMI := Lib.hid (HM3.out.below hbi)
            have s0 : wr.cell? ⟨b, q, none⟩ = some (.int .i64 (vecL s q)) := by
              have hcq := HOI.out.cellAt q (by omega)
              have he := flat_at encZ 1 encZ_len s q (vecL s q) (by rw [vecL_get (by omega)]; exact List.getElem?_eq_getElem (by omega)) 0 _ rfl
              rw [hcq]
              simpa using he
            have fs := HOI.out.frozenAt q
            have hbl : b < wr.heap.size := by
              have := (HOI.out.lt b rfl).2; exact this
            obtain ⟨bw, offw, hD, hbb, c0, c1, c2⟩ := want_at HSWs1.out hq
            obtain ⟨bp, offp, hB, hbp, e0, e1, e2, e3, e4⟩ := pnt_at HSP1.out hjl
            obtain ⟨bx, offx, hG, hbx, x0⟩ := vec_at HSX.out hq
            subst hD hB hG
            rw [hj] at c0
            have C0 := (hb1i.cell (p := ⟨bw, offw + q * 3, none⟩) hbb).trans c0
            have E4 := (hb1i.cell (p := ⟨bp, offp + j * 5 + 4, none⟩) hbp).trans e4
            have X0 := (hbi.cell (p := ⟨bx, offx + q, none⟩) hbx).trans x0
            have Y0 : ∀ j, wr.cell? ⟨w.heap.size, j, none⟩ = (#[.string S.name, .slice A S.F.length c, .slice (some ⟨bp, offp, none⟩) S.P.length d] : Array Value)[j]? := fun j => (hb1i.cell (p := ⟨w.heap.size, j, none⟩) hgx).trans (hx1 j)
            have hzi := hbi.size
            have hz1 := hb1i.size
            have k1 : bw < wr.heap.size := by omega
            have k2 : bp < wr.heap.size := by omega
            have k3 : bx < wr.heap.size := by omega
            have k4 : w.heap.size < wr.heap.size := by omega
            have hbr := Below.refl wr.heap.size wr
            have HGO : Hid (¬ (vecL s q ≠ 0 ∧ X q < minV S.P W q) → ∀ j, q ≤ j → j < W.length → ¬ (vecL s j ≠ 0 ∧ X j < minV S.P W j)) := fun h j h1 h2 => by
              by_cases e : j = q
              · subst e; exact h
              · exact HL.out j (by omega) h2
            have hmv := HMN.out
            have hsq : vecL s q = s.getD q 0 := rfl
            clear hc hf c0 c1 c2 e0 e1 e2 e3 e4 x0 hsq
            have HSQ : ∃ u, vecL s q = u := ⟨_, rfl⟩
            obtain ⟨u, hu⟩ := HSQ
            have HXQ : ∃ y, X q = y := ⟨_, rfl⟩
            obtain ⟨y, hy⟩ := HXQ
            rw [hu] at s0 HGO
            rw [hy] at X0 HGO
            rw [hmv] at HGO
            generalize hle : S.P[j].least = le at *
            have hcase : u = 0 ∨ (u ≠ 0 ∧ le ≤ y) ∨ (u ≠ 0 ∧ y < le) := by omega
            rcases hcase with h1 | ⟨h1, h2⟩ | ⟨h1, h2⟩
            · subst h1
              have HN := Lib.hid (HGO.out (fun h => h.1 rfl))
              have hd1 : ((0 : Int) == 0) = true := rfl
              go_wp2_with fail
              (refine wp_region_kept wr (by kernel_rfl) (by kernel_rfl) (by assumption) ?_; (repeat (go_big_quiet_step ((first | fail)))); refine wpQuiet_nil ?_; intro _ hw'; obtain ⟨x9, hw''⟩ := hw'; subst hw''; have hk9 := after_kept x9; generalize after x9 = w9 at *)
              obtain ⟨hc9, hb9⟩ := hk9
              clear hc9
              go_wp2_with fail
              go_roundw
              case measure => simp [intOf] <;> omega
              case rel => exact ⟨q, by omega, by go_num, below_step hbi hb9, HN.out⟩
            · have HN := Lib.hid (HGO.out (fun h => by omega))
              have hd1 : (u == 0) = false := by simpa using h1
              have hd2 : decide (le ≤ y) = true := decide_eq_true h2
              go_wp2_with fail
              (refine wp_region_kept wr (by kernel_rfl) (by kernel_rfl) (by assumption) ?_; (repeat (go_big_quiet_step ((first | fail)))); refine wpQuiet_nil ?_; intro _ hw'; obtain ⟨x9, hw''⟩ := hw'; subst hw''; have hk9 := after_kept x9; generalize after x9 = w9 at *)
              obtain ⟨hc9, hb9⟩ := hk9
              clear hc9
              go_wp2_with fail
              go_roundw
              case measure => simp [intOf] <;> omega
              case rel => exact ⟨q, by omega, by go_num, below_step hbi hb9, HN.out⟩
            · have hd1 : (u == 0) = false := by simpa using h1
              have hd2 : decide (le ≤ y) = false := decide_eq_false (by omega)
              go_wp2_with fail
              (refine wp_region_kept wr (by kernel_rfl) (by kernel_rfl) (by assumption) ?_; (repeat (go_big_quiet_step ((first | fail)))); refine wpQuiet_nil ?_; intro _ hw'; obtain ⟨x9, hw''⟩ := hw'; subst hw''; have hk9 := after_kept x9; generalize after x9 = w9 at *)
              obtain ⟨hc9, hb9⟩ := hk9
              have s9 := (hc9 b q hbl).trans s0
              have HO9 := Lib.hid (own_below HOI.out hb9)
              have HM9 := Lib.hid (HMI.out.below hb9)
              have f9 := HO9.out.frozenAt q
              clear hc9
              go_wp2_with fail
              go_roundw
              case measure =>
                have h5 := (HM9.out.setS hls (i := q) (by omega) 0).s
                rw [List.length_set, hls] at h5
                rw [live_eq HOS.out hls W.length (Nat.le_refl _), live_eq h5 (by rw [List.length_set]; exact hls) W.length (Nat.le_refl _), vecL_set (by omega)]
                exact live_less hq (by rw [hu]; exact h1)
              case rel =>
                refine ⟨s.set q 0, by rw [List.length_set]; exact hls, (hb1i.trans (hb9.mono hb1i.size)).setCell (p := ⟨b, q, none⟩) hbN _, HM9.out.setS hls (by omega) 0, fun i hi => ?_, fun x hx => ?_⟩
                · rw [vecL_set (by omega)]
                  by_cases e : i = q
                  · subst e; rw [upd_same]; omega
                  · rw [upd_other e]; exact HC.out i hi
                · rw [vecL_set (by omega)] at hx
                  refine HR.out x (RunsTo.next (i := q) ⟨hq, by rw [hu]; exact h1, ?_, fun k h4 h5 => ?_⟩ hx)
                  · rw [HX.out, hy, hmv]; exact h2
                  · rw [HX.out]; exact HL.out k (by omega) h5

end Go.Proofs.YtlpjniejbblcnaaDoor

namespace Go.Proofs.YtlpjniejbblcnaaDoor
open Go.RowKit Go.Lib Go.Maps
attribute [local go_sem] after_cell
set_option linter.unusedVariables false

set_option maxRecDepth 100000 in
set_option maxHeartbeats 6400000 in
theorem greatest_any (nm : ByteArray) (P : List Pnt) (x : WantR) (fv pv : Value) (w : World) (hP : IsSl w 5 pv (P.map Pnt.cells)) (h0 : 0 ≤ x.point) (h1 : x.point.toNat < P.length) :
    Calls Tryd.prog 31 #[.agg #[.string nm, fv, pv], .agg #[.int .i64 x.point, .int .i64 x.phases, .int .i64 x.top]] w fun e w' => e = .returned (.int .i64 (greatW P x)) ∧ Below w.heap.size w w' := by
  obtain ⟨B, d, rfl, hld, hdm, hsp⟩ := islen' hP
  obtain ⟨j, hj⟩ : ∃ j : Nat, x.point = j := ⟨x.point.toNat, by omega⟩
  have hjl : j < P.length := by rw [hj] at h1; simpa using h1
  have hjli : (j : Int) < (P.length : Int) := by omega
  have HGR : Hid (min x.top P[j].rated = greatW P x) := by
    unfold Hid greatW; rw [pntOf_eq h1]; simp only [hj, Int.toNat_natCast]
  rw [hj]
  obtain ⟨W0, hW0, hb0, hg1, hg0, hx0, hx1⟩ := box2 w #[.string nm, fv, .slice B P.length d] 30 #[.int .i64 j, .int .i64 x.phases, .int .i64 x.top] 36
  obtain ⟨bp, offp, rfl, hbp, e0, e1, e2, e3, e4⟩ := pnt_at (hsp.below hb0) hjl
  have hbr := Below.refl W0.heap.size W0
  clear hP hsp hld hdm e0 e1 e2 e4 hj h0 h1
  generalize P[j].rated = rt at *
  generalize x.top = tp at *
  go_enter Tryd.func31, Tryd.ntmps31
  go_wp2_with fail
  rw [← hW0]
  clear hW0
  (refine wp_region_kept W0 (by kernel_rfl) (by kernel_rfl) (by assumption) ?_; (repeat (go_big_quiet_step ((first | fail)))); refine wpQuiet_nil ?_; intro _ hw'; obtain ⟨x9, hw''⟩ := hw'; subst hw''; have hk9 := after_kept x9; generalize after x9 = w9 at *)
  obtain ⟨hc9, hb9⟩ := hk9
  clear hc9
  go_wp2_with fail
  go_ret
  exact ⟨ret_int (by first | exact HGR.out | (rw [← HGR.out]; omega)), below_step hb0 hb9⟩

/-- the last of the first k that has less than its least power -/
def LastF (mn c x : Vec) (k : Nat) (l : Int) : Prop := (l = -1 ∧ ∀ j, j < k → ¬ (c j ≠ 0 ∧ x j < mn j)) ∨ ∃ m : Nat, l = m ∧ m < k ∧ (c m ≠ 0 ∧ x m < mn m) ∧ ∀ j, m < j → j < k → ¬ (c j ≠ 0 ∧ x j < mn j)
theorem LastF.no {mn c x : Vec} {k : Nat} {l : Int} (h : LastF mn c x k l) (hn : ¬ (c k ≠ 0 ∧ x k < mn k)) : LastF mn c x (k + 1) l := by
  rcases h with ⟨e, h⟩ | ⟨m, e, hm, hl, h⟩
  · refine .inl ⟨e, fun j hj => ?_⟩
    by_cases q : j = k
    · subst q; exact hn
    · exact h j (by omega)
  · refine .inr ⟨m, e, by omega, hl, fun j h1 h2 => ?_⟩
    by_cases q : j = k
    · subst q; exact hn
    · exact h j h1 (by omega)
theorem LastF.yes {mn c x : Vec} {k : Nat} (hn : c k ≠ 0 ∧ x k < mn k) : LastF mn c x (k + 1) k := .inr ⟨k, rfl, by omega, hn, fun j h1 h2 => by omega⟩

set_option maxRecDepth 100000 in
set_option maxHeartbeats 12800000 in
theorem rrun_any (S : SiteR) (C : List CapR) (W : List WantR) (fv pv cv wv : Value) (w : World) (hF : IsSl w 5 fv (S.F.map Feed.cells)) (hP : IsSl w 5 pv (S.P.map Pnt.cells)) (hC : IsSl w 4 cv (C.map CapR.cells)) (hW : IsSl w 3 wv (W.map WantR.cells))
    (hn : S.name.size ≤ maxLen) (hfF : ∀ f ∈ S.F, f.fits) (hfP : ∀ p ∈ S.P, p.fits) (hlC : C.length ≤ 1000) (hlW : W.length ≤ 64) :
    Calls Tryd.prog 13 #[.agg #[.string S.name, fv, pv], cv, wv] w (RunPost S C W w) := by
  obtain ⟨A, c, rfl, hlc, hcm, hsl⟩ := islen' hF
  obtain ⟨B, d, rfl, hld, hdm, hsp⟩ := islen' hP
  obtain ⟨C', c', rfl, hlc', hcm', hsc⟩ := islen' hC
  obtain ⟨D, d', rfl, hld', hdm', hsw⟩ := islen' hW
  obtain ⟨W0, hW0, hb0, hg0, hx0⟩ := box1 w #[.string S.name, .slice A S.F.length c, .slice B S.P.length d] 30
  have HV := Lib.hid (rcheck_any S C W _ _ _ _ W0 (hF.below hb0) (hP.below hb0) (hC.below hb0) (hW.below hb0) hn hfF hfP hlC (by omega))
  have HSC := Lib.hid (hC.below hb0)
  have HSP := Lib.hid (hsp.below hb0)
  have HSPv := Lib.hid (hP.below hb0)
  have HSW := Lib.hid (hW.below hb0)
  have HSWs := Lib.hid (hsw.below hb0)
  have HSF := Lib.hid (hF.below hb0)
  clear hF hP hC hW hsl hsp hsc hsw hfF hfP hlc hld hlc' hld' hcm hdm hcm' hdm' hn
  cases hv : (allocE S C W != 0) with
  | true =>
    have HE := Lib.hid (show allocE S C W ≠ 0 by simpa using hv)
    go_enter Tryd.func13, Tryd.ntmps13
    go_wp2_with fail
    rw [← hW0]
    clear hW0
    refine HV.out.mono ?_
    rintro e w1 ⟨rfl, hb1⟩
    go_wp2_with fail
    go_ret2
    exact .bad HE.out (below_step hb0 hb1)
  | false =>
  have h0 : allocE S C W = 0 := by simpa using hv
  have HA := Lib.hid (allocE_ok h0)
  have H0 := Lib.hid h0
  have HOK := Lib.hid (siteE_ok HA.out.site)
  have hlP := HOK.out.lP
  have hlF := HOK.out.lF
  obtain ⟨i0, hi, hz0, hz1, hz2⟩ := info_parts intInfo
  rw [h0] at hv HV
  clear h0
  go_enter Tryd.func13, Tryd.ntmps13
  go_wp2_with fail
  rw [← hW0]
  clear hW0
  refine HV.out.mono ?_
  rintro e w1 ⟨rfl, hb1⟩
  obtain ⟨hc, hf⟩ := bcell hb1
  have hb01 := below_step hb0 hb1
  have hgx : w.heap.size < w1.heap.size := Nat.lt_of_lt_of_le hg0 hb1.size
  have hx1 : ∀ j, w1.cell? ⟨w.heap.size, j, none⟩ = (#[.string S.name, .slice A S.F.length c, .slice B S.P.length d] : Array Value)[j]? := fun j => (hc _ _ hg0).trans (hx0 j)
  have HSC1 := Lib.hid (HSC.out.below hb1)
  have HSP1 := Lib.hid (HSP.out.below hb1)
  have HSPv1 := Lib.hid (HSPv.out.below hb1)
  have HSW1 := Lib.hid (HSW.out.below hb1)
  have HSWs1 := Lib.hid (HSWs.out.below hb1)
  have HSF1 := Lib.hid (HSF.out.below hb1)
  clear hc hf hx0 HSC HSP HSPv HSW HSWs HSF HV hb0 hb1 hg0
  go_wp2_with fail
  go_loopw [9, 10] (fun s i wr => ∃ k : Nat, k ≤ W.length ∧ i = .int .i64 k ∧ Below w1.heap.size w1 wr ∧ wr.ownsRow w1.heap.size 3 1 s (askL S.P (W.take k)).length ((askL S.P (W.take k)).flatMap encZ)) (fun _ i _ => W.length - (intOf i).toNat)
  case atStart => exact ⟨0, by omega, rfl, Below.refl _ _, World.ownsRow_nil _ _ _ _⟩
  case round =>
    obtain ⟨k, hk, rfl, hbw, hown⟩ := hrel
    obtain ⟨hc, hf⟩ := bcell hbw
    by_cases hlt : k < W.length
    · have hki : (k : Int) < (W.length : Int) := by omega
      have HWT := Lib.hid (HA.out.want hlt).1
      have hp0 := HWT.out.p0
      obtain ⟨j, hj⟩ : ∃ j : Nat, W[k].point = j := ⟨W[k].point.toNat, by omega⟩
      have hjl : j < S.P.length := by have := HWT.out.p1; rw [hj] at this; simpa using this
      have hjli : (j : Int) < (S.P.length : Int) := by omega
      obtain ⟨bw, offw, hD, hbb, c0, c1, c2⟩ := want_at HSWs1.out hlt
      obtain ⟨bp, offp, hB, hbp, e0, e1, e2, e3, e4⟩ := pnt_at HSP1.out hjl
      subst hD hB
      have HPN : Hid (pntOf S.P W[k] = S.P[j]) := by
        unfold Hid; rw [pntOf_eq HWT.out.p1]; simp only [hj, Int.toNat_natCast]
      have HT3 : Hid (askL S.P (W.take (k + 1)) = askL S.P (W.take k) ++ [askW S.P W[k]]) := mapN (askW S.P) hlt
      have HAK : Hid (askW S.P W[k] = if greatW S.P W[k] < S.P[j].least then 0 else greatW S.P W[k]) := by unfold Hid askW; rw [HPN.out]
      have HLN : Hid ((askL S.P (W.take k)).length = k) := by unfold Hid askL; rw [List.length_map, List.length_take]; omega
      have hgr := fun (w' : World) (h : Below wr.heap.size wr w') => greatest_any S.name S.P W[k] (.slice A S.F.length c) _ w' ((HSPv1.out.below hbw).below h) hp0 HWT.out.p1
      have HGC := Lib.hid hgr
      have C0 := (hbw.cell (p := ⟨bw, offw + k * 3, none⟩) hbb).trans c0
      have C1 := (hbw.cell (p := ⟨bw, offw + k * 3 + 1, none⟩) hbb).trans c1
      have C2 := (hbw.cell (p := ⟨bw, offw + k * 3 + 2, none⟩) hbb).trans c2
      have E4 := (hbw.cell (p := ⟨bp, offp + j * 5 + 4, none⟩) hbp).trans e4
      have Y0 : ∀ j, wr.cell? ⟨w.heap.size, j, none⟩ = (#[.string S.name, .slice A S.F.length c, .slice (some ⟨bp, offp, none⟩) S.P.length d] : Array Value)[j]? := fun j => (hbw.cell (p := ⟨w.heap.size, j, none⟩) hgx).trans (hx1 j)
      have hzw := hbw.size
      have k1 : bw < wr.heap.size := by omega
      have k2 : bp < wr.heap.size := by omega
      have k3 : w.heap.size < wr.heap.size := by omega
      have HO := Lib.hid hown
      have hbr := Below.refl wr.heap.size wr
      have hcP : W[k].point = (j : Int) := hj
      clear hc hf c0 c1 c2 e0 e1 e2 e3 e4 hown hgr hp0
      generalize askL S.P (W.take k) = SS at *
      generalize greatW S.P W[k] = gr at *
      generalize askW S.P W[k] = ak at *
      generalize W[k] = y at *
      generalize S.P[j].least = le at *
      rw [hcP] at C0 HGC
      obtain ⟨A2, c2, rfl⟩ := own_shape HO.out
      clear hj hcP
      go_wp2_with fail
      (refine wp_region_kept wr (by kernel_rfl) (by kernel_rfl) (by assumption) ?_; (repeat (go_big_quiet_step ((first | (go_at_call 31; exact kept_call (HGC.out _ (after_kept _).2)))))); refine wpQuiet_nil ?_; intro _ hw'; obtain ⟨x9, hw''⟩ := hw'; subst hw''; have hk9 := after_kept x9; generalize after x9 = w9 at *)
      obtain ⟨hc9, hb9⟩ := hk9
      have E9 := (hc9 bp _ k2).trans E4
      have C9 := (hc9 bw _ k1).trans C0
      have Y9 : ∀ j, w9.cell? ⟨w.heap.size, j, none⟩ = (#[.string S.name, .slice A S.F.length c, .slice (some ⟨bp, offp, none⟩) S.P.length d] : Array Value)[j]? := fun j => (hc9 w.heap.size _ k3).trans (Y0 j)
      have hz9 := hb9.size
      have k4 : bw < w9.heap.size := by omega
      have k5 : bp < w9.heap.size := by omega
      have k6 : w.heap.size < w9.heap.size := by omega
      have hbr9 := Below.refl w9.heap.size w9
      have HO9 := Lib.hid (own_below HO.out hb9)
      have HBW9 := Lib.hid (hbw.trans (hb9.mono hzw))
      clear hc9 E4 C0 C1 C2 Y0 hbr k1 k2 k3
      have HKS : (gr < le ∧ Hid (ak = 0)) ∨ (¬ gr < le ∧ Hid (ak = gr)) := by
        by_cases hg : gr < le
        · exact .inl ⟨hg, by unfold Hid; rw [HAK.out, if_pos hg]⟩
        · exact .inr ⟨hg, by unfold Hid; rw [HAK.out, if_neg hg]⟩
      rcases HKS with ⟨hg, HKV⟩ | ⟨hg, HKV⟩
      · have d1 : decide (gr < le) = true := decide_eq_true hg
        go_wp2_with fail
        generalize hwk : w9 = wk at *
        clear hwk
        (refine wp_region_kept wk (by kernel_rfl) (by kernel_rfl) (by assumption) ?_; (repeat (go_big_quiet_step ((first | fail)))); refine wpQuiet_nil ?_; intro _ hw'; obtain ⟨x9, hw''⟩ := hw'; subst hw''; have hk9 := after_kept x9; generalize after x9 = w9 at *)
        obtain ⟨hc9, hb9'⟩ := hk9
        have HO8 := Lib.hid (own_below HO9.out hb9')
        have HB8 := Lib.hid (HBW9.out.trans (hb9'.mono HBW9.out.size))
        clear hc9
        go_wp2_with (at_builtin; refine wpList_append_row _ _ rfl (.tmp 46) (.tmp 48) _ rfl w1.heap.size 3 i0 _ 1 8 Tryd.underlying22 hi hz0 hz1 hz2 rfl (by decide) (.slice A2 SS.length c2) SS.length (SS.flatMap encZ) rfl HO8.out _ rfl rfl (by intro u hu; simp at hu; subst hu; rfl) (by have := HLN.out; omega) (by have := HLN.out; omega) HB8.out.size ?_; intro v6 w6 hown6 hgrow6 hblk6)
        (try go_simp)
        go_roundw
        case measure => simp [intOf] <;> omega
        case rel =>
          have hb6 := below_grown HB8.out HO8.out (Nat.le_refl _) hgrow6
          exact ⟨k + 1, by omega, by go_num, hb6, by rw [HT3.out, HKV.out, List.length_append, List.flatMap_append]; exact hown6⟩
      · have d1 : decide (gr < le) = false := decide_eq_false hg
        go_wp2_with fail
        generalize hwk : w9 = wk at *
        clear hwk
        (refine wp_region_kept wk (by kernel_rfl) (by kernel_rfl) (by assumption) ?_; (repeat (go_big_quiet_step ((first | fail)))); refine wpQuiet_nil ?_; intro _ hw'; obtain ⟨x9, hw''⟩ := hw'; subst hw''; have hk9 := after_kept x9; generalize after x9 = w9 at *)
        obtain ⟨hc9, hb9'⟩ := hk9
        have HO8 := Lib.hid (own_below HO9.out hb9')
        have HB8 := Lib.hid (HBW9.out.trans (hb9'.mono HBW9.out.size))
        clear hc9
        go_wp2_with (at_builtin; refine wpList_append_row _ _ rfl (.tmp 46) (.tmp 48) _ rfl w1.heap.size 3 i0 _ 1 8 Tryd.underlying22 hi hz0 hz1 hz2 rfl (by decide) (.slice A2 SS.length c2) SS.length (SS.flatMap encZ) rfl HO8.out _ rfl rfl (by intro u hu; simp at hu; subst hu; rfl) (by have := HLN.out; omega) (by have := HLN.out; omega) HB8.out.size ?_; intro v6 w6 hown6 hgrow6 hblk6)
        (try go_simp)
        go_roundw
        case measure => simp [intOf] <;> omega
        case rel =>
          have hb6 := below_grown HB8.out HO8.out (Nat.le_refl _) hgrow6
          exact ⟨k + 1, by omega, by go_num, hb6, by rw [HT3.out, HKV.out, List.length_append, List.flatMap_append]; exact hown6⟩
    · have hki : ¬ (k : Int) < (W.length : Int) := by omega
      have hkn : k = W.length := by omega
      rw [hkn, List.take_length] at hown
      have HO0 := Lib.hid hown
      have hla : (askL S.P W).length = W.length := by simp [askL]
      rw [hla] at HO0
      have HR0 : Hid (∀ x, RunsTo W.length (siteV S C W) (minV S.P W) (vecL (askL S.P W)) x → AllocTo S C W x) := fun x h => h
      have HC0 : Hid (∀ i, i < W.length → 0 ≤ vecL (askL S.P W) i ∧ vecL (askL S.P W) i ≤ 1048576) := fun i hi => by
        have := ask_bd HA.out hi; have := great_bd HA.out hi; omega
      clear hown hk hlt hkn hc hf
      go_wp2_with fail
      go_loopw [9] (fun cv wi => ∃ s : List Int, s.length = W.length ∧ Below w1.heap.size w1 wi ∧ wi.ownsRow w1.heap.size 3 1 cv W.length (s.flatMap encZ) ∧ (∀ i, i < W.length → 0 ≤ vecL s i ∧ vecL s i ≤ 1048576) ∧ (∀ x, RunsTo W.length (siteV S C W) (minV S.P W) (vecL s) x → AllocTo S C W x)) (fun cv wi => liveW wi cv W.length)
      case atStart => exact ⟨_, hla, hbw, HO0.out, HC0.out, HR0.out⟩
      case round =>
        clear HO0 HR0 HC0 hla hbw hki
        obtain ⟨s, hls, hbw, hOS, hCB, hRR⟩ := hrel
        have HOS := Lib.hid hOS
        have HC := Lib.hid hCB
        have HR := Lib.hid hRR
        clear hOS hCB hRR
        obtain ⟨hc, hf⟩ := bcell hbw
        obtain ⟨A9, c9, hv9⟩ := own_shape HOS.out
        subst hv9
        have hlv : listV W.length (vecL s) = s := by rw [← hls, listV_vecL]
        have HSV : Hid (IsSl wr 1 (.slice A9 W.length c9) ((listV W.length (vecL s)).map encZ)) := by unfold Hid; rw [hlv]; exact IsSl.of_own encZ_len HOS.out hls
        have HFL := Lib.hid (rfill_any S C W (vecL s) _ _ _ _ _ wr (HSF1.out.below hbw) (HSPv1.out.below hbw) (HSC1.out.below hbw) (HSW1.out.below hbw) HSV.out HA.out hlW HC.out)
        clear hlv
        go_wp2_with (go_at_call 32; refine HFL.out.mono ?_; rintro e w3 ⟨v3, rfl, hs3, hb3, hfr3⟩)
        generalize hX : fillX W.length (siteV S C W) (vecL s) = X at *
        have HX := Lib.hid hX
        have HFR := Lib.hid (hfr3.mono (w := w) (by have := hb01.size; have := hbw.size; omega))
        clear hX HFL hfr3
        have hb13 := hbw.trans (hb3.mono hbw.size)
        obtain ⟨G, g, hv3, hg1, hg2, hsx⟩ := islen' hs3
        subst hv3
        rw [listV_len]
        have HS3 := Lib.hid hs3
        have HSX := Lib.hid hsx
        rw [listV_len] at HS3 HFR
        have HO3 := Lib.hid (own_below HOS.out hb3)
        clear hs3 hsx hg1 hg2 hc hf
        go_loopw [13, 14] (fun lv iv wi => ∃ (k : Nat) (l : Int), k ≤ W.length ∧ iv = .int .i64 k ∧ lv = .int .i64 l ∧ Below w3.heap.size w3 wi ∧ LastF (minV S.P W) (vecL s) X k l) (fun _ iv _ => W.length - (intOf iv).toNat)
        case atStart => exact ⟨0, -1, by omega, rfl, rfl, Below.refl _ _, .inl ⟨rfl, fun j hj => by omega⟩⟩
        case round =>
          obtain ⟨q, l, hq, rfl, rfl, hbi, hLL⟩ := hrel
          have HL := Lib.hid hLL
          clear hLL
          have hb1i := hb13.trans (hbi.mono hb13.size)
          by_cases hlt : q < W.length
          · have hqi : (q : Int) < (W.length : Int) := by omega
            have HWT := Lib.hid (HA.out.want hlt).1
            have hp0 := HWT.out.p0
            obtain ⟨j, hj⟩ : ∃ j : Nat, W[q].point = j := ⟨W[q].point.toNat, by omega⟩
            have hjl : j < S.P.length := by have := HWT.out.p1; rw [hj] at this; simpa using this
            have hjli : (j : Int) < (S.P.length : Int) := by omega
            have hmv : minV S.P W q = S.P[j].least := by
              rw [minV_eq hlt, pntOf_eq HWT.out.p1]; simp only [hj, Int.toNat_natCast]
            have HOI := Lib.hid (own_below HO3.out hbi)
            obtain ⟨b, cap, e, hgb, hgl, hcap, hcap2, hcl⟩ := own_split HOI.out (by omega)
            injection e with e1 e2 e3
            subst e1 e3
            have s0 := hcl q _ (flatZ_at (by omega))
            rw [← vecL_get (by omega)] at s0
            obtain ⟨bw, offw, hD, hbb, c0, c1, c2⟩ := want_at HSWs1.out hlt
            obtain ⟨bp, offp, hB, hbp, e0, e1, e2, e3, e4⟩ := pnt_at HSP1.out hjl
            obtain ⟨bx, offx, hG, hbx, x0⟩ := vec_at HSX.out hlt
            subst hD hB hG
            rw [hj] at c0
            have C0 := (hb1i.cell (p := ⟨bw, offw + q * 3, none⟩) hbb).trans c0
            have E4 := (hb1i.cell (p := ⟨bp, offp + j * 5 + 4, none⟩) hbp).trans e4
            have X0 := (hbi.cell (p := ⟨bx, offx + q, none⟩) hbx).trans x0
            have Y0 : ∀ j, wr.cell? ⟨w.heap.size, j, none⟩ = (#[.string S.name, .slice A S.F.length c, .slice (some ⟨bp, offp, none⟩) S.P.length d] : Array Value)[j]? := fun j => (hb1i.cell (p := ⟨w.heap.size, j, none⟩) hgx).trans (hx1 j)
            have hzi := hbi.size
            have hz1' := hb1i.size
            have k1 : bw < wr.heap.size := by omega
            have k2 : bp < wr.heap.size := by omega
            have k3 : bx < wr.heap.size := by omega
            have k4 : w.heap.size < wr.heap.size := by omega
            have hbr := Below.refl wr.heap.size wr
            have hu0 := HC.out q hlt
            have HNO := Lib.hid (fun h => HL.out.no (k := q) h)
            have HYE := Lib.hid (fun h => LastF.yes (mn := minV S.P W) (c := vecL s) (x := X) (k := q) h)
            clear hcl c0 c1 c2 e0 e1 e2 e3 e4 x0 hp0
            obtain ⟨u, hu⟩ : ∃ u, vecL s q = u := ⟨_, rfl⟩
            obtain ⟨y, hy⟩ : ∃ y, X q = y := ⟨_, rfl⟩
            rw [hu] at s0 HNO HYE hu0
            rw [hy] at X0 HNO HYE
            rw [hmv] at HNO HYE
            generalize S.P[j].least = le at *
            clear hu hy hmv
            have hcase : u = 0 ∨ (0 < u ∧ y < le) ∨ (0 < u ∧ le ≤ y) := by omega
            rcases hcase with h1 | ⟨h1, h2⟩ | ⟨h1, h2⟩
            · subst h1
              have HN := Lib.hid (HNO.out (fun h => h.1 rfl))
              go_wp2_with fail
              (refine wp_region_kept wr (by kernel_rfl) (by kernel_rfl) (by assumption) ?_; (repeat (go_big_quiet_step ((first | fail)))); refine wpQuiet_nil ?_; intro _ hw'; obtain ⟨x9, hw''⟩ := hw'; subst hw''; have hk9 := after_kept x9; generalize after x9 = w9 at *)
              obtain ⟨hc9, hb9⟩ := hk9
              clear hc9
              go_wp2_with fail
              go_roundw
              case measure => simp [intOf] <;> omega
              case rel => exact ⟨q + 1, l, by omega, by go_num, rfl, below_step hbi hb9, HN.out⟩
            · have HN := Lib.hid (HYE.out ⟨by omega, h2⟩)
              have d1 : decide (0 < u) = true := decide_eq_true h1
              have d2 : decide (y < le) = true := decide_eq_true h2
              go_wp2_with fail
              (refine wp_region_kept wr (by kernel_rfl) (by kernel_rfl) (by assumption) ?_; (repeat (go_big_quiet_step ((first | fail)))); refine wpQuiet_nil ?_; intro _ hw'; obtain ⟨x9, hw''⟩ := hw'; subst hw''; have hk9 := after_kept x9; generalize after x9 = w9 at *)
              obtain ⟨hc9, hb9⟩ := hk9
              clear hc9
              go_wp2_with fail
              go_roundw
              case measure => simp [intOf] <;> omega
              case rel => exact ⟨q + 1, q, by omega, by go_num, rfl, below_step hbi hb9, HN.out⟩
            · have HN := Lib.hid (HNO.out (fun h => by omega))
              have d1 : decide (0 < u) = true := decide_eq_true h1
              have d2 : decide (y < le) = false := decide_eq_false (by omega)
              go_wp2_with fail
              (refine wp_region_kept wr (by kernel_rfl) (by kernel_rfl) (by assumption) ?_; (repeat (go_big_quiet_step ((first | fail)))); refine wpQuiet_nil ?_; intro _ hw'; obtain ⟨x9, hw''⟩ := hw'; subst hw''; have hk9 := after_kept x9; generalize after x9 = w9 at *)
              obtain ⟨hc9, hb9⟩ := hk9
              clear hc9
              go_wp2_with fail
              go_roundw
              case measure => simp [intOf] <;> omega
              case rel => exact ⟨q + 1, l, by omega, by go_num, rfl, below_step hbi hb9, HN.out⟩
          · have hqi : ¬ (q : Int) < (W.length : Int) := by omega
            have hqn : q = W.length := by omega
            subst hqn
            rcases HL.out with ⟨rfl, hno⟩ | ⟨m, rfl, hm, hlow, hno⟩
            · have HE : Hid (AllocTo S C W X) := by
                have h := RunsTo.stop (n := W.length) (F := siteV S C W) (mn := minV S.P W) (c := vecL s) (by rw [HX.out]; exact hno)
                rw [HX.out] at h
                exact HR.out X h
              clear hno HL
              go_wp2_with fail
              go_ret2
              exact .good H0.out HE.out (HS3.out.below hbi) (below_step hb01 hb1i) HFR.out
            · have hmi : ¬ (m : Int) < 0 := by omega
              have HLW : Hid (IsLow W.length (minV S.P W) (vecL s) X m) := ⟨hm, hlow.1, hlow.2, hno⟩
              have HOI := Lib.hid (own_below HO3.out hbi)
              have HSI : Hid (IsSl wr 1 (.slice A9 W.length c9) ((listV W.length (vecL s)).map encZ)) := by unfold Hid; rw [show listV W.length (vecL s) = s by rw [← hls, listV_vecL]]; exact IsSl.of_own encZ_len HOI.out hls
              have HCH := Lib.hid (changed_any W.length (vecL s) m 0 _ wr HSI.out hm (by omega))
              clear hno hlow HL
              go_wp2_with (go_at_call 33; refine HCH.out.mono ?_; rintro e w5 ⟨v5, rfl, ho5, hb5⟩)
              have hse : listV W.length (updF (vecL s) m 0) = s.set m 0 := by rw [listV_upd hm, show listV W.length (vecL s) = s by rw [← hls, listV_vecL]]
              rw [hse] at ho5
              have HO5 := Lib.hid (own_mono ho5 (show w1.heap.size ≤ wr.heap.size from hb1i.size))
              have HB5 := Lib.hid (hb1i.trans (hb5.mono hb1i.size))
              clear ho5 hb5 hse HCH
              go_roundw
              case measure =>
                obtain ⟨b5, c5, e5, _⟩ := own_split HO5.out (by omega)
                obtain ⟨b6, c6, e6, _⟩ := own_split HOS.out (by omega)
                have h5 := HO5.out
                have h6 := HOS.out
                rw [e5] at h5 ⊢
                rw [e6] at h6 ⊢
                rw [live_eq h6 hls W.length (Nat.le_refl _), live_eq h5 (by rw [List.length_set]; exact hls) W.length (Nat.le_refl _), vecL_set (by omega)]
                exact live_less hm HLW.out.2.1
              case rel =>
                refine ⟨s.set m 0, by rw [List.length_set]; exact hls, HB5.out, HO5.out, fun i hi => ?_, fun x hx => ?_⟩
                · rw [vecL_set (by omega)]
                  by_cases e : i = m
                  · subst e; rw [upd_same]; omega
                  · rw [upd_other e]; exact HC.out i hi
                · rw [vecL_set (by omega)] at hx
                  exact HR.out x (RunsTo.next (i := m) (by rw [HX.out]; exact HLW.out) hx)

end Go.Proofs.YtlpjniejbblcnaaDoor
