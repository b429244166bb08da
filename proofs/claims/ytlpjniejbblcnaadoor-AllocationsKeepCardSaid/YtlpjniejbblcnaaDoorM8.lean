/-
  Walks: check of package allocate.
  Walks: Check of the reference of package allocate.
-/
import Derived.Test.YtlpjniejbblcnaaDoorM5
import Derived.Test.YtlpjniejbblcnaaDoorM6
import Derived.Test.YtlpjniejbblcnaaDoorM7
import Derived.Test.YtlpjniejbblcnaaDoorM3

namespace Go.Proofs.YtlpjniejbblcnaaDoor
open Go.RowKit Go.Lib Go.Maps
attribute [local go_sem] after_cell
set_option linter.unusedVariables false

theorem allocE_site {S : SiteR} {C : List CapR} {W : List WantR} (h : siteE S ≠ 0) : allocE S C W = siteE S := by unfold allocE; rw [if_pos h]
theorem allocE_len {S : SiteR} {C : List CapR} {W : List WantR} (h : siteE S = 0) (h1 : C.length ≠ S.F.length) : allocE S C W = 1 := by unfold allocE; rw [if_neg (by omega), if_pos h1]
theorem allocE_cap {S : SiteR} {C : List CapR} {W : List WantR} (h : siteE S = 0) (h1 : C.length = S.F.length) {k : Nat} (hk : k < C.length) (hb : capB C[k] = false) : allocE S C W = 2 := by
  unfold allocE; rw [if_neg (by omega), if_neg (by omega), if_pos (all_false' C capB hk hb)]
theorem allocE_want {S : SiteR} {C : List CapR} {W : List WantR} (h : siteE S = 0) (h1 : C.length = S.F.length) (hc : C.all capB = true) {k : Nat} (hk : k < W.length) (h0 : firstE (wantAt S.P W) k = 0) (he : wantAt S.P W k ≠ 0) : allocE S C W = wantAt S.P W k := by
  unfold allocE; rw [if_neg (by omega), if_neg (by omega), if_neg (by rw [hc]; decide)]; exact firstE_stop h0 he hk
theorem allocE_zero {S : SiteR} {C : List CapR} {W : List WantR} (h : siteE S = 0) (h1 : C.length = S.F.length) (hc : C.all capB = true) (h0 : firstE (wantAt S.P W) W.length = 0) : allocE S C W = 0 := by
  unfold allocE; rw [if_neg (by omega), if_neg (by omega), if_neg (by rw [hc]; decide)]; exact h0
theorem wantE_bad {P : List Pnt} {seen : List Int} {x : WantR} (h : wantBad P seen x = true) : wantE P seen x = 1 := by unfold wantE; rw [if_pos h]
theorem wantE_top {P : List Pnt} {seen : List Int} {x : WantR} (h : wantBad P seen x = false) (h1 : powB x.top = false) : wantE P seen x = 2 := by unfold wantE; rw [if_neg (by rw [h]; decide), if_neg (by rw [h1]; decide)]
theorem wantE_ok {P : List Pnt} {seen : List Int} {x : WantR} (h : wantBad P seen x = false) (h1 : powB x.top = true) : wantE P seen x = 0 := by unfold wantE; rw [if_neg (by rw [h]; decide), if_pos h1]
theorem wbad_out {P : List Pnt} {seen : List Int} {x : WantR} (h : x.point < 0 ∨ (P.length : Int) ≤ x.point) : wantBad P seen x = true := by
  unfold wantBad
  split
  · rename_i p hp
    obtain ⟨hl, _⟩ := List.getElem?_eq_some_iff.1 hp
    have : ¬ 0 ≤ x.point := by omega
    simp [this]
  · rfl
theorem wbad_ph {P : List Pnt} {seen : List Int} {x : WantR} (h : x.phases < 1 ∨ 7 < x.phases) : wantBad P seen x = true := by
  unfold wantBad
  split
  · rcases h with h | h
    · have : ¬ 1 ≤ x.phases := by omega
      simp [this]
    · have : ¬ x.phases ≤ 7 := by omega
      simp [this]
  · rfl
theorem wbad_in {P : List Pnt} {seen : List Int} {x : WantR} {k : Nat} (hk : k < P.length) (e : x.point = k) (h1 : ¬ x.phases < 1) (h7 : ¬ 7 < x.phases) : wantBad P seen x = !(maskB x.phases P[k].phases && !decide ((k : Int) ∈ seen)) := by
  unfold wantBad
  rw [e]
  simp only [Int.toNat_natCast, List.getElem?_eq_getElem hk]
  have a : decide (1 ≤ x.phases) = true := decide_eq_true (by omega)
  have b : decide (x.phases ≤ 7) = true := decide_eq_true (by omega)
  have c : decide ((0 : Int) ≤ (k : Int)) = true := decide_eq_true (by omega)
  rw [a, b, c]; rfl
theorem capB_no {x : CapR} (v : Int) (hv : v = x.a ∨ v = x.b ∨ v = x.c ∨ v = x.t) (h : limB v = false) : capB x = false := by
  unfold capB
  rcases hv with rfl | rfl | rfl | rfl <;> simp [h]
theorem limB_no {v : Int} (h : v < 0 ∨ 1073741824 < v) : limB v = false := by
  unfold limB
  rcases h with h | h
  · have : ¬ 0 ≤ v := by omega
    simp [this]
  · have : ¬ v ≤ 1073741824 := by omega
    simp [this]
theorem limB_yes {v : Int} (h : ¬ v < 0) (h' : ¬ 1073741824 < v) : limB v = true := by
  unfold limB
  simp only [Bool.and_eq_true, decide_eq_true_eq]; omega
theorem ptsL_take {W : List WantR} {k : Nat} (hk : k < W.length) : ptsL (W.take (k + 1)) = ptsL (W.take k) ++ [W[k].point] := by
  unfold ptsL; rw [List.take_succ_eq_append_getElem hk, List.map_append]; rfl
/-- who has been seen -/
def seenF (W : List WantR) (k : Nat) : Act := fun j => decide ((j : Int) ∈ ptsL (W.take k))
theorem seenF_zero (W : List WantR) : seenF W 0 = fun _ => false := by funext j; simp [seenF, ptsL]
theorem seenF_next {W : List WantR} {k j : Nat} (hk : k < W.length) (e : W[k].point = (j : Int)) : seenF W (k + 1) = updF (seenF W k) j true := by
  funext i
  unfold seenF updF
  rw [ptsL_take hk, e]
  by_cases q : i = j
  · subst q; simp
  · rw [if_neg q]
    have : ((i : Int) = (j : Int)) ↔ False := ⟨fun h => q (by omega), fun h => h.elim⟩
    simp [this]
theorem index4 (a b c t : Int) (w : World) : ∀ (k : Nat) (v : Int), [a, b, c, t][k]? = some v → (Instr.index 96 (.agg #[.int .i64 a, .int .i64 b, .int .i64 c, .int .i64 t]) (.int .i64 (k : Int))).run Tryd.prog w = .ok (.int .i64 v) w
  | 0, v, h => by simp at h; subst h; kernel_rfl
  | 1, v, h => by simp at h; subst h; kernel_rfl
  | 2, v, h => by simp at h; subst h; kernel_rfl
  | 3, v, h => by simp at h; subst h; kernel_rfl
  | k + 4, v, h => by simp at h
theorem four_mem {a b c t v : Int} {k : Nat} (h : [a, b, c, t][k]? = some v) : v = a ∨ v = b ∨ v = c ∨ v = t := by
  have := List.mem_of_getElem? h
  simpa using this

set_option maxRecDepth 100000 in
set_option maxHeartbeats 12800000 in
theorem acheck_any (S : SiteR) (C : List CapR) (W : List WantR) (fv pv cv wv : Value) (w : World) (hF : IsSl w 5 fv (S.F.map Feed.cells)) (hP : IsSl w 5 pv (S.P.map Pnt.cells)) (hC : IsSl w 4 cv (C.map CapR.cells)) (hW : IsSl w 3 wv (W.map WantR.cells))
    (hn : S.name.size ≤ maxLen) (hfF : ∀ f ∈ S.F, f.fits) (hfP : ∀ p ∈ S.P, p.fits) (hlC : C.length ≤ 1000) (hlW : W.length ≤ 1000) :
    Calls Tryd.prog 21 #[.agg #[.string S.name, fv, pv], cv, wv] w fun e w' => e = .returned (.int .i64 (allocE S C W)) ∧ Below w.heap.size w w' := by
  have HIF := Lib.hid hF
  have HIP := Lib.hid hP
  obtain ⟨A, c, rfl, hlc, hcm, hsl⟩ := islen' hF
  obtain ⟨B, d, rfl, hld, hdm, hsp⟩ := islen' hP
  obtain ⟨C', c', rfl, hlc', hcm', hsc⟩ := islen' hC
  obtain ⟨D, d', rfl, hld', hdm', hsw⟩ := islen' hW
  obtain ⟨W0, hW0, hb0, hg0, hx0⟩ := box1 w #[.string S.name, .slice A S.F.length c, .slice B S.P.length d] 30
  have HV := Lib.hid (siteValid_any S _ _ W0 (HIF.out.below hb0) (HIP.out.below hb0) hn hfF hfP)
  have HSC := Lib.hid (hsc.below hb0)
  have HSP := Lib.hid (hsp.below hb0)
  have HSW := Lib.hid (hsw.below hb0)
  clear hF hP hC hW hsl hsp hsc hsw hfF hfP hlc hld hlc' hld' hcm hdm hcm' hdm' hn HIF HIP
  cases hv : (siteE S != 0) with
  | true =>
    have HE := Lib.hid (allocE_site (C := C) (W := W) (by simpa using hv : siteE S ≠ 0))
    go_enter Tryd.func21, Tryd.ntmps21
    go_wp2_with fail
    rw [← hW0]
    clear hW0
    refine HV.out.mono ?_
    rintro e w1 ⟨rfl, hb1⟩
    go_wp2_with fail
    go_ret
    exact ⟨ret_int HE.out.symm, below_step hb0 hb1⟩
  | false =>
  have h0 : siteE S = 0 := by simpa using hv
  by_cases hcl : C.length = S.F.length
  rotate_left 1
  · have hne : ((C.length : Int) != (S.F.length : Int)) = true := by simp; omega
    have HE := Lib.hid (allocE_len (W := W) h0 hcl)
    clear h0 hcl
    go_enter Tryd.func21, Tryd.ntmps21
    go_wp2_with fail
    rw [← hW0]
    clear hW0
    refine HV.out.mono ?_
    rintro e w1 ⟨rfl, hb1⟩
    obtain ⟨hc, hf⟩ := bcell hb1
    go_wp2_with fail
    go_ret
    exact ⟨ret_int HE.out.symm, below_step hb0 hb1⟩
  have hne : ((C.length : Int) != (S.F.length : Int)) = false := by simp; omega
  have HOK := Lib.hid (siteE_ok h0)
  have hlP := HOK.out.lP
  have HEC := Lib.hid (fun (k : Nat) (hk : k < C.length) => allocE_cap (W := W) h0 hcl hk)
  have HEW := Lib.hid (fun (hc : C.all capB = true) (k : Nat) (hk : k < W.length) => allocE_want h0 hcl hc hk)
  have HEZ := Lib.hid (fun (hc : C.all capB = true) => allocE_zero (W := W) h0 hcl hc)
  obtain ⟨i1, hj0, hjz, hj1, hj2⟩ := info_parts boolInfo
  have hmb := fun W => run_make_rowZ (P := Tryd.prog) 97 4 i1 _ Tryd.underlying97 hj0 hjz .i64 .i64 S.P.length S.P.length (S.P.length : Int) (S.P.length : Int) rfl rfl (by omega) (by rw [hj2]; omega) (by omega) W
  rw [hj1] at hmb
  have HZB := Lib.hid (zeros_bool S.P.length)
  generalize madeCells _ (S.P.length * 1) = ZB at hmb HZB
  clear h0 hcl
  go_enter Tryd.func21, Tryd.ntmps21
  go_wp2_with fail
  rw [← hW0]
  clear hW0
  refine HV.out.mono ?_
  rintro e w1 ⟨rfl, hb1⟩
  obtain ⟨hc, hf⟩ := bcell hb1
  have hb01 := below_step hb0 hb1
  have hgx : w.heap.size < w1.heap.size := Nat.lt_of_lt_of_le hg0 hb1.size
  have hx1 : ∀ j, w1.cell? ⟨w.heap.size, j, none⟩ = (#[.string S.name, .slice A S.F.length c, .slice B S.P.length d] : Array Value)[j]? := fun j => (hc _ _ hg0).trans (hx0 j)
  clear hc hf hx0
  have HSC1 := Lib.hid (HSC.out.below hb1)
  have HSP1 := Lib.hid (HSP.out.below hb1)
  have HSW1 := Lib.hid (HSW.out.below hb1)
  clear HSC HSP HSW HV hb0 hb1 hg0
  go_wp2_with fail
  go_loopw [28] (fun i wr => ∃ k : Nat, k ≤ C.length ∧ i = .int .i64 k ∧ Below w1.heap.size w1 wr ∧ Hid (∀ j (h : j < C.length), j < k → capB C[j] = true)) (fun i _ => C.length - (intOf i).toNat)
  case atStart => exact ⟨0, by omega, rfl, Below.refl _ _, fun j _ h => by omega⟩
  case round =>
    obtain ⟨k, hk, rfl, hbw, HG⟩ := hrel
    obtain ⟨hc, hf⟩ := bcell hbw
    by_cases hlt : k < C.length
    · have hki : (k : Int) < (C.length : Int) := by omega
      obtain ⟨b, off, rfl, hbb, c0, c1, c2, c3⟩ := cap_at HSC1.out hlt
      have HEK := Lib.hid (HEC.out k hlt)
      have HGN : Hid (capB C[k] = true → ∀ j (h : j < C.length), j < k + 1 → capB C[j] = true) := fun h j hj hjk => by
        by_cases q : j = k
        · subst q; exact h
        · exact HG.out j hj (by omega)
      have HNO := Lib.hid (fun (v : Int) (hv : v = C[k].a ∨ v = C[k].b ∨ v = C[k].c ∨ v = C[k].t) (h : limB v = false) => capB_no v hv h)
      have HYES : Hid ((∀ j v, j < 4 → [C[k].a, C[k].b, C[k].c, C[k].t][j]? = some v → limB v = true) → capB C[k] = true) := fun h => by
        unfold capB
        rw [h 0 _ (by omega) rfl, h 1 _ (by omega) rfl, h 2 _ (by omega) rfl, h 3 _ (by omega) rfl]; rfl
      generalize C[k] = x at *
      have HIX := Lib.hid (index4 x.a x.b x.c x.t)
      have hb2 := below_alloc hbw (.cells #[.int .i64 x.a, .int .i64 x.b, .int .i64 x.c, .int .i64 x.t] 41)
      go_wp2_with fail
      go_loopw [44] (fun i wi => ∃ j : Nat, j ≤ 4 ∧ i = .int .i64 j ∧ Below w1.heap.size w1 wi ∧ Hid (∀ i v, i < j → [x.a, x.b, x.c, x.t][i]? = some v → limB v = true)) (fun i _ => 4 - (intOf i).toNat)
      case atStart => exact ⟨0, by omega, rfl, hb2, fun j _ h => by omega⟩
      case round =>
        obtain ⟨j, hj, rfl, hbi, HL⟩ := hrel
        by_cases hj4 : j < 4
        · have hji : (j : Int) < 4 := by omega
          obtain ⟨v, hv⟩ : ∃ v, [x.a, x.b, x.c, x.t][j]? = some v := ⟨_, List.getElem?_eq_getElem (by simpa using hj4)⟩
          have hix := fun W => HIX.out W j v hv
          have HM := Lib.hid (four_mem hv)
          have HLN : Hid (limB v = true → ∀ i u, i < j + 1 → [x.a, x.b, x.c, x.t][i]? = some u → limB u = true) := fun h i u hi hu => by
            by_cases q : i = j
            · subst q; rw [hv] at hu; cases hu; exact h
            · exact HL.out i u (by omega) hu
          clear hv
          by_cases h0 : v < 0
          · have HE := Lib.hid (HEK.out (HNO.out v HM.out (limB_no (.inl h0))))
            go_wp2_with fail
            go_ret
            exact ⟨ret_int HE.out.symm, below_step hb01 hbi⟩
          · by_cases h1 : 1073741824 < v
            · have HE := Lib.hid (HEK.out (HNO.out v HM.out (limB_no (.inr h1))))
              go_wp2_with fail
              go_ret
              exact ⟨ret_int HE.out.symm, below_step hb01 hbi⟩
            · have HN := Lib.hid (HLN.out (limB_yes h0 h1))
              go_wp2_with fail
              go_roundw
              case measure => simp [intOf]; omega
              case rel => exact ⟨j + 1, by omega, by go_num, hbi, HN.out⟩
        · have hji : ¬ (j : Int) < 4 := by omega
          have HN := Lib.hid (HGN.out (HYES.out (fun i v hi => HL.out i v (by omega))))
          go_wp2_with fail
          go_roundw
          case measure => simp [intOf]; omega
          case rel => exact ⟨k + 1, by omega, by go_num, hbi, HN.out⟩
    · have hki : ¬ (k : Int) < (C.length : Int) := by omega
      have HCA : Hid (C.all capB = true) := by
        unfold Hid
        rw [List.all_eq_true]
        intro y hy
        obtain ⟨j, hj, rfl⟩ := List.mem_iff_getElem.1 hy
        exact HG.out j hj (by omega)
      have HEW2 := Lib.hid (HEW.out HCA.out)
      have HEZ2 := Lib.hid (HEZ.out HCA.out)
      clear HG HEC HEW HEZ HCA
      go_wp2_with fail
      generalize wr = wm at *
      have HB1 : Hid (Blk (wm.alloc (.cells ZB 4)) wm.heap.size 4 (rowV Value.bool S.P.length (seenF W 0))) := by
        refine Blk.new' rfl _ _ ?_
        rw [HZB.out, seenF_zero]
      have hzw := hbw.size
      go_loopw [61] (fun i wr => ∃ k : Nat, k ≤ W.length ∧ i = .int .i64 k ∧ Below wm.heap.size wm wr ∧ wm.heap.size < wr.heap.size ∧ Hid (Blk wr wm.heap.size 4 (rowV Value.bool S.P.length (seenF W k))) ∧ Hid (firstE (wantAt S.P W) k = 0)) (fun i _ => W.length - (intOf i).toNat)
      case atStart => exact ⟨0, by omega, rfl, below_alloc (Below.refl _ _) _, by simp, HB1, rfl⟩
      case round =>
        clear hc hf hki hk
        obtain ⟨q, hq, rfl, hbi, hgi, HB, HG⟩ := hrel
        clear HB1
        have hbi1 := below_step hbw hbi
        obtain ⟨hc, hf⟩ := bcell hbi1
        by_cases hlt : q < W.length
        · have hki : (q : Int) < (W.length : Int) := by omega
          have HWA := Lib.hid (wantAt_eq (P := S.P) hlt)
          have HEK := Lib.hid (HEW2.out q hlt HG.out)
          have HGO : Hid (wantAt S.P W q = 0 → firstE (wantAt S.P W) (q + 1) = 0) := fun h => firstE_go HG.out h
          have HSN := Lib.hid (fun (j : Nat) => seenF_next (j := j) hlt)
          obtain ⟨bw, offw, rfl, hbb, c0, c1, c2⟩ := want_at HSW1.out hlt
          have HWE : Hid (wantAt S.P W q = wantE S.P (ptsL (W.take q)) W[q]) := HWA.out
          clear HWA HG
          generalize W[q] = y at *
          generalize hse : ptsL (W.take q) = seen at *
          have HSE := Lib.hid hse
          clear hse
          have g1 : w.heap.size < wr.heap.size := by omega
          by_cases hp : y.point < 0 ∨ (S.P.length : Int) ≤ y.point
          · have HE : Hid (allocE S C W = 1) := by
              have h := wantE_bad (wbad_out (seen := seen) hp)
              unfold Hid; rw [HEK.out (by rw [HWE.out, h]; decide), HWE.out, h]
            by_cases hp0 : y.point < 0
            · clear hp
              go_wp2_with fail
              go_ret
              exact ⟨ret_int HE.out.symm, below_step hb01 (below_alloc hbi1 _)⟩
            · have hp1 : (S.P.length : Int) ≤ y.point := by omega
              clear hp
              go_wp2_with fail
              go_ret
              exact ⟨ret_int HE.out.symm, below_step hb01 (below_alloc hbi1 _)⟩
          · obtain ⟨j, hj⟩ : ∃ j : Nat, y.point = j := ⟨y.point.toNat, by omega⟩
            have hjl : j < S.P.length := by omega
            have hjli : (j : Int) < (S.P.length : Int) := by omega
            have hjn : ¬ (S.P.length : Int) ≤ (j : Int) := by omega
            have hj0' : ¬ (j : Int) < 0 := by omega
            rw [hj] at c0
            clear hp
            by_cases hph : y.phases < 1 ∨ 7 < y.phases
            · have HE : Hid (allocE S C W = 1) := by
                have h := wantE_bad (wbad_ph (P := S.P) (seen := seen) hph)
                unfold Hid; rw [HEK.out (by rw [HWE.out, h]; decide), HWE.out, h]
              clear hj
              by_cases hp0 : y.phases < 1
              · clear hph
                go_wp2_with fail
                go_ret
                exact ⟨ret_int HE.out.symm, below_step hb01 (below_alloc hbi1 _)⟩
              · have hp1 : 7 < y.phases := by omega
                clear hph
                go_wp2_with fail
                go_ret
                exact ⟨ret_int HE.out.symm, below_step hb01 (below_alloc hbi1 _)⟩
            · have hph1 : ¬ y.phases < 1 := by omega
              have hph7 : ¬ 7 < y.phases := by omega
              have HBD := Lib.hid (wbad_in (seen := seen) hjl hj hph1 hph7)
              have HSN2 := Lib.hid (HSN.out j hj)
              have HJ := Lib.hid hj
              obtain ⟨bp, offp, rfl, hbp, e0, e1, e2, e3, e4⟩ := pnt_at HSP1.out hjl
              clear hph e0 e1 e3 e4 HSN hj
              generalize S.P[j].phases = pp at *
              obtain ⟨W2, hW2, hb2, hg2, hx2⟩ := box1 wr #[.int .i64 j, .int .i64 y.phases, .int .i64 y.top] 36
              have hbw2 := hbi.trans (hb2.mono hbi.size)
              have hb12 := below_step hbi1 hb2
              have HB2 := Lib.hid (HB.out.below hb2 hgi)
              have b0 : W2.cell? ⟨wm.heap.size, j, none⟩ = some (.bool (decide ((j : Int) ∈ seen))) := by
                have h := (HB2.out.cell j).trans (rowV_at hjl)
                unfold seenF at h
                rw [HSE.out] at h
                exact h
              have E2 := (hb12.cell (p := ⟨bp, offp + j * 5 + 2, none⟩) hbp).trans e2
              have X1 : ∀ j, W2.cell? ⟨w.heap.size, j, none⟩ = (#[.string S.name, .slice A S.F.length c, .slice (some ⟨bp, offp, none⟩) S.P.length d] : Array Value)[j]? := fun j => (hb12.cell (p := ⟨w.heap.size, j, none⟩) hgx).trans (hx1 j)
              have hbr := Below.refl W2.heap.size W2
              have hz12 := hb12.size
              have hzb2 := hb2.size
              have g3 : w.heap.size < W2.heap.size := by omega
              have g4 : bp < W2.heap.size := by omega
              have g5 : wm.heap.size < W2.heap.size := by omega
              cases hm : maskB y.phases pp with
              | false =>
                have HE : Hid (allocE S C W = 1) := by
                  have h := wantE_bad (P := S.P) (seen := seen) (x := y) (by rw [HBD.out, hm]; rfl)
                  unfold Hid; rw [HEK.out (by rw [HWE.out, h]; decide), HWE.out, h]
                have hm2 : (bits .andNot .i64 y.phases pp != 0) = true := by unfold maskB at hm; simpa using hm
                clear hm
                go_wp2_with fail
                rw [← hW2]
                clear hW2 hc hf c0 c1 c2
                (refine wp_region_kept W2 (by kernel_rfl) (by kernel_rfl) (by assumption) ?_; (repeat (go_big_quiet_step ((first | fail)))); refine wpQuiet_nil ?_; intro _ hw'; obtain ⟨x9, hw''⟩ := hw'; subst hw''; have hk9 := after_kept x9; generalize after x9 = w9 at *)
                obtain ⟨hc9, hb9⟩ := hk9
                clear hc9
                go_wp2_with fail
                go_ret
                exact ⟨ret_int HE.out.symm, below_step hb01 (below_step hb12 hb9)⟩
              | true =>
                have hm2 : (bits .andNot .i64 y.phases pp != 0) = false := by unfold maskB at hm; simpa using hm
                cases hs : decide ((j : Int) ∈ seen) with
                | true =>
                  have HE : Hid (allocE S C W = 1) := by
                    have h := wantE_bad (P := S.P) (seen := seen) (x := y) (by rw [HBD.out, hm, hs]; rfl)
                    unfold Hid; rw [HEK.out (by rw [HWE.out, h]; decide), HWE.out, h]
                  rw [hs] at b0
                  clear hm hs
                  go_wp2_with fail
                  rw [← hW2]
                  clear hW2 hc hf c0 c1 c2
                  (refine wp_region_kept W2 (by kernel_rfl) (by kernel_rfl) (by assumption) ?_; (repeat (go_big_quiet_step ((first | fail)))); refine wpQuiet_nil ?_; intro _ hw'; obtain ⟨x9, hw''⟩ := hw'; subst hw''; have hk9 := after_kept x9; generalize after x9 = w9 at *)
                  obtain ⟨hc9, hb9⟩ := hk9
                  clear hc9
                  go_wp2_with fail
                  go_ret
                  exact ⟨ret_int HE.out.symm, below_step hb01 (below_step hb12 hb9)⟩
                | false =>
                  have HWB : Hid (wantBad S.P seen y = false) := by unfold Hid; rw [HBD.out, hm, hs]; rfl
                  rw [hs] at b0
                  clear hm hs
                  go_wp2_with fail
                  rw [← hW2]
                  clear hW2 hc hf c0 c1 c2
                  (refine wp_region_kept W2 (by kernel_rfl) (by kernel_rfl) (by assumption) ?_; (repeat (go_big_quiet_step ((first | fail)))); refine wpQuiet_nil ?_; intro _ hw'; obtain ⟨x9, hw''⟩ := hw'; subst hw''; have hk9 := after_kept x9; generalize after x9 = w9 at *)
                  obtain ⟨hc9, hb9⟩ := hk9
                  clear hc9
                  have y9 : ∀ j', w9.cell? ⟨wr.heap.size, j', none⟩ = (#[.int .i64 j, .int .i64 y.phases, .int .i64 y.top] : Array Value)[j']? := fun j' => (hb9.cell (p := ⟨wr.heap.size, j', none⟩) hg2).trans (hx2 j')
                  have HB9 := Lib.hid (HB2.out.below hb9 g5)
                  have hbw9 := hbw2.trans (hb9.mono hbw2.size)
                  have hb19 := below_step hb12 hb9
                  have f9 := HB9.out.free j
                  have b9 := (HB9.out.cell j).trans (rowV_at hjl)
                  have hz9 := hb9.size
                  clear hx2 X1 E2 b0
                  by_cases ht : powB y.top = true
                  · have ht2 := powB_iff.1 ht
                    have ht0 : ¬ y.top < 0 := by omega
                    have ht1 : ¬ 1048576 < y.top := by omega
                    have HN := Lib.hid (HGO.out (by rw [HWE.out]; exact wantE_ok HWB.out ht))
                    have HBN : Hid (Blk (w9.setCell ⟨wm.heap.size, j, none⟩ (.bool true)) wm.heap.size 4 (rowV Value.bool S.P.length (seenF W (q + 1)))) := by
                      have h := HB9.out.set j (.bool true)
                      rw [rowV_set hjl, ← HSN2.out] at h
                      exact h
                    have hbs := hbw9.setCell (p := ⟨wm.heap.size, j, none⟩) (Nat.le_refl _) (.bool true)
                    clear ht ht2
                    go_wp2_with fail
                    go_roundw
                    case measure => simp [intOf]; omega
                    case rel => exact ⟨q + 1, by omega, by go_num, hbs, by simp [World.setCell]; omega, HBN, HN.out⟩
                  · have htf : powB y.top = false := by simpa using ht
                    have HE : Hid (allocE S C W = 2) := by
                      have h := wantE_top HWB.out htf
                      unfold Hid; rw [HEK.out (by rw [HWE.out, h]; decide), HWE.out, h]
                    have ht2 : y.top < 0 ∨ 1048576 < y.top := by
                      have : ¬ (0 ≤ y.top ∧ y.top ≤ 1048576) := fun h => ht (powB_iff.2 h)
                      omega
                    clear ht htf
                    by_cases ht0 : y.top < 0
                    · clear ht2
                      go_wp2_with fail
                      go_ret
                      exact ⟨ret_int HE.out.symm, below_step hb01 hb19⟩
                    · have ht1 : 1048576 < y.top := by omega
                      clear ht2
                      go_wp2_with fail
                      go_ret
                      exact ⟨ret_int HE.out.symm, below_step hb01 hb19⟩
        · have hki : ¬ (q : Int) < (W.length : Int) := by omega
          have HE := Lib.hid (HEZ2.out (by have := HG.out; rwa [show q = W.length by omega] at this))
          go_wp2_with fail
          go_ret
          exact ⟨ret_int HE.out.symm, below_step hb01 hbi1⟩

end Go.Proofs.YtlpjniejbblcnaaDoor

namespace Go.Proofs.YtlpjniejbblcnaaDoor
open Go.RowKit Go.Lib Go.Maps
attribute [local go_sem] after_cell
set_option linter.unusedVariables false

set_option maxRecDepth 100000 in
theorem in17_any (x n : Int) (w : World) : Calls Tryd.prog 49 #[.int .i64 x, .int .i64 n] w fun e w' => e = .returned (.bool (decide (0 ≤ x) && decide (x ≤ n))) ∧ w = w' := by
  by_cases h : 0 ≤ x
  all_goals go_enter Tryd.func49, Tryd.ntmps49
  all_goals go_wp2_with fail
  all_goals go_ret
  all_goals exact ⟨ret_bool (by first | (simp [h]; done) | (simp; omega)), rfl⟩
theorem in17_lim (x : Int) (w : World) : Calls Tryd.prog 49 #[.int .i64 x, .int .i64 1073741824] w fun e w' => e = .returned (.bool (limB x)) ∧ w = w' := in17_any x 1073741824 w
theorem in17_pow {b : Bool} (x : Int) (w : World) (h : powB x = b) : Calls Tryd.prog 49 #[.int .i64 x, .int .i64 1048576] w fun e w' => e = .returned (.bool b) ∧ w = w' := h ▸ in17_any x 1048576 w
theorem seen_mem {W : List WantR} {q m : Nat} (hm : m < q) (hq : m < W.length) : W[m].point ∈ ptsL (W.take q) := by
  unfold ptsL
  exact List.mem_map.2 ⟨W[m], List.mem_iff_getElem.2 ⟨m, by rw [List.length_take]; omega, by rw [List.getElem_take]⟩, rfl⟩
theorem seen_none {W : List WantR} {q : Nat} {p : Int} (h : ∀ m (hm : m < W.length), m < q → W[m].point ≠ p) : p ∉ ptsL (W.take q) := fun hp => by
  unfold ptsL at hp
  obtain ⟨x, hx, he⟩ := List.mem_map.1 hp
  obtain ⟨m, hm, rfl⟩ := List.mem_iff_getElem.1 hx
  rw [List.getElem_take] at he
  rw [List.length_take] at hm
  exact h m (by omega) (by omega) he

set_option maxRecDepth 100000 in
set_option maxHeartbeats 12800000 in
theorem rcheck_any (S : SiteR) (C : List CapR) (W : List WantR) (fv pv cv wv : Value) (w : World) (hF : IsSl w 5 fv (S.F.map Feed.cells)) (hP : IsSl w 5 pv (S.P.map Pnt.cells)) (hC : IsSl w 4 cv (C.map CapR.cells)) (hW : IsSl w 3 wv (W.map WantR.cells))
    (hn : S.name.size ≤ maxLen) (hfF : ∀ f ∈ S.F, f.fits) (hfP : ∀ p ∈ S.P, p.fits) (hlC : C.length ≤ 1000) (hlW : W.length ≤ 1000) :
    Calls Tryd.prog 30 #[.agg #[.string S.name, fv, pv], cv, wv] w fun e w' => e = .returned (.int .i64 (allocE S C W)) ∧ Below w.heap.size w w' := by
  have HIF := Lib.hid hF
  have HIP := Lib.hid hP
  obtain ⟨A, c, rfl, hlc, hcm, hsl⟩ := islen' hF
  obtain ⟨B, d, rfl, hld, hdm, hsp⟩ := islen' hP
  obtain ⟨C', c', rfl, hlc', hcm', hsc⟩ := islen' hC
  obtain ⟨D, d', rfl, hld', hdm', hsw⟩ := islen' hW
  obtain ⟨W0, hW0, hb0, hg0, hx0⟩ := box1 w #[.string S.name, .slice A S.F.length c, .slice B S.P.length d] 30
  have HV := Lib.hid (refSiteValid_any S _ _ W0 (HIF.out.below hb0) (HIP.out.below hb0) hn hfF hfP)
  have HSC := Lib.hid (hsc.below hb0)
  have HSP := Lib.hid (hsp.below hb0)
  have HSW := Lib.hid (hsw.below hb0)
  clear hF hP hC hW hsl hsp hsc hsw hfF hfP hlc hld hlc' hld' hcm hdm hcm' hdm' hn HIF HIP
  cases hv : (siteE S != 0) with
  | true =>
    have HE := Lib.hid (allocE_site (C := C) (W := W) (by simpa using hv : siteE S ≠ 0))
    go_enter Tryd.func30, Tryd.ntmps30
    go_wp2_with fail
    rw [← hW0]
    clear hW0
    refine HV.out.mono ?_
    rintro e w1 ⟨rfl, hb1⟩
    go_wp2_with fail
    go_ret
    exact ⟨ret_int HE.out.symm, below_step hb0 hb1⟩
  | false =>
  have h0 : siteE S = 0 := by simpa using hv
  by_cases hcl : C.length = S.F.length
  rotate_left 1
  · have hne : ((C.length : Int) != (S.F.length : Int)) = true := by simp; omega
    have HE := Lib.hid (allocE_len (W := W) h0 hcl)
    clear h0 hcl
    go_enter Tryd.func30, Tryd.ntmps30
    go_wp2_with fail
    rw [← hW0]
    clear hW0
    refine HV.out.mono ?_
    rintro e w1 ⟨rfl, hb1⟩
    obtain ⟨hc, hf⟩ := bcell hb1
    go_wp2_with fail
    go_ret
    exact ⟨ret_int HE.out.symm, below_step hb0 hb1⟩
  have hne : ((C.length : Int) != (S.F.length : Int)) = false := by simp; omega
  have HOK := Lib.hid (siteE_ok h0)
  have hlP := HOK.out.lP
  have HEC := Lib.hid (fun (k : Nat) (hk : k < C.length) => allocE_cap (W := W) h0 hcl hk)
  have HEW := Lib.hid (fun (hc : C.all capB = true) (k : Nat) (hk : k < W.length) => allocE_want h0 hcl hc hk)
  have HEZ := Lib.hid (fun (hc : C.all capB = true) => allocE_zero (W := W) h0 hcl hc)
  clear h0 hcl
  go_enter Tryd.func30, Tryd.ntmps30
  go_wp2_with fail
  rw [← hW0]
  clear hW0
  refine HV.out.mono ?_
  rintro e w1 ⟨rfl, hb1⟩
  obtain ⟨hc, hf⟩ := bcell hb1
  have hb01 := below_step hb0 hb1
  have hgx : w.heap.size < w1.heap.size := Nat.lt_of_lt_of_le hg0 hb1.size
  have hx1 : ∀ j, w1.cell? ⟨w.heap.size, j, none⟩ = (#[.string S.name, .slice A S.F.length c, .slice B S.P.length d] : Array Value)[j]? := fun j => (hc _ _ hg0).trans (hx0 j)
  clear hc hf hx0
  have HSC1 := Lib.hid (HSC.out.below hb1)
  have HSP1 := Lib.hid (HSP.out.below hb1)
  have HSW1 := Lib.hid (HSW.out.below hb1)
  clear HSC HSP HSW HV hb0 hb1 hg0
  go_wp2_with fail
  go_loopw [8] (fun i wr => ∃ k : Nat, k ≤ C.length ∧ i = .int .i64 k ∧ Below w1.heap.size w1 wr ∧ Hid (∀ j (h : j < C.length), j < k → capB C[j] = true)) (fun i _ => C.length - (intOf i).toNat)
  case atStart => exact ⟨0, by omega, rfl, Below.refl _ _, fun j _ h => by omega⟩
  case round =>
    obtain ⟨k, hk, rfl, hbw, HG⟩ := hrel
    obtain ⟨hc, hf⟩ := bcell hbw
    by_cases hlt : k < C.length
    · have hki : (k : Int) < (C.length : Int) := by omega
      obtain ⟨b, off, rfl, hbb, c0, c1, c2, c3⟩ := cap_at HSC1.out hlt
      have HEK := Lib.hid (HEC.out k hlt)
      have HGN : Hid (capB C[k] = true → ∀ j (h : j < C.length), j < k + 1 → capB C[j] = true) := fun h j hj hjk => by
        by_cases q : j = k
        · subst q; exact h
        · exact HG.out j hj (by omega)
      have hcb : capB C[k] = (limB C[k].a && (limB C[k].b && (limB C[k].c && limB C[k].t))) := rfl
      generalize C[k] = x at *
      have HCB := Lib.hid hcb
      have hb2 := below_alloc hbw (.cells #[.int .i64 x.a, .int .i64 x.b, .int .i64 x.c, .int .i64 x.t] 41)
      clear hcb
      cases ha : limB x.a with
      | false =>
        have HE := Lib.hid (HEK.out (by rw [HCB.out, ha]; rfl))
        go_wp2_with (go_at_call 49; refine (in17_lim _ _).mono ?_; rintro e w' ⟨rfl, rfl⟩; (first | rw [ha] | rw [hbl] | rw [hcl] | rw [htl]))
        go_ret
        exact ⟨ret_int HE.out.symm, below_step hb01 hb2⟩
      | true =>
        cases hbl : limB x.b with
        | false =>
          have HE := Lib.hid (HEK.out (by rw [HCB.out, ha, hbl]; rfl))
          go_wp2_with (go_at_call 49; refine (in17_lim _ _).mono ?_; rintro e w' ⟨rfl, rfl⟩; (first | rw [ha] | rw [hbl] | rw [hcl] | rw [htl]))
          go_ret
          exact ⟨ret_int HE.out.symm, below_step hb01 hb2⟩
        | true =>
          cases hcl : limB x.c with
          | false =>
            have HE := Lib.hid (HEK.out (by rw [HCB.out, ha, hbl, hcl]; rfl))
            go_wp2_with (go_at_call 49; refine (in17_lim _ _).mono ?_; rintro e w' ⟨rfl, rfl⟩; (first | rw [ha] | rw [hbl] | rw [hcl] | rw [htl]))
            go_ret
            exact ⟨ret_int HE.out.symm, below_step hb01 hb2⟩
          | true =>
            cases htl : limB x.t with
            | false =>
              have HE := Lib.hid (HEK.out (by rw [HCB.out, ha, hbl, hcl, htl]; rfl))
              go_wp2_with (go_at_call 49; refine (in17_lim _ _).mono ?_; rintro e w' ⟨rfl, rfl⟩; (first | rw [ha] | rw [hbl] | rw [hcl] | rw [htl]))
              go_ret
              exact ⟨ret_int HE.out.symm, below_step hb01 hb2⟩
            | true =>
              have HN := Lib.hid (HGN.out (by rw [HCB.out, ha, hbl, hcl, htl]; rfl))
              go_wp2_with (go_at_call 49; refine (in17_lim _ _).mono ?_; rintro e w' ⟨rfl, rfl⟩; (first | rw [ha] | rw [hbl] | rw [hcl] | rw [htl]))
              go_roundw
              case measure => simp [intOf] <;> omega
              case rel => exact ⟨k + 1, by omega, by go_num, hb2, HN.out⟩
    · have hki : ¬ (k : Int) < (C.length : Int) := by omega
      have HCA : Hid (C.all capB = true) := by
        unfold Hid
        rw [List.all_eq_true]
        intro y hy
        obtain ⟨j, hj, rfl⟩ := List.mem_iff_getElem.1 hy
        exact HG.out j hj (by omega)
      have HEW2 := Lib.hid (HEW.out HCA.out)
      have HEZ2 := Lib.hid (HEZ.out HCA.out)
      clear HG HEC HEW HEZ HCA
      go_wp2_with fail
      go_loopw [10] (fun i wi => ∃ k : Nat, k ≤ W.length ∧ i = .int .i64 k ∧ Below w1.heap.size w1 wi ∧ Hid (firstE (wantAt S.P W) k = 0)) (fun i _ => W.length - (intOf i).toNat)
      case atStart => exact ⟨0, by omega, rfl, hbw, rfl⟩
      case round =>
        clear hc hf hki hk hbw
        obtain ⟨q, hq, rfl, hbi1, HG⟩ := hrel
        obtain ⟨hc, hf⟩ := bcell hbi1
        by_cases hlt : q < W.length
        · have hki : (q : Int) < (W.length : Int) := by omega
          have HWA := Lib.hid (wantAt_eq (P := S.P) hlt)
          have HEK := Lib.hid (HEW2.out q hlt HG.out)
          have HGO : Hid (wantAt S.P W q = 0 → firstE (wantAt S.P W) (q + 1) = 0) := fun h => firstE_go HG.out h
          obtain ⟨bw, offw, rfl, hbb, c0, c1, c2⟩ := want_at HSW1.out hlt
          have HWE : Hid (wantAt S.P W q = wantE S.P (ptsL (W.take q)) W[q]) := HWA.out
          clear HWA HG
          generalize W[q] = y at *
          generalize hse : ptsL (W.take q) = seen at *
          have HSE := Lib.hid hse
          clear hse
          obtain ⟨W2, hW2, hb2, hg2, hx2⟩ := box1 wr #[.int .i64 y.point, .int .i64 y.phases, .int .i64 y.top] 36
          have hb12 := below_step hbi1 hb2
          have hz12 := hb12.size
          have X1 : ∀ j, W2.cell? ⟨w.heap.size, j, none⟩ = (#[.string S.name, .slice A S.F.length c, .slice B S.P.length d] : Array Value)[j]? := fun j => (hb12.cell (p := ⟨w.heap.size, j, none⟩) hgx).trans (hx1 j)
          have hbr := Below.refl W2.heap.size W2
          have g3 : w.heap.size < W2.heap.size := by omega
          by_cases hbad : y.point < 0 ∨ (S.P.length : Int) ≤ y.point ∨ y.phases < 1 ∨ 7 < y.phases
          · have HE : Hid (allocE S C W = 1) := by
              have h : wantBad S.P seen y = true := by
                rcases hbad with h | h | h | h
                · exact wbad_out (.inl h)
                · exact wbad_out (.inr h)
                · exact wbad_ph (.inl h)
                · exact wbad_ph (.inr h)
              have h := wantE_bad h
              unfold Hid; rw [HEK.out (by rw [HWE.out, h]; decide), HWE.out, h]
            have hcase : y.point < 0 ∨ (¬ y.point < 0 ∧ (S.P.length : Int) ≤ y.point) ∨ (¬ y.point < 0 ∧ ¬ (S.P.length : Int) ≤ y.point ∧ y.phases < 1) ∨ (¬ y.point < 0 ∧ ¬ (S.P.length : Int) ≤ y.point ∧ ¬ y.phases < 1 ∧ 7 < y.phases) := by omega
            clear hbad
            rcases hcase with h1 | ⟨h1, h2⟩ | ⟨h1, h2, h3⟩ | ⟨h1, h2, h3, h4⟩
            · have d1 : decide (y.point < 0) = true := decide_eq_true h1
              go_wp2_with fail
              rw [← hW2]
              clear hW2 hc hf c0 c1 c2
              (refine wp_region_kept W2 (by kernel_rfl) (by kernel_rfl) (by assumption) ?_; (repeat (go_big_quiet_step ((first | fail)))); refine wpQuiet_nil ?_; intro _ hw'; obtain ⟨x9, hw''⟩ := hw'; subst hw''; have hk9 := after_kept x9; generalize after x9 = w9 at *)
              obtain ⟨hc9, hb9⟩ := hk9
              clear hc9
              go_wp2_with fail
              go_ret
              exact ⟨ret_int HE.out.symm, below_step hb01 (below_step hb12 hb9)⟩
            · have d1 : decide (y.point < 0) = false := decide_eq_false h1
              have d2 : decide ((S.P.length : Int) ≤ y.point) = true := decide_eq_true h2
              go_wp2_with fail
              rw [← hW2]
              clear hW2 hc hf c0 c1 c2
              (refine wp_region_kept W2 (by kernel_rfl) (by kernel_rfl) (by assumption) ?_; (repeat (go_big_quiet_step ((first | fail)))); refine wpQuiet_nil ?_; intro _ hw'; obtain ⟨x9, hw''⟩ := hw'; subst hw''; have hk9 := after_kept x9; generalize after x9 = w9 at *)
              obtain ⟨hc9, hb9⟩ := hk9
              clear hc9
              go_wp2_with fail
              go_ret
              exact ⟨ret_int HE.out.symm, below_step hb01 (below_step hb12 hb9)⟩
            · have d1 : decide (y.point < 0) = false := decide_eq_false h1
              have d2 : decide ((S.P.length : Int) ≤ y.point) = false := decide_eq_false h2
              have d3 : decide (y.phases < 1) = true := decide_eq_true h3
              go_wp2_with fail
              rw [← hW2]
              clear hW2 hc hf c0 c1 c2
              (refine wp_region_kept W2 (by kernel_rfl) (by kernel_rfl) (by assumption) ?_; (repeat (go_big_quiet_step ((first | fail)))); refine wpQuiet_nil ?_; intro _ hw'; obtain ⟨x9, hw''⟩ := hw'; subst hw''; have hk9 := after_kept x9; generalize after x9 = w9 at *)
              obtain ⟨hc9, hb9⟩ := hk9
              clear hc9
              go_wp2_with fail
              go_ret
              exact ⟨ret_int HE.out.symm, below_step hb01 (below_step hb12 hb9)⟩
            · have d1 : decide (y.point < 0) = false := decide_eq_false h1
              have d2 : decide ((S.P.length : Int) ≤ y.point) = false := decide_eq_false h2
              have d3 : decide (y.phases < 1) = false := decide_eq_false h3
              have d4 : decide (7 < y.phases) = true := decide_eq_true h4
              go_wp2_with fail
              rw [← hW2]
              clear hW2 hc hf c0 c1 c2
              (refine wp_region_kept W2 (by kernel_rfl) (by kernel_rfl) (by assumption) ?_; (repeat (go_big_quiet_step ((first | fail)))); refine wpQuiet_nil ?_; intro _ hw'; obtain ⟨x9, hw''⟩ := hw'; subst hw''; have hk9 := after_kept x9; generalize after x9 = w9 at *)
              obtain ⟨hc9, hb9⟩ := hk9
              clear hc9
              go_wp2_with fail
              go_ret
              exact ⟨ret_int HE.out.symm, below_step hb01 (below_step hb12 hb9)⟩
          · obtain ⟨j, hj⟩ : ∃ j : Nat, y.point = j := ⟨y.point.toNat, by omega⟩
            have hjl : j < S.P.length := by omega
            have hjli : (j : Int) < (S.P.length : Int) := by omega
            have hjn : ¬ (S.P.length : Int) ≤ (j : Int) := by omega
            have hj0' : ¬ (j : Int) < 0 := by omega
            have hph1 : ¬ y.phases < 1 := by omega
            have hph7 : ¬ 7 < y.phases := by omega
            have d1 : decide ((j : Int) < 0) = false := decide_eq_false hj0'
            have d2 : decide (S.P.length ≤ j) = false := decide_eq_false (by omega)
            have d3 : decide (y.phases < 1) = false := decide_eq_false hph1
            have d4 : decide (7 < y.phases) = false := decide_eq_false hph7
            have HBD := Lib.hid (wbad_in (seen := seen) hjl hj hph1 hph7)
            obtain ⟨bp, offp, hB, hbp, e0, e1, e2, e3, e4⟩ := pnt_at HSP1.out hjl
            subst hB
            have E2 := (hb12.cell (p := ⟨bp, offp + j * 5 + 2, none⟩) hbp).trans e2
            have g4 : bp < W2.heap.size := by omega
            have HJ := Lib.hid hj
            rw [hj] at c0 hx2 hW2
            clear hbad e0 e1 e2 e3 e4 hj
            generalize S.P[j].phases = pp at *
            cases hm : maskB y.phases pp with
            | false =>
              have HE : Hid (allocE S C W = 1) := by
                have h := wantE_bad (P := S.P) (seen := seen) (x := y) (by rw [HBD.out, hm]; rfl)
                unfold Hid; rw [HEK.out (by rw [HWE.out, h]; decide), HWE.out, h]
              have hm2 : (bits .andNot .i64 y.phases pp != 0) = true := by unfold maskB at hm; simpa using hm
              clear hm
              go_wp2_with fail
              rw [← hW2]
              clear hW2 hc hf c0 c1 c2
              (refine wp_region_kept W2 (by kernel_rfl) (by kernel_rfl) (by assumption) ?_; (repeat (go_big_quiet_step ((first | fail)))); refine wpQuiet_nil ?_; intro _ hw'; obtain ⟨x9, hw''⟩ := hw'; subst hw''; have hk9 := after_kept x9; generalize after x9 = w9 at *)
              obtain ⟨hc9, hb9⟩ := hk9
              clear hc9
              go_wp2_with fail
              go_ret
              exact ⟨ret_int HE.out.symm, below_step hb01 (below_step hb12 hb9)⟩
            | true =>
              have hm2 : (bits .andNot .i64 y.phases pp != 0) = false := by unfold maskB at hm; simpa using hm
              have HBD2 : Hid (wantBad S.P seen y = !(!decide ((j : Int) ∈ seen))) := by unfold Hid; rw [HBD.out, hm]; rfl
              clear hm
              go_wp2_with fail
              rw [← hW2]
              clear hW2 hc hf c0 c1 c2
              (refine wp_region_kept W2 (by kernel_rfl) (by kernel_rfl) (by assumption) ?_; (repeat (go_big_quiet_step ((first | fail)))); refine wpQuiet_nil ?_; intro _ hw'; obtain ⟨x9, hw''⟩ := hw'; subst hw''; have hk9 := after_kept x9; generalize after x9 = w9 at *)
              obtain ⟨hc9, hb9⟩ := hk9
              have hb19 := below_step hb12 hb9
              have y9 : ∀ j', w9.cell? ⟨wr.heap.size, j', none⟩ = (#[.int .i64 j, .int .i64 y.phases, .int .i64 y.top] : Array Value)[j']? := fun j' => (hb9.cell (p := ⟨wr.heap.size, j', none⟩) hg2).trans (hx2 j')
              have hg9 : wr.heap.size < w9.heap.size := Nat.lt_of_lt_of_le hg2 hb9.size
              clear hc9 hx2 X1 E2
              go_wp2_with fail
              generalize wr = wm at *
              go_loopw [12] (fun i wi => ∃ m : Nat, m ≤ q ∧ i = .int .i64 m ∧ Below w9.heap.size w9 wi ∧ Hid (∀ u (hu : u < W.length), u < m → W[u].point ≠ (j : Int))) (fun i _ => q - (intOf i).toNat)
              case atStart => exact ⟨0, by omega, rfl, Below.refl _ _, fun u _ h => by omega⟩
              case round =>
                obtain ⟨m, hmq, rfl, hbm, HL⟩ := hrel
                have hb1m := below_step hb19 hbm
                have hzm := hbm.size
                have hz1m := hb1m.size
                have Y0 := (hbm.cell (p := ⟨wm.heap.size, 0, none⟩) hg9).trans (y9 0)
                have g6 : wm.heap.size < wr.heap.size := by omega
                by_cases hml : m < q
                · have hmi : (m : Int) < (q : Int) := by omega
                  have hmW : m < W.length := by omega
                  have hmWi : (m : Int) < (W.length : Int) := by omega
                  obtain ⟨b2, off2, hA2, hbb2, d0, d1, d2⟩ := want_at HSW1.out hmW
                  injection hA2 with hA2
                  injection hA2 with hA3 hA4
                  subst hA3 hA4
                  have D0 := (hb1m.cell (p := ⟨bw, offw + m * 3, none⟩) hbb).trans d0
                  have g7 : bw < wr.heap.size := by omega
                  have hbr := Below.refl wr.heap.size wr
                  have HME := Lib.hid (seen_mem (W := W) hml hmW)
                  have HLN : Hid (W[m].point ≠ (j : Int) → ∀ u (hu : u < W.length), u < m + 1 → W[u].point ≠ (j : Int)) := fun h u hu hum => by
                    by_cases e : u = m
                    · subst e; exact h
                    · exact HL.out u hu (by omega)
                  clear d0 d1 d2
                  generalize W[m].point = p at *
                  by_cases hp : p = (j : Int)
                  · subst hp
                    have HE : Hid (allocE S C W = 1) := by
                      have h := wantE_bad (P := S.P) (seen := seen) (x := y) (by rw [HBD2.out, decide_eq_true (by rw [← HSE.out]; exact HME.out)]; rfl)
                      unfold Hid; rw [HEK.out (by rw [HWE.out, h]; decide), HWE.out, h]
                    have hd1 : ((j : Int) == (j : Int)) = true := by simp
                    go_wp2_with fail
                    (refine wp_region_kept wr (by kernel_rfl) (by kernel_rfl) (by assumption) ?_; (repeat (go_big_quiet_step ((first | fail)))); refine wpQuiet_nil ?_; intro _ hw'; obtain ⟨x9, hw''⟩ := hw'; subst hw''; have hk9 := after_kept x9; generalize after x9 = w9 at *)
                    obtain ⟨hc9, hb9⟩ := hk9
                    clear hc9
                    go_wp2_with fail
                    go_ret
                    exact ⟨ret_int HE.out.symm, below_step hb01 (below_step hb1m hb9)⟩
                  · have HN := Lib.hid (HLN.out hp)
                    have hd1 : (p == (j : Int)) = false := by simpa using hp
                    go_wp2_with fail
                    (refine wp_region_kept wr (by kernel_rfl) (by kernel_rfl) (by assumption) ?_; (repeat (go_big_quiet_step ((first | fail)))); refine wpQuiet_nil ?_; intro _ hw'; obtain ⟨x9, hw''⟩ := hw'; subst hw''; have hk9 := after_kept x9; generalize after x9 = w9 at *)
                    obtain ⟨hc9, hb9⟩ := hk9
                    clear hc9
                    go_wp2_with fail
                    go_roundw
                    case measure => simp [intOf] <;> omega
                    case rel => exact ⟨m + 1, by omega, by go_num, below_step hbm hb9, HN.out⟩
                · have hmi : ¬ (m : Int) < (q : Int) := by omega
                  have HWB : Hid (wantBad S.P seen y = false) := by
                    unfold Hid
                    rw [HBD2.out, decide_eq_false (by rw [← HSE.out]; exact seen_none (fun u hu h => HL.out u hu (by omega)))]; rfl
                  have Y2 := (hbm.cell (p := ⟨wm.heap.size, 2, none⟩) hg9).trans (y9 2)
                  cases ht : powB y.top with
                  | true =>
                    have HN := Lib.hid (HGO.out (by rw [HWE.out]; exact wantE_ok HWB.out ht))
                    go_wp2_with (go_at_call 49; refine (in17_pow _ _ ht).mono ?_; rintro e w' ⟨rfl, rfl⟩)
                    go_roundw
                    case measure => simp [intOf] <;> omega
                    case rel => exact ⟨q + 1, by omega, by go_num, hb1m, HN.out⟩
                  | false =>
                    have HE : Hid (allocE S C W = 2) := by
                      have h := wantE_top HWB.out ht
                      unfold Hid; rw [HEK.out (by rw [HWE.out, h]; decide), HWE.out, h]
                    go_wp2_with (go_at_call 49; refine (in17_pow _ _ ht).mono ?_; rintro e w' ⟨rfl, rfl⟩)
                    go_ret
                    exact ⟨ret_int HE.out.symm, below_step hb01 hb1m⟩
        · have hki : ¬ (q : Int) < (W.length : Int) := by omega
          have HE := Lib.hid (HEZ2.out (by have := HG.out; rwa [show q = W.length by omega] at this))
          go_wp2_with fail
          go_ret
          exact ⟨ret_int HE.out.symm, below_step hb01 hbi1⟩

end Go.Proofs.YtlpjniejbblcnaaDoor
