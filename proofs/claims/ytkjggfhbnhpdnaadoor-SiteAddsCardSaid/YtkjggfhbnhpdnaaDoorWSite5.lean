/-
  Walks: a point's error, of the reference.
-/
import Derived.Test.YtkjggfhbnhpdnaaDoorWSite4
namespace Go.Proofs.YtkjggfhbnhpdnaaDoor
open Go.RowKit Go.Lib Go.Maps
set_option linter.unusedVariables false

set_option maxRecDepth 100000 in
set_option maxHeartbeats 6400000 in
theorem refPoint_any (S : SiteR) (fv pv : Value) (i : Nat) (w : World) (hF : IsSl w 5 fv (S.F.map Feed.cells)) (hP : IsSl w 5 pv (S.P.map Pnt.cells)) (hi : i < S.P.length) (hl1 : S.F.length ≤ 1000000) (hl2 : S.P.length ≤ 1000000) (hfF : ∀ f ∈ S.F, f.fits) (hfP : ∀ p ∈ S.P, p.fits) :
    Calls Tryd.prog 30 #[.agg #[.string S.name, fv, pv], .int .i64 i] w fun e w' => e = .returned (.int .i64 (pntAt S.F S.P i)) ∧ Below w.heap.size w w' := by
  have HIF := Lib.hid hF
  have HIP := Lib.hid hP
  obtain ⟨A, c, rfl, hlc, hcm, hsl⟩ := islen' hF
  obtain ⟨B, d, rfl, hld, hdm, hsp⟩ := islen' hP
  have hki : (i : Int) < (S.P.length : Int) := by omega
  obtain ⟨b, off, rfl, hbb, c0, c1, c2, c3, c4⟩ := pnt_at hsp hi
  have hft := hfP _ (List.getElem_mem hi)
  have HFE := Lib.hid (pntAt_eq (F := S.F) hi)
  have HKN := Lib.hid (fun (name : ByteArray) (w : World) hF hP hnm => known_any S.name S.F S.P (.slice A S.F.length c) (.slice (some ⟨b, off, none⟩) S.P.length d) S.F.length i name w hF hP (by omega) (by omega) hl1 hl2 hfF hfP hnm)
  clear hF hP hsl hsp hfF hfP hlc hld hcm hdm
  generalize S.P[i] = x at *
  rw [List.take_length] at HKN
  obtain ⟨W2, hW2, hb02, hgx3, hgx2, hx02, hx2⟩ := box2 w #[.string S.name, .slice A S.F.length c, .slice (some ⟨b, off, none⟩) S.P.length d] 25 #[.string x.name, .int .i64 x.feeder, .int .i64 x.phases, .int .i64 x.rated, .int .i64 x.least] 58
  generalize keysF S.F ++ keysP (S.P.take i) = ks at *
  go_enter Tryd.func30, Tryd.ntmps30
  go_wp2_with fail
  rw [← hW2]
  clear hbb c0 c1 c2 c3 c4 hW2
  refine (refValid_any x.name _ hft).mono ?_
  rintro e w3 ⟨rfl, hd3⟩
  have hb3 := drewN_below hd3
  have hb03 := below_step hb02 hb3
  obtain ⟨hc, hf⟩ := bcell hb3
  cases hv : (!validL x.name.data.toList) with
  | true =>
    have HE : Hid (pntAt S.F S.P i = 4) := by unfold Hid; rw [HFE.out, pnt_name (by rw [name_bad hv]; simp), name_bad hv]
    rw [show validL x.name.data.toList = false by simpa using hv]
    go_wp2_with fail
    go_ret
    exact ⟨ret_int (by rw [HE.out]), hb03⟩
  | false =>
  rw [show validL x.name.data.toList = true by simpa using hv]
  go_wp2_with fail
  refine (HKN.out x.name _ (HIF.out.below hb03) (HIP.out.below hb03) hft).mono ?_
  rintro e w4 ⟨rfl, hb4⟩
  have hb24 := below_step hb3 hb4
  have hb04 := below_step hb02 hb24
  clear hc hf
  obtain ⟨hc, hf⟩ := bcell hb24
  cases hk : decide (keyN x.name ∈ ks) with
  | true =>
    have hk' : keyN x.name ∈ ks := by simpa using hk
    have HE : Hid (pntAt S.F S.P i = 9) := by unfold Hid; rw [HFE.out, pnt_name (by rw [name_old hv hk']; simp), name_old hv hk']
    go_wp2_with fail
    go_ret
    exact ⟨ret_int (by rw [HE.out]), hb04⟩
  | false =>
    have hk' : ¬ keyN x.name ∈ ks := by simpa using hk
    have h0 := name_new hv hk'
    clear hk hk'
    by_cases hp : x.feeder < 0 ∨ (S.F.length : Int) ≤ x.feeder ∨ x.phases < 1 ∨ 7 < x.phases
    · have HE : Hid (pntAt S.F S.P i = 1) := by unfold Hid; rw [HFE.out, pnt_inv h0 hp]
      by_cases hp1 : x.feeder < 0
      · skip
        go_wp2_with fail
        go_ret
        exact ⟨ret_int (by rw [HE.out]), hb04⟩
      · by_cases hp2 : (S.F.length : Int) ≤ x.feeder
        · skip
          go_wp2_with fail
          go_ret
          exact ⟨ret_int (by rw [HE.out]), hb04⟩
        · by_cases hp3 : x.phases < 1
          · skip
            go_wp2_with fail
            go_ret
            exact ⟨ret_int (by rw [HE.out]), hb04⟩
          · have hp4 : 7 < x.phases := by omega
            go_wp2_with fail
            go_ret
            exact ⟨ret_int (by rw [HE.out]), hb04⟩
    · have hp1 : ¬ x.feeder < 0 := by omega
      have hp2 : ¬ (S.F.length : Int) ≤ x.feeder := by omega
      have hp3 : ¬ x.phases < 1 := by omega
      have hp4 : ¬ 7 < x.phases := by omega
      cases ha : (decide (0 ≤ x.rated) && decide (x.rated ≤ 1048576)) with
      | false =>
        have HE : Hid (pntAt S.F S.P i = 2) := by unfold Hid; rw [HFE.out, pnt_range h0 hp (.inl ha)]
        have hbp := ha
        clear hp
        go_wp2_with (go_at_call 37; refine (in_any _ _ _).mono ?_; rintro e w' ⟨rfl, rfl⟩; (first | rw [ha] | rw [hbp]))
        go_ret
        exact ⟨ret_int (by rw [HE.out]), hb04⟩
      | true =>
        cases hbp : (decide (0 ≤ x.least) && decide (x.least ≤ x.rated)) with
        | false =>
          have HE : Hid (pntAt S.F S.P i = 2) := by
            unfold Hid
            rw [HFE.out, pnt_range h0 hp (.inr (by simp at hbp; omega))]
          clear hp
          go_wp2_with (go_at_call 37; refine (in_any _ _ _).mono ?_; rintro e w' ⟨rfl, rfl⟩; (first | rw [ha] | rw [hbp]))
          go_ret
          exact ⟨ret_int (by rw [HE.out]), hb04⟩
        | true =>
          have HE : Hid (pntAt S.F S.P i = 0) := by
            unfold Hid
            have hpr : powB x.rated = true := ha
            have h2 : 0 ≤ x.least ∧ x.least ≤ x.rated := by simpa using hbp
            rw [HFE.out, pnt_ok h0 hp (by rw [hpr]; simp; omega)]
          clear hp
          go_wp2_with (go_at_call 37; refine (in_any _ _ _).mono ?_; rintro e w' ⟨rfl, rfl⟩; (first | rw [ha] | rw [hbp]))
          go_ret
          exact ⟨ret_int (by rw [HE.out]), hb04⟩

end Go.Proofs.YtkjggfhbnhpdnaaDoor
