/-
  Walks: a feeder's error, of the reference.
-/
import Derived.Test.YtkjggfhbnhpdnaaDoorWSite3
namespace Go.Proofs.YtkjggfhbnhpdnaaDoor
open Go.RowKit Go.Lib Go.Maps
set_option linter.unusedVariables false

set_option maxRecDepth 100000 in
set_option maxHeartbeats 6400000 in
theorem refFeeder_any (S : SiteR) (fv pv : Value) (i : Nat) (w : World) (hF : IsSl w 5 fv (S.F.map Feed.cells)) (hP : IsSl w 5 pv (S.P.map Pnt.cells)) (hi : i < S.F.length) (hl1 : S.F.length ≤ 1000000) (hl2 : S.P.length ≤ 1000000) (hfF : ∀ f ∈ S.F, f.fits) (hfP : ∀ p ∈ S.P, p.fits) :
    Calls Tryd.prog 29 #[.agg #[.string S.name, fv, pv], .int .i64 i] w fun e w' => e = .returned (.int .i64 (feedAt S.F i)) ∧ Below w.heap.size w w' := by
  have HIF := Lib.hid hF
  have HIP := Lib.hid hP
  obtain ⟨A, c, rfl, hlc, hcm, hsl⟩ := islen' hF
  obtain ⟨B, d, rfl, hld, hdm, hsp⟩ := islen' hP
  have HFF := Lib.hid hfF
  have HFP := Lib.hid hfP
  have hki : (i : Int) < (S.F.length : Int) := by omega
  obtain ⟨b, off, rfl, hbb, c0, c1, c2, c3, c4⟩ := feed_at hsl hi
  have hft := hfF _ (List.getElem_mem hi)
  have HFE := Lib.hid (feedAt_eq hi)
  have HKN := Lib.hid (fun (name : ByteArray) (w : World) hF hP hnm => known_any S.name S.F S.P (.slice (some ⟨b, off, none⟩) S.F.length c) (.slice B S.P.length d) i 0 name w hF hP (by omega) (by omega) hl1 hl2 hfF hfP hnm)
  clear hF hP hsl hsp hfF hfP hlc hld hcm hdm
  generalize S.F[i] = x at *
  have hks : keysF (S.F.take i) ++ keysP (S.P.take 0) = keysF (S.F.take i) := by simp [keysP]
  rw [hks] at HKN
  obtain ⟨W2, hW2, hb02, hgx3, hgx2, hx02, hx2⟩ := box2 w #[.string S.name, .slice (some ⟨b, off, none⟩) S.F.length c, .slice B S.P.length d] 25 #[.string x.name, .int .i64 x.parent, .int .i64 x.a, .int .i64 x.b, .int .i64 x.c] 49
  generalize keysF (S.F.take i) = ks at *
  go_enter Tryd.func29, Tryd.ntmps29
  go_wp2_with fail
  rw [← hW2]
  clear hbb c0 c1 c2 c3 c4 hW2
  refine (refValid_any x.name _ hft).mono ?_
  rintro e w3 ⟨rfl, hd3⟩
  have hb3 := drewN_below hd3
  have hb03 := below_step hb02 hb3
  obtain ⟨hc, hf⟩ := bcell hb3
  cases hv : (!validL x.name.data.toList) with
  | true =>
    have HE : Hid (feedAt S.F i = 4) := by unfold Hid; rw [HFE.out, feed_name (by rw [name_bad hv]; simp), name_bad hv]
    rw [show validL x.name.data.toList = false by simpa using hv]
    go_wp2_with fail
    go_ret
    exact ⟨ret_int (by rw [HE.out]), hb03⟩
  | false =>
  rw [show validL x.name.data.toList = true by simpa using hv]
  go_wp2_with fail
  refine (HKN.out x.name _ (HIF.out.below hb03) (HIP.out.below hb03) hft).mono ?_
  rintro e w4 ⟨rfl, hb4⟩
  have hb24 := below_step hb3 hb4
  have hb04 := below_step hb02 hb24
  clear hc hf
  obtain ⟨hc, hf⟩ := bcell hb24
  cases hk : decide (keyN x.name ∈ ks) with
  | true =>
    have hk' : keyN x.name ∈ ks := by simpa using hk
    have HE : Hid (feedAt S.F i = 9) := by unfold Hid; rw [HFE.out, feed_name (by rw [name_old hv hk']; simp), name_old hv hk']
    go_wp2_with fail
    go_ret
    exact ⟨ret_int (by rw [HE.out]), hb04⟩
  | false =>
    have hk' : ¬ keyN x.name ∈ ks := by simpa using hk
    have h0 := name_new hv hk'
    clear hk hk'
    by_cases hp : x.parent < -1 ∨ (i : Int) ≤ x.parent
    · have HE : Hid (feedAt S.F i = 1) := by unfold Hid; rw [HFE.out, feed_parent h0 hp]
      by_cases hp1 : x.parent < -1
      · skip
        go_wp2_with fail
        go_ret
        exact ⟨ret_int (by rw [HE.out]), hb04⟩
      · have hp2 : (i : Int) ≤ x.parent := by omega
        go_wp2_with fail
        go_ret
        exact ⟨ret_int (by rw [HE.out]), hb04⟩
    · have hp1 : ¬ x.parent < -1 := by omega
      have hp2 : ¬ (i : Int) ≤ x.parent := by omega
      cases hpw : (powB x.a && (powB x.b && powB x.c)) with
      | false =>
        have HE : Hid (feedAt S.F i = 2) := by unfold Hid; rw [HFE.out, feed_power h0 hp hpw]
        unfold powB at hpw
        clear hp
        cases ha : (decide (0 ≤ x.a) && decide (x.a ≤ 1048576)) with
        | false =>
          have hbp := ha
          have hcp := ha
          go_wp2_with (go_at_call 37; refine (in_any _ _ _).mono ?_; rintro e w' ⟨rfl, rfl⟩; (first | rw [ha] | rw [hbp] | rw [hcp]))
          go_ret
          exact ⟨ret_int (by rw [HE.out]), hb04⟩
        | true =>
          cases hbp : (decide (0 ≤ x.b) && decide (x.b ≤ 1048576)) with
          | false =>
            have hcp := hbp
            go_wp2_with (go_at_call 37; refine (in_any _ _ _).mono ?_; rintro e w' ⟨rfl, rfl⟩; (first | rw [ha] | rw [hbp] | rw [hcp]))
            go_ret
            exact ⟨ret_int (by rw [HE.out]), hb04⟩
          | true =>
            cases hcp : (decide (0 ≤ x.c) && decide (x.c ≤ 1048576)) with
            | false =>
              go_wp2_with (go_at_call 37; refine (in_any _ _ _).mono ?_; rintro e w' ⟨rfl, rfl⟩; (first | rw [ha] | rw [hbp] | rw [hcp]))
              go_ret
              exact ⟨ret_int (by rw [HE.out]), hb04⟩
            | true => rw [ha, hbp, hcp] at hpw; simp at hpw
      | true =>
        have HE : Hid (feedAt S.F i = 0) := by unfold Hid; rw [HFE.out, feed_ok h0 hp hpw]
        unfold powB at hpw
        have ha := (Bool.and_eq_true_iff.1 hpw).1
        have hbp := (Bool.and_eq_true_iff.1 (Bool.and_eq_true_iff.1 hpw).2).1
        have hcp := (Bool.and_eq_true_iff.1 (Bool.and_eq_true_iff.1 hpw).2).2
        clear hp hpw
        go_wp2_with (go_at_call 37; refine (in_any _ _ _).mono ?_; rintro e w' ⟨rfl, rfl⟩; (first | rw [ha] | rw [hbp] | rw [hcp]))
        go_ret
        exact ⟨ret_int (by rw [HE.out]), hb04⟩

end Go.Proofs.YtkjggfhbnhpdnaaDoor
