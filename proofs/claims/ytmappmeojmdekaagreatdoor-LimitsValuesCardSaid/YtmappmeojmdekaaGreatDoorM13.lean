/-
  Walks: Valid of the reference of package site.
  Walks: a feeder's error, of the reference.
  Walks: a point's error, of the reference.
  Walks: Valid of the reference of package site.
  Walks: Valid of the reference of limits.
  Walks: At of package limits.
-/
import Derived.Test.YtmappmeojmdekaaGreatDoorM12
import Derived.Test.YtmappmeojmdekaaGreatDoorM4
import Derived.Test.YtmappmeojmdekaaGreatDoorM8
import Derived.Test.YtmappmeojmdekaaGreatDoorM10

namespace Go.Proofs.YtmappmeojmdekaaGreatDoor
open Go.RowKit Go.Lib Go.Maps
set_option linter.unusedVariables false

theorem same_key {a b : ByteArray} : sameS a b = decide (keyN a = keyN b) := by unfold sameS keyN; rfl
theorem keysF_mem {F : List Feed} {k n : Nat} (hk : k < n) (hn : n ≤ F.length) : keyN (F[k]'(by omega)).name ∈ keysF (F.take n) := by
  unfold keysF
  refine List.mem_map.2 ⟨F[k]'(by omega), ?_, rfl⟩
  exact List.mem_take_iff_getElem.2 ⟨k, by omega, rfl⟩
theorem keysP_mem {P : List Pnt} {k n : Nat} (hk : k < n) (hn : n ≤ P.length) : keyN (P[k]'(by omega)).name ∈ keysP (P.take n) := by
  unfold keysP
  refine List.mem_map.2 ⟨P[k]'(by omega), ?_, rfl⟩
  exact List.mem_take_iff_getElem.2 ⟨k, by omega, rfl⟩

set_option maxRecDepth 100000 in
set_option maxHeartbeats 3200000 in
theorem known_any (s : ByteArray) (F : List Feed) (P : List Pnt) (fv pv : Value) (n m : Nat) (name : ByteArray) (w : World) (hF : IsSl w 5 fv (F.map Feed.cells)) (hP : IsSl w 5 pv (P.map Pnt.cells)) (hn : n ≤ F.length) (hm : m ≤ P.length) (hl1 : F.length ≤ 1000000) (hl2 : P.length ≤ 1000000)
    (hfF : ∀ f ∈ F, f.fits) (hfP : ∀ p ∈ P, p.fits) (hnm : name.size ≤ maxLen) :
    Calls Tryz.prog 68 #[.agg #[.string s, fv, pv], .int .i64 n, .int .i64 m, .string name] w
      fun e w' => e = .returned (.bool (decide (keyN name ∈ keysF (F.take n) ++ keysP (P.take m)))) ∧ Below w.heap.size w w' := by
  obtain ⟨A, c, rfl, hlc, hcm, hsl⟩ := islen' hF
  obtain ⟨B, d, rfl, hld, hdm, hsp⟩ := islen' hP
  obtain ⟨W0, hW0, hb0, hg0, hx0⟩ := box1 w #[.string s, .slice A F.length c, .slice B P.length d] 25
  have HSL := Lib.hid (hsl.below hb0)
  have HSP := Lib.hid (hsp.below hb0)
  have HFF := Lib.hid hfF
  have HFP := Lib.hid hfP
  clear hF hP hsl hsp hfF hfP hlc hld hcm hdm
  go_enter Tryz.func68, Tryz.ntmps68
  go_wp2_with fail
  rw [← hW0]
  clear hW0
  go_loopw [9] (fun i wr => ∃ k : Nat, k ≤ n ∧ i = .int .i64 k ∧ Below W0.heap.size W0 wr ∧ Hid (¬ keyN name ∈ keysF (F.take k))) (fun i _ => n - (intOf i).toNat)
  case atStart => exact ⟨0, by omega, rfl, Below.refl _ _, by show ¬ _; simp [keysF]⟩
  case round =>
    obtain ⟨k, hk, rfl, hbw, HM⟩ := hrel
    obtain ⟨hc, hf⟩ := bcell hbw
    by_cases hlt : k < n
    · have hki : (k : Int) < (n : Int) := by omega
      have hkF : k < F.length := by omega
      have hkF2 : (k : Int) < (F.length : Int) := by omega
      obtain ⟨b, off, rfl, hbb, c0, c1, c2, c3, c4⟩ := feed_at (HSL.out.below hbw) hkF
      have HKM := Lib.hid (keysF_mem hlt hn)
      have HKS := Lib.hid (keysF_step hkF)
      have hft := HFF.out _ (List.getElem_mem hkF)
      generalize F[k] = x at *
      go_wp2_with fail
      refine (refSame_any x.name name _ hft hnm).mono ?_
      rintro e w3 ⟨rfl, hb3⟩
      replace hbw := hbw.trans (hb3.mono hbw.size)
      cases hq : sameS x.name name with
      | true =>
        have hk2 : keyN x.name = keyN name := by rw [same_key] at hq; simpa using hq
        have HE : Hid (decide (keyN name ∈ keysF (F.take n) ++ keysP (P.take m)) = true) := by
          unfold Hid
          rw [← hk2]
          simpa using .inl HKM.out
        go_wp2_with fail
        go_ret
        exact ⟨ret_bool (by rw [HE.out]), below_step hb0 hbw⟩
      | false =>
        have hk2 : ¬ keyN x.name = keyN name := by rw [same_key] at hq; simpa using hq
        have HM2 : Hid (¬ keyN name ∈ keysF (F.take (k + 1))) := by
          unfold Hid
          rw [HKS.out]
          simp only [List.mem_append, List.mem_singleton, not_or]
          exact ⟨HM.out, fun h => hk2 h.symm⟩
        go_wp2_with fail
        go_roundw
        case measure => simp [intOf]; omega
        case rel => exact ⟨k + 1, by omega, by go_num, hbw, HM2⟩
    · have hkn : k = n := by omega
      subst hkn
      clear HSL hc hf
      go_wp2_with fail
      go_loopw [10] (fun i wr => ∃ q : Nat, q ≤ m ∧ i = .int .i64 q ∧ Below W0.heap.size W0 wr ∧ Hid (¬ keyN name ∈ keysP (P.take q))) (fun i _ => m - (intOf i).toNat)
      case atStart => exact ⟨0, by omega, rfl, hbw, by show ¬ _; simp [keysP]⟩
      case round =>
      clear hbw
      obtain ⟨q, hqm, rfl, hbw, HQ⟩ := hrel
      obtain ⟨hc, hf⟩ := bcell hbw
      by_cases hlt2 : q < m
      · have hki : (q : Int) < (m : Int) := by omega
        have hkP : q < P.length := by omega
        have hkP2 : (q : Int) < (P.length : Int) := by omega
        obtain ⟨b, off, rfl, hbb, c0, c1, c2, c3, c4⟩ := pnt_at (HSP.out.below hbw) hkP
        have HKM := Lib.hid (keysP_mem hlt2 hm)
        have HKS := Lib.hid (keysP_step hkP)
        have hft := HFP.out _ (List.getElem_mem hkP)
        generalize P[q] = x at *
        go_wp2_with fail
        refine (refSame_any x.name name _ hft hnm).mono ?_
        rintro e w3 ⟨rfl, hb3⟩
        replace hbw := hbw.trans (hb3.mono hbw.size)
        cases hq : sameS x.name name with
        | true =>
          have hk2 : keyN x.name = keyN name := by rw [same_key] at hq; simpa using hq
          have HE : Hid (decide (keyN name ∈ keysF (F.take k) ++ keysP (P.take m)) = true) := by
            unfold Hid
            rw [← hk2]
            simpa using .inr HKM.out
          go_wp2_with fail
          go_ret
          exact ⟨ret_bool (by rw [HE.out]), below_step hb0 hbw⟩
        | false =>
          have hk2 : ¬ keyN x.name = keyN name := by rw [same_key] at hq; simpa using hq
          have HQ2 : Hid (¬ keyN name ∈ keysP (P.take (q + 1))) := by
            unfold Hid
            rw [HKS.out]
            simp only [List.mem_append, List.mem_singleton, not_or]
            exact ⟨HQ.out, fun h => hk2 h.symm⟩
          go_wp2_with fail
          go_roundw
          case measure => simp [intOf]; omega
          case rel => exact ⟨q + 1, by omega, by go_num, hbw, HQ2⟩
      · have hqm2 : q = m := by omega
        subst hqm2
        have HE : Hid (decide (keyN name ∈ keysF (F.take k) ++ keysP (P.take q)) = false) := by
          unfold Hid
          simp only [decide_eq_false_iff_not, List.mem_append, not_or]
          exact ⟨HM.out, HQ.out⟩
        go_wp2_with fail
        go_ret
        exact ⟨ret_bool (by rw [HE.out]), below_step hb0 hbw⟩

end Go.Proofs.YtmappmeojmdekaaGreatDoor

namespace Go.Proofs.YtmappmeojmdekaaGreatDoor
open Go.RowKit Go.Lib Go.Maps
set_option linter.unusedVariables false

set_option maxRecDepth 100000 in
set_option maxHeartbeats 6400000 in
theorem refFeeder_any (S : SiteR) (fv pv : Value) (i : Nat) (w : World) (hF : IsSl w 5 fv (S.F.map Feed.cells)) (hP : IsSl w 5 pv (S.P.map Pnt.cells)) (hi : i < S.F.length) (hl1 : S.F.length ≤ 1000000) (hl2 : S.P.length ≤ 1000000) (hfF : ∀ f ∈ S.F, f.fits) (hfP : ∀ p ∈ S.P, p.fits) :
    Calls Tryz.prog 50 #[.agg #[.string S.name, fv, pv], .int .i64 i] w fun e w' => e = .returned (.int .i64 (feedAt S.F i)) ∧ Below w.heap.size w w' := by
  have HIF := Lib.hid hF
  have HIP := Lib.hid hP
  obtain ⟨A, c, rfl, hlc, hcm, hsl⟩ := islen' hF
  obtain ⟨B, d, rfl, hld, hdm, hsp⟩ := islen' hP
  have HFF := Lib.hid hfF
  have HFP := Lib.hid hfP
  have hki : (i : Int) < (S.F.length : Int) := by omega
  obtain ⟨b, off, rfl, hbb, c0, c1, c2, c3, c4⟩ := feed_at hsl hi
  have hft := hfF _ (List.getElem_mem hi)
  have HFE := Lib.hid (feedAt_eq hi)
  have HKN := Lib.hid (fun (name : ByteArray) (w : World) hF hP hnm => known_any S.name S.F S.P (.slice (some ⟨b, off, none⟩) S.F.length c) (.slice B S.P.length d) i 0 name w hF hP (by omega) (by omega) hl1 hl2 hfF hfP hnm)
  clear hF hP hsl hsp hfF hfP hlc hld hcm hdm
  generalize S.F[i] = x at *
  have hks : keysF (S.F.take i) ++ keysP (S.P.take 0) = keysF (S.F.take i) := by simp [keysP]
  rw [hks] at HKN
  obtain ⟨W2, hW2, hb02, hgx3, hgx2, hx02, hx2⟩ := box2 w #[.string S.name, .slice (some ⟨b, off, none⟩) S.F.length c, .slice B S.P.length d] 25 #[.string x.name, .int .i64 x.parent, .int .i64 x.a, .int .i64 x.b, .int .i64 x.c] 61
  generalize keysF (S.F.take i) = ks at *
  go_enter Tryz.func50, Tryz.ntmps50
  go_wp2_with fail
  rw [← hW2]
  clear hbb c0 c1 c2 c3 c4 hW2
  refine (refIdV_any x.name _ hft).mono ?_
  rintro e w3 ⟨rfl, hd3⟩
  have hb3 := drewN_below hd3
  have hb03 := below_step hb02 hb3
  obtain ⟨hc, hf⟩ := bcell hb3
  cases hv : (!validL x.name.data.toList) with
  | true =>
    have HE : Hid (feedAt S.F i = 4) := by unfold Hid; rw [HFE.out, feed_name (by rw [name_bad hv]; simp), name_bad hv]
    rw [show validL x.name.data.toList = false by simpa using hv]
    go_wp2_with fail
    go_ret
    exact ⟨ret_int (by rw [HE.out]), hb03⟩
  | false =>
  rw [show validL x.name.data.toList = true by simpa using hv]
  go_wp2_with fail
  refine (HKN.out x.name _ (HIF.out.below hb03) (HIP.out.below hb03) hft).mono ?_
  rintro e w4 ⟨rfl, hb4⟩
  have hb24 := below_step hb3 hb4
  have hb04 := below_step hb02 hb24
  clear hc hf
  obtain ⟨hc, hf⟩ := bcell hb24
  cases hk : decide (keyN x.name ∈ ks) with
  | true =>
    have hk' : keyN x.name ∈ ks := by simpa using hk
    have HE : Hid (feedAt S.F i = 9) := by unfold Hid; rw [HFE.out, feed_name (by rw [name_old hv hk']; simp), name_old hv hk']
    go_wp2_with fail
    go_ret
    exact ⟨ret_int (by rw [HE.out]), hb04⟩
  | false =>
    have hk' : ¬ keyN x.name ∈ ks := by simpa using hk
    have h0 := name_new hv hk'
    clear hk hk'
    by_cases hp : x.parent < -1 ∨ (i : Int) ≤ x.parent
    · have HE : Hid (feedAt S.F i = 1) := by unfold Hid; rw [HFE.out, feed_parent h0 hp]
      by_cases hp1 : x.parent < -1
      · skip
        go_wp2_with fail
        go_ret
        exact ⟨ret_int (by rw [HE.out]), hb04⟩
      · have hp2 : (i : Int) ≤ x.parent := by omega
        go_wp2_with fail
        go_ret
        exact ⟨ret_int (by rw [HE.out]), hb04⟩
    · have hp1 : ¬ x.parent < -1 := by omega
      have hp2 : ¬ (i : Int) ≤ x.parent := by omega
      cases hpw : (powB x.a && (powB x.b && powB x.c)) with
      | false =>
        have HE : Hid (feedAt S.F i = 2) := by unfold Hid; rw [HFE.out, feed_power h0 hp hpw]
        unfold powB at hpw
        clear hp
        cases ha : (decide (0 ≤ x.a) && decide (x.a ≤ 1048576)) with
        | false =>
          have hbp := ha
          have hcp := ha
          go_wp2_with (go_at_call 69; refine (in_any _ _ _).mono ?_; rintro e w' ⟨rfl, rfl⟩; (first | rw [ha] | rw [hbp] | rw [hcp]))
          go_ret
          exact ⟨ret_int (by rw [HE.out]), hb04⟩
        | true =>
          cases hbp : (decide (0 ≤ x.b) && decide (x.b ≤ 1048576)) with
          | false =>
            have hcp := hbp
            go_wp2_with (go_at_call 69; refine (in_any _ _ _).mono ?_; rintro e w' ⟨rfl, rfl⟩; (first | rw [ha] | rw [hbp] | rw [hcp]))
            go_ret
            exact ⟨ret_int (by rw [HE.out]), hb04⟩
          | true =>
            cases hcp : (decide (0 ≤ x.c) && decide (x.c ≤ 1048576)) with
            | false =>
              go_wp2_with (go_at_call 69; refine (in_any _ _ _).mono ?_; rintro e w' ⟨rfl, rfl⟩; (first | rw [ha] | rw [hbp] | rw [hcp]))
              go_ret
              exact ⟨ret_int (by rw [HE.out]), hb04⟩
            | true => rw [ha, hbp, hcp] at hpw; simp at hpw
      | true =>
        have HE : Hid (feedAt S.F i = 0) := by unfold Hid; rw [HFE.out, feed_ok h0 hp hpw]
        unfold powB at hpw
        have ha := (Bool.and_eq_true_iff.1 hpw).1
        have hbp := (Bool.and_eq_true_iff.1 (Bool.and_eq_true_iff.1 hpw).2).1
        have hcp := (Bool.and_eq_true_iff.1 (Bool.and_eq_true_iff.1 hpw).2).2
        clear hp hpw
        go_wp2_with (go_at_call 69; refine (in_any _ _ _).mono ?_; rintro e w' ⟨rfl, rfl⟩; (first | rw [ha] | rw [hbp] | rw [hcp]))
        go_ret
        exact ⟨ret_int (by rw [HE.out]), hb04⟩

end Go.Proofs.YtmappmeojmdekaaGreatDoor

namespace Go.Proofs.YtmappmeojmdekaaGreatDoor
open Go.RowKit Go.Lib Go.Maps
set_option linter.unusedVariables false

set_option maxRecDepth 100000 in
set_option maxHeartbeats 6400000 in
theorem refPoint_any (S : SiteR) (fv pv : Value) (i : Nat) (w : World) (hF : IsSl w 5 fv (S.F.map Feed.cells)) (hP : IsSl w 5 pv (S.P.map Pnt.cells)) (hi : i < S.P.length) (hl1 : S.F.length ≤ 1000000) (hl2 : S.P.length ≤ 1000000) (hfF : ∀ f ∈ S.F, f.fits) (hfP : ∀ p ∈ S.P, p.fits) :
    Calls Tryz.prog 51 #[.agg #[.string S.name, fv, pv], .int .i64 i] w fun e w' => e = .returned (.int .i64 (pntAt S.F S.P i)) ∧ Below w.heap.size w w' := by
  have HIF := Lib.hid hF
  have HIP := Lib.hid hP
  obtain ⟨A, c, rfl, hlc, hcm, hsl⟩ := islen' hF
  obtain ⟨B, d, rfl, hld, hdm, hsp⟩ := islen' hP
  have hki : (i : Int) < (S.P.length : Int) := by omega
  obtain ⟨b, off, rfl, hbb, c0, c1, c2, c3, c4⟩ := pnt_at hsp hi
  have hft := hfP _ (List.getElem_mem hi)
  have HFE := Lib.hid (pntAt_eq (F := S.F) hi)
  have HKN := Lib.hid (fun (name : ByteArray) (w : World) hF hP hnm => known_any S.name S.F S.P (.slice A S.F.length c) (.slice (some ⟨b, off, none⟩) S.P.length d) S.F.length i name w hF hP (by omega) (by omega) hl1 hl2 hfF hfP hnm)
  clear hF hP hsl hsp hfF hfP hlc hld hcm hdm
  generalize S.P[i] = x at *
  rw [List.take_length] at HKN
  obtain ⟨W2, hW2, hb02, hgx3, hgx2, hx02, hx2⟩ := box2 w #[.string S.name, .slice A S.F.length c, .slice (some ⟨b, off, none⟩) S.P.length d] 25 #[.string x.name, .int .i64 x.feeder, .int .i64 x.phases, .int .i64 x.rated, .int .i64 x.least] 81
  generalize keysF S.F ++ keysP (S.P.take i) = ks at *
  go_enter Tryz.func51, Tryz.ntmps51
  go_wp2_with fail
  rw [← hW2]
  clear hbb c0 c1 c2 c3 c4 hW2
  refine (refIdV_any x.name _ hft).mono ?_
  rintro e w3 ⟨rfl, hd3⟩
  have hb3 := drewN_below hd3
  have hb03 := below_step hb02 hb3
  obtain ⟨hc, hf⟩ := bcell hb3
  cases hv : (!validL x.name.data.toList) with
  | true =>
    have HE : Hid (pntAt S.F S.P i = 4) := by unfold Hid; rw [HFE.out, pnt_name (by rw [name_bad hv]; simp), name_bad hv]
    rw [show validL x.name.data.toList = false by simpa using hv]
    go_wp2_with fail
    go_ret
    exact ⟨ret_int (by rw [HE.out]), hb03⟩
  | false =>
  rw [show validL x.name.data.toList = true by simpa using hv]
  go_wp2_with fail
  refine (HKN.out x.name _ (HIF.out.below hb03) (HIP.out.below hb03) hft).mono ?_
  rintro e w4 ⟨rfl, hb4⟩
  have hb24 := below_step hb3 hb4
  have hb04 := below_step hb02 hb24
  clear hc hf
  obtain ⟨hc, hf⟩ := bcell hb24
  cases hk : decide (keyN x.name ∈ ks) with
  | true =>
    have hk' : keyN x.name ∈ ks := by simpa using hk
    have HE : Hid (pntAt S.F S.P i = 9) := by unfold Hid; rw [HFE.out, pnt_name (by rw [name_old hv hk']; simp), name_old hv hk']
    go_wp2_with fail
    go_ret
    exact ⟨ret_int (by rw [HE.out]), hb04⟩
  | false =>
    have hk' : ¬ keyN x.name ∈ ks := by simpa using hk
    have h0 := name_new hv hk'
    clear hk hk'
    by_cases hp : x.feeder < 0 ∨ (S.F.length : Int) ≤ x.feeder ∨ x.phases < 1 ∨ 7 < x.phases
    · have HE : Hid (pntAt S.F S.P i = 1) := by unfold Hid; rw [HFE.out, pnt_inv h0 hp]
      by_cases hp1 : x.feeder < 0
      · skip
        go_wp2_with fail
        go_ret
        exact ⟨ret_int (by rw [HE.out]), hb04⟩
      · by_cases hp2 : (S.F.length : Int) ≤ x.feeder
        · skip
          go_wp2_with fail
          go_ret
          exact ⟨ret_int (by rw [HE.out]), hb04⟩
        · by_cases hp3 : x.phases < 1
          · skip
            go_wp2_with fail
            go_ret
            exact ⟨ret_int (by rw [HE.out]), hb04⟩
          · have hp4 : 7 < x.phases := by omega
            go_wp2_with fail
            go_ret
            exact ⟨ret_int (by rw [HE.out]), hb04⟩
    · have hp1 : ¬ x.feeder < 0 := by omega
      have hp2 : ¬ (S.F.length : Int) ≤ x.feeder := by omega
      have hp3 : ¬ x.phases < 1 := by omega
      have hp4 : ¬ 7 < x.phases := by omega
      cases ha : (decide (0 ≤ x.rated) && decide (x.rated ≤ 1048576)) with
      | false =>
        have HE : Hid (pntAt S.F S.P i = 2) := by unfold Hid; rw [HFE.out, pnt_range h0 hp (.inl ha)]
        have hbp := ha
        clear hp
        go_wp2_with (go_at_call 69; refine (in_any _ _ _).mono ?_; rintro e w' ⟨rfl, rfl⟩; (first | rw [ha] | rw [hbp]))
        go_ret
        exact ⟨ret_int (by rw [HE.out]), hb04⟩
      | true =>
        cases hbp : (decide (0 ≤ x.least) && decide (x.least ≤ x.rated)) with
        | false =>
          have HE : Hid (pntAt S.F S.P i = 2) := by
            unfold Hid
            rw [HFE.out, pnt_range h0 hp (.inr (by simp at hbp; omega))]
          clear hp
          go_wp2_with (go_at_call 69; refine (in_any _ _ _).mono ?_; rintro e w' ⟨rfl, rfl⟩; (first | rw [ha] | rw [hbp]))
          go_ret
          exact ⟨ret_int (by rw [HE.out]), hb04⟩
        | true =>
          have HE : Hid (pntAt S.F S.P i = 0) := by
            unfold Hid
            have hpr : powB x.rated = true := ha
            have h2 : 0 ≤ x.least ∧ x.least ≤ x.rated := by simpa using hbp
            rw [HFE.out, pnt_ok h0 hp (by rw [hpr]; simp; omega)]
          clear hp
          go_wp2_with (go_at_call 69; refine (in_any _ _ _).mono ?_; rintro e w' ⟨rfl, rfl⟩; (first | rw [ha] | rw [hbp]))
          go_ret
          exact ⟨ret_int (by rw [HE.out]), hb04⟩

end Go.Proofs.YtmappmeojmdekaaGreatDoor

namespace Go.Proofs.YtmappmeojmdekaaGreatDoor
open Go.RowKit Go.Lib Go.Maps
set_option linter.unusedVariables false

set_option maxRecDepth 100000 in
set_option maxHeartbeats 6400000 in
theorem refSiteValid_any (S : SiteR) (fv pv : Value) (w : World) (hF : IsSl w 5 fv (S.F.map Feed.cells)) (hP : IsSl w 5 pv (S.P.map Pnt.cells)) (hn : S.name.size ≤ maxLen) (hfF : ∀ f ∈ S.F, f.fits) (hfP : ∀ p ∈ S.P, p.fits) :
    Calls Tryz.prog 30 #[.agg #[.string S.name, fv, pv]] w fun e w' => e = .returned (.int .i64 (siteE S)) ∧ Below w.heap.size w w' := by
  have HIF := Lib.hid hF
  have HIP := Lib.hid hP
  obtain ⟨A, c, rfl, hlc, hcm, hsl⟩ := islen' hF
  obtain ⟨B, d, rfl, hld, hdm, hsp⟩ := islen' hP
  obtain ⟨W0, hW0, hb0, hg0, hx0⟩ := box1 w #[.string S.name, .slice A S.F.length c, .slice B S.P.length d] 25
  have HFF := Lib.hid hfF
  have HFP := Lib.hid hfP
  clear hF hP hsl hsp hfF hfP hlc hld hcm hdm
  cases hv : (!validL S.name.data.toList) with
  | true =>
    have HE := Lib.hid (site_name hv)
    go_enter Tryz.func30, Tryz.ntmps30
    go_wp2_with fail
    rw [← hW0]
    clear hW0
    refine (refIdV_any S.name _ hn).mono ?_
    rintro e w1 ⟨rfl, hd1⟩
    rw [show validL S.name.data.toList = false by simpa using hv]
    go_wp2_with fail
    go_ret
    exact ⟨ret_int (by rw [HE.out]), below_step hb0 (drewN_below hd1)⟩
  | false =>
  have hv' : validL S.name.data.toList = true := by simpa using hv
  by_cases hl : 32 < S.F.length ∨ 32 < S.P.length
  · have HE := Lib.hid (site_limit hv hl)
    by_cases hl1 : 32 < S.F.length
    rotate_left 1
    have hl2 : 32 < S.P.length := by omega
    all_goals
      go_enter Tryz.func30, Tryz.ntmps30
      go_wp2_with fail
      rw [← hW0]
      clear hW0
      refine (refIdV_any S.name _ hn).mono ?_
      rintro e w1 ⟨rfl, hd1⟩
      rw [hv']
      have hb1 := drewN_below hd1
      obtain ⟨hc, hf⟩ := bcell hb1
      go_wp2_with fail
      go_ret
      exact ⟨ret_int (by rw [HE.out]), below_step hb0 hb1⟩
  have hl1 : S.F.length ≤ 32 := by omega
  have hl2 : S.P.length ≤ 32 := by omega
  have HSF := Lib.hid (fun (k : Nat) (hk : k < S.F.length) (h0 : firstE (feedAt S.F) k = 0) (he : feedAt S.F k ≠ 0) => site_feed hv hl hk h0 he)
  have HSQ := Lib.hid (fun (hF : firstE (feedAt S.F) S.F.length = 0) (k : Nat) (hk : k < S.P.length) (h0 : firstE (pntAt S.F S.P) k = 0) (he : pntAt S.F S.P k ≠ 0) => site_pnt hv hl hF hk h0 he)
  have HSO := Lib.hid (fun (hF : firstE (feedAt S.F) S.F.length = 0) (hP : firstE (pntAt S.F S.P) S.P.length = 0) => site_ok hv hl hF hP)
  clear hl hv
  go_enter Tryz.func30, Tryz.ntmps30
  go_wp2_with fail
  rw [← hW0]
  clear hW0
  refine (refIdV_any S.name _ hn).mono ?_
  rintro e w1 ⟨rfl, hd1⟩
  rw [hv']
  have hb1 := drewN_below hd1
  clear hd1
  obtain ⟨hc, hf⟩ := bcell hb1
  go_wp2_with fail
  clear hc hf
  go_loopw [3] (fun i wr => ∃ k : Nat, k ≤ S.F.length ∧ i = .int .i64 k ∧ Below W0.heap.size W0 wr ∧ Hid (firstE (feedAt S.F) k = 0)) (fun i _ => S.F.length - (intOf i).toNat)
  case atStart => exact ⟨0, by omega, rfl, hb1, rfl⟩
  case round =>
    obtain ⟨k, hk, rfl, hbw, HZ⟩ := hrel
    obtain ⟨hc, hf⟩ := bcell hbw
    by_cases hlt : k < S.F.length
    · have hki : (k : Int) < (S.F.length : Int) := by omega
      have hb0w := below_step hb0 hbw
      go_wp2_with fail
      refine (refFeeder_any S _ _ k _ (HIF.out.below hb0w) (HIP.out.below hb0w) hlt (by omega) (by omega) HFF.out HFP.out).mono ?_
      rintro e w3 ⟨rfl, hb3⟩
      have hbw3 := hbw.trans (hb3.mono hbw.size)
      cases hne : (feedAt S.F k != 0) with
      | true =>
        have HE := Lib.hid (HSF.out k hlt HZ.out (by simpa using hne))
        go_wp2_with fail
        go_ret
        exact ⟨ret_int (by rw [HE.out]), below_step hb0 hbw3⟩
      | false =>
        have HZ2 := Lib.hid (firstE_go HZ.out (by simpa using hne))
        go_wp2_with fail
        go_roundw
        case measure => simp [intOf]; omega
        case rel => exact ⟨k + 1, by omega, by go_num, hbw3, HZ2.out⟩
    · have hkF : k = S.F.length := by omega
      subst hkF
      have HQ := Lib.hid (HSQ.out HZ.out)
      have HO := Lib.hid (HSO.out HZ.out)
      clear HSF HSQ HSO
      go_wp2_with fail
      clear hc hf
      go_loopw [5] (fun i wr => ∃ q : Nat, q ≤ S.P.length ∧ i = .int .i64 q ∧ Below W0.heap.size W0 wr ∧ Hid (firstE (pntAt S.F S.P) q = 0)) (fun i _ => S.P.length - (intOf i).toNat)
      case atStart => exact ⟨0, by omega, rfl, hbw, rfl⟩
      case round =>
      clear hbw
      obtain ⟨q, hq, rfl, hbw, HY⟩ := hrel
      obtain ⟨hc, hf⟩ := bcell hbw
      by_cases hlt2 : q < S.P.length
      · have hki : (q : Int) < (S.P.length : Int) := by omega
        have hb0w := below_step hb0 hbw
        go_wp2_with fail
        refine (refPoint_any S _ _ q _ (HIF.out.below hb0w) (HIP.out.below hb0w) hlt2 (by omega) (by omega) HFF.out HFP.out).mono ?_
        rintro e w3 ⟨rfl, hb3⟩
        have hbw3 := hbw.trans (hb3.mono hbw.size)
        cases hne : (pntAt S.F S.P q != 0) with
        | true =>
          have HE := Lib.hid (HQ.out q hlt2 HY.out (by simpa using hne))
          go_wp2_with fail
          go_ret
          exact ⟨ret_int (by rw [HE.out]), below_step hb0 hbw3⟩
        | false =>
          have HY2 := Lib.hid (firstE_go HY.out (by simpa using hne))
          go_wp2_with fail
          go_roundw
          case measure => simp [intOf]; omega
          case rel => exact ⟨q + 1, by omega, by go_num, hbw3, HY2.out⟩
      · have hqP : q = S.P.length := by omega
        subst hqP
        have HE := Lib.hid (HO.out HY.out)
        go_wp2_with fail
        go_ret
        exact ⟨ret_int (by rw [HE.out]), below_step hb0 hbw⟩

end Go.Proofs.YtmappmeojmdekaaGreatDoor

namespace Go.Proofs.YtmappmeojmdekaaGreatDoor
open Go.RowKit Go.Lib Go.Maps
attribute [local go_sem] after_cell
set_option linter.unusedVariables false

set_option maxRecDepth 100000 in
set_option maxHeartbeats 25600000 in
theorem refLimValid_any (r : RulR) (fv pv cv uv : Value) (w : World) (hI : LimIn w r fv pv cv uv) :
    Calls Tryz.prog 13 #[.agg #[.string r.S.name, fv, pv, .int .i64 r.z.off, .bool r.z.sum, cv, uv]] w fun e w' => e = .returned (.int .i64 (limE r)) ∧ Below w.heap.size w w' := by
  have HI := Lib.hid hI
  obtain ⟨A, B, C, D, a, b, c, d, rfl, rfl, rfl, rfl, hA⟩ := hI.ad
  obtain ⟨W0, hW0, hb0, hg0, hx0⟩ := box1 w #[.string r.S.name, .slice A r.S.F.length a, .slice B r.S.P.length b, .int .i64 r.z.off, .bool r.z.sum, .slice C r.C.length c, .slice D r.U.length d] 31
  obtain ⟨l1, l2⟩ := hA.lC
  obtain ⟨m1, m2⟩ := hA.lU
  have hfm := Nat.le_trans hA.lF.1 hA.lF.2
  have HFM := Lib.hid hfm
  unfold maxLen at l2 m2 hfm
  have HA0 := Lib.hid (hA.below hb0)
  have HI0 := Lib.hid (HI.out.below hb0)
  clear hA hI
  go_enter Tryz.func13, Tryz.ntmps13
  go_wp2_with fail
  rw [← hW0]
  clear hW0
  refine (refSiteValid_any r.S _ _ W0 HI0.out.hF HI0.out.hP HI0.out.hn HI0.out.fF HI0.out.fP).mono ?_
  rintro e w1 ⟨rfl, hb1⟩
  have y0 : ∀ j, w1.cell? ⟨w.heap.size, j, none⟩ = _ := fun j => (hb1.cell (p := ⟨w.heap.size, j, none⟩) hg0).trans (hx0 j)
  have y1 : w.heap.size < w1.heap.size := Nat.lt_of_lt_of_le hg0 hb1.size
  have HA1 := Lib.hid (HA0.out.below hb1)
  have hb01 := below_step hb0 hb1
  clear hx0 hg0 hb1 HA0 HI0
  by_cases hs : siteE r.S = 0
  · have HS := Lib.hid hs
    rw [hs]
    clear hs
    go_wp2_with fail
    refine (refZone_any r.z w1).mono ?_
    rintro e w2 ⟨rfl, hb2⟩
    have z0 : ∀ j, w2.cell? ⟨w.heap.size, j, none⟩ = _ := fun j => (hb2.cell (p := ⟨w.heap.size, j, none⟩) y1).trans (y0 j)
    have z1 : w.heap.size < w2.heap.size := Nat.lt_of_lt_of_le y1 hb2.size
    have HA2 := Lib.hid (HA1.out.below hb2)
    have hb02 := below_step hb01 hb2
    clear y0 y1 hb2 HA1 hb01
    cases hz : zoneB r.z with
    | false =>
      have HE := Lib.hid (limE_zone HS.out hz)
      clear hz
      go_wp2_with fail
      go_ret
      exact ⟨ret_int HE.out.symm, hb02⟩
    | true =>
      have HZ := Lib.hid hz
      clear hz
      by_cases hn : 16 < r.C.length
      · have HE := Lib.hid (limE_many HS.out HZ.out hn)
        have hni : (16 : Int) < (r.C.length : Int) := by omega
        go_wp2_with fail
        go_ret
        exact ⟨ret_int HE.out.symm, hb02⟩
      · have hni : ¬ (16 : Int) < (r.C.length : Int) := by omega
        have HN := Lib.hid hn
        go_wp2_with fail
        go_loopw [4] (fun i wr => ∃ k : Nat, k ≤ r.C.length ∧ i = .int .i64 k ∧ Hid (firstE (conAtE r.C r.S.F.length) k = 0) ∧ Below w2.heap.size w2 wr) (fun i _ => r.C.length - (intOf i).toNat)
        case atStart => exact ⟨0, by omega, rfl, rfl, Below.refl _ _⟩
        case round =>
          obtain ⟨k, hk, rfl, HK, hbw⟩ := hrel
          have y0 : ∀ j, wr.cell? ⟨w.heap.size, j, none⟩ = _ := fun j => (hbw.cell (p := ⟨w.heap.size, j, none⟩) z1).trans (z0 j)
          have y1 : w.heap.size < wr.heap.size := Nat.lt_of_lt_of_le z1 hbw.size
          have HAr := Lib.hid (HA2.out.below hbw)
          have hbr := Below.refl wr.heap.size wr
          by_cases hlt : k < r.C.length
          · have hki : (k : Int) < (r.C.length : Int) := by omega
            obtain ⟨blk, off, rfl, hb, c0, c1, c2, c3, c4, c5, c6, c7⟩ := con_at HAr.out.sC hlt
            have HBAD := Lib.hid (fun e => limE_con HS.out HZ.out HN.out hlt HK.out e)
            have HC0 := Lib.hid (fun e => conAtE_bad (C := r.C) (n := r.S.F.length) hlt e)
            have HC1 := Lib.hid (fun e g => conAtE_two (C := r.C) (n := r.S.F.length) hlt e g)
            have HC2 := Lib.hid (fun e g => conAtE_ok (C := r.C) (n := r.S.F.length) hlt e g)
            have HHIT := Lib.hid (fun (j : Nat) (hj : j < k) (e : sameS (r.C[j]'(Nat.lt_of_lt_of_le hj hk)).nm (r.C[k]'hlt).nm = true) => any_hit (C := r.C) (s := (r.C[k]'hlt).nm) hj hk e)
            have HNXT := Lib.hid (fun (j : Nat) (hj : j < k) h (e : sameS (r.C[j]'(Nat.lt_of_lt_of_le hj hk)).nm (r.C[k]'hlt).nm = false) => anyC_take (C := r.C) (s := (r.C[k]'hlt).nm) (j := j) (Nat.lt_of_lt_of_le hj hk) h e)
            have HNM := Lib.hid (feeds_of HI.out hlt)
            generalize hx : r.C[k] = x at *
            clear hx
            have HCE := Lib.hid (fun w' => refConV_any x r.S.name A B r.S.F.length a r.S.P.length b w' HNM.out HFM.out)
            by_cases he : conE x r.S.F.length = 0
            · have HE0 := Lib.hid he
              rw [he] at HCE
              clear he
              go_wp2_with fail
              (refine wp_region_kept wr (by kernel_rfl) (by kernel_rfl) (by assumption) ?_; (repeat (go_big_quiet_step ((first | (go_at_call 32; exact kept_call (HCE.out _)))))); refine wpQuiet_nil ?_; intro _ hw'; obtain ⟨x9, hw''⟩ := hw'; subst hw''; have hk9 := after_kept x9; generalize after x9 = w9 at *)
              obtain ⟨hc9, hb9⟩ := hk9
              have v0 : ∀ j, w9.cell? ⟨w.heap.size, j, none⟩ = _ := fun j => (hc9 _ j y1).trans (y0 j)
              have v1 : w.heap.size < w9.heap.size := Nat.lt_of_lt_of_le y1 hb9.size
              have HA9 := Lib.hid (HAr.out.below hb9)
              have hbw9 := below_step hbw hb9
              have d0' := (hc9 _ _ hb).trans c0
              have hb' : blk < w9.heap.size := Nat.lt_of_lt_of_le hb hb9.size
              clear c0 c1 c2 c3 c4 c5 c6 c7 y0 y1 hc9 hb hbr
              go_wp2_with fail
              generalize w9 = wm at *
              go_loopw [6] (fun i wx => ∃ j : Nat, j ≤ k ∧ i = .int .i64 j ∧ Hid ((r.C.take j).any (fun d => sameS d.nm x.nm) = false) ∧ Below wm.heap.size wm wx) (fun i _ => k - (intOf i).toNat)
              case atStart => exact ⟨0, by omega, rfl, rfl, Below.refl _ _⟩
              case round =>
                obtain ⟨j, hj, rfl, HJ, hbx⟩ := hrel
                by_cases hjk : j < k
                · have hji : (j : Int) < (k : Int) := by omega
                  have hjl : j < r.C.length := by omega
                  have hjli : (j : Int) < (r.C.length : Int) := by omega
                  obtain ⟨b3, off3, hA3, hb3, d0, d1, d2, d3, d4, d5, d6, d7⟩ := con_at (HA9.out.below hbx).sC hjl
                  injection hA3 with hA3
                  injection hA3 with hA3 hA4 _
                  subst hA3; subst hA4
                  have HH := Lib.hid (fun e => HHIT.out j hjk e)
                  have HX := Lib.hid (fun e => HNXT.out j hjk HJ.out e)
                  have HNJ := Lib.hid (feeds_of HI.out hjl)
                  generalize r.C[j] = y at *
                  clear d1 d2 d3 d4 d5 d6 d7
                  have e0 := (hbx.cell (p := ⟨blk, off + k * 8, none⟩) hb').trans d0'
                  have u0 : ∀ j, wr.cell? ⟨w.heap.size, j, none⟩ = _ := fun j => (hbx.cell (p := ⟨w.heap.size, j, none⟩) v1).trans (v0 j)
                  have u1 : w.heap.size < wr.heap.size := Nat.lt_of_lt_of_le v1 hbx.size
                  have hbr := Below.refl wr.heap.size wr
                  have HSM := Lib.hid (fun w' => refSame_any y.nm x.nm w' HNJ.out HNM.out)
                  cases hsm : sameS y.nm x.nm with
                  | true =>
                    have he9 := HC1.out HE0.out (HH.out hsm)
                    have HE := Lib.hid (HBAD.out (by rw [he9]; decide))
                    have HE9 := Lib.hid he9
                    rw [hsm] at HSM
                    clear he9 hsm
                    go_wp2_with fail
                    (refine wp_region_kept wr (by kernel_rfl) (by kernel_rfl) (by assumption) ?_; (repeat (go_big_quiet_step ((first | (go_at_call 33; exact kept_call (HSM.out _)))))); refine wpQuiet_nil ?_; intro _ hw'; obtain ⟨x9, hw''⟩ := hw'; subst hw''; have hk9 := after_kept x9; generalize after x9 = w9 at *)
                    obtain ⟨hc9, hb9⟩ := hk9
                    go_wp2_with fail
                    go_ret
                    exact ⟨ret_int (by rw [HE.out, HE9.out]), below_step hb02 (below_step hbw9 (below_step hbx hb9))⟩
                  | false =>
                    have HN2 := Lib.hid (HX.out hsm)
                    rw [hsm] at HSM
                    clear hsm
                    go_wp2_with fail
                    (refine wp_region_kept wr (by kernel_rfl) (by kernel_rfl) (by assumption) ?_; (repeat (go_big_quiet_step ((first | (go_at_call 33; exact kept_call (HSM.out _)))))); refine wpQuiet_nil ?_; intro _ hw'; obtain ⟨x9, hw''⟩ := hw'; subst hw''; have hk9 := after_kept x9; generalize after x9 = w9 at *)
                    obtain ⟨hc9, hb9⟩ := hk9
                    go_wp2_with fail
                    go_roundw
                    case measure => simp [intOf]; omega
                    case rel => exact ⟨j + 1, by omega, by go_num, HN2, below_step hbx hb9⟩
                · have hji : ¬ (j : Int) < (k : Int) := by omega
                  obtain rfl : j = k := by omega
                  have HK2 := Lib.hid (firstE_go HK.out (HC2.out HE0.out HJ.out))
                  go_wp2_with fail
                  go_roundw
                  case measure => simp [intOf]; omega
                  case rel => exact ⟨j + 1, by omega, by go_num, HK2, below_step hbw9 hbx⟩
            · have he9 := HC0.out he
              have HE := Lib.hid (HBAD.out (by rw [he9]; exact he))
              have HE9 := Lib.hid he9
              have hne : (conE x r.S.F.length != 0) = true := by simpa using he
              clear he9
              go_wp2_with fail
              (refine wp_region_kept wr (by kernel_rfl) (by kernel_rfl) (by assumption) ?_; (repeat (go_big_quiet_step ((first | (go_at_call 32; exact kept_call (HCE.out _)))))); refine wpQuiet_nil ?_; intro _ hw'; obtain ⟨x9, hw''⟩ := hw'; subst hw''; have hk9 := after_kept x9; generalize after x9 = w9 at *)
              obtain ⟨hc9, hb9⟩ := hk9
              go_wp2_with fail
              go_ret
              exact ⟨ret_int (by rw [HE.out, HE9.out]), below_step hb02 (below_step hbw hb9)⟩
          · have hki : ¬ (k : Int) < (r.C.length : Int) := by omega
            obtain rfl : k = r.C.length := by omega
            have HCC := Lib.hid HK.out
            by_cases hu : 64 < r.U.length
            · have HE := Lib.hid (limE_events HS.out HZ.out HN.out HCC.out hu)
              have hui : (64 : Int) < (r.U.length : Int) := by omega
              go_wp2_with fail
              go_ret
              exact ⟨ret_int HE.out.symm, below_step hb02 hbw⟩
            · have hui : ¬ (64 : Int) < (r.U.length : Int) := by omega
              have HU := Lib.hid hu
              have hbwm := below_step hb02 hbw
              clear hk hlt hki hbw HK z0 z1 HA2 hbr
              go_wp2_with fail
              generalize wr = wm at *
              go_loopw [7] (fun i wx => ∃ k : Nat, k ≤ r.U.length ∧ i = .int .i64 k ∧ Hid (firstE (curAtE r.U r.S.F.length) k = 0) ∧ Below wm.heap.size wm wx) (fun i _ => r.U.length - (intOf i).toNat)
              case atStart => exact ⟨0, by omega, rfl, rfl, Below.refl _ _⟩
              case round =>
                obtain ⟨k, hk, rfl, HK, hbx⟩ := hrel
                have v0 : ∀ j, wr.cell? ⟨w.heap.size, j, none⟩ = _ := fun j => (hbx.cell (p := ⟨w.heap.size, j, none⟩) y1).trans (y0 j)
                have v1 : w.heap.size < wr.heap.size := Nat.lt_of_lt_of_le y1 hbx.size
                have HAx := Lib.hid (HAr.out.below hbx)
                have hbr := Below.refl wr.heap.size wr
                by_cases hlt : k < r.U.length
                · have hki : (k : Int) < (r.U.length : Int) := by omega
                  obtain ⟨blk, off, rfl, hb, c0, c1, c2, c3, c4, c5, c6⟩ := cur_at HAx.out.sU hlt
                  have HBAD := Lib.hid (fun e => limE_cur HS.out HZ.out HN.out HCC.out HU.out hlt HK.out e)
                  have HC0 := Lib.hid (fun e => curAtE_bad (U := r.U) (n := r.S.F.length) hlt e)
                  have HNM := Lib.hid (curs_of HI.out hlt)
                  generalize hx : r.U[k] = x at *
                  have HX := Lib.hid hx
                  clear hx
                  have HCE := Lib.hid (fun w' => refCurV_any x r.S.name A B r.S.F.length a r.S.P.length b w' HNM.out HFM.out)
                  by_cases he : curE x r.S.F.length = 0
                  · have HE0 := Lib.hid he
                    rw [he] at HCE
                    clear he
                    go_wp2_with fail
                    (refine wp_region_kept wr (by kernel_rfl) (by kernel_rfl) (by assumption) ?_; (repeat (go_big_quiet_step ((first | (go_at_call 34; exact kept_call (HCE.out _)))))); refine wpQuiet_nil ?_; intro _ hw'; obtain ⟨x9, hw''⟩ := hw'; subst hw''; have hk9 := after_kept x9; generalize after x9 = w9 at *)
                    obtain ⟨hc9, hb9⟩ := hk9
                    have u0 : ∀ j, w9.cell? ⟨w.heap.size, j, none⟩ = _ := fun j => (hc9 _ j v1).trans (v0 j)
                    have u1 : w.heap.size < w9.heap.size := Nat.lt_of_lt_of_le v1 hb9.size
                    have e0 := (hc9 _ _ hb).trans c0
                    have hb' : blk < w9.heap.size := Nat.lt_of_lt_of_le hb hb9.size
                    have HA9 := Lib.hid (HAx.out.below hb9)
                    have hbx9 := below_step hbx hb9
                    clear c0 c1 c2 c3 c4 c5 c6 v0 v1 hc9 hb hbr
                    generalize w9 = w3 at *
                    have hbr := Below.refl w3.heap.size w3
                    cases k with
                    | zero =>
                      have HK2 : Hid (firstE (curAtE r.U r.S.F.length) 1 = 0) := firstE_go HK.out (curAtE_zero hlt (by rw [HX.out]; exact HE0.out))
                      go_wp2_with fail
                      (refine wp_region_kept w3 (by kernel_rfl) (by kernel_rfl) (by assumption) ?_; (repeat (go_big_quiet_step ((first | fail)))); refine wpQuiet_nil ?_; intro _ hw'; obtain ⟨x9, hw''⟩ := hw'; subst hw''; have hk9 := after_kept x9; generalize after x9 = w9 at *)
                      obtain ⟨hc8, hb8⟩ := hk9
                      go_wp2_with fail
                      go_roundw
                      case measure => simp [intOf]; omega
                      case rel => exact ⟨1, by omega, by go_num, HK2, below_step hbx9 hb8⟩
                    | succ j =>
                      have hjl : j < r.U.length := by omega
                      have hj0 : (0 : Int) < ((j + 1 : Nat) : Int) := by omega
                      have hj1 : IntKind.i64.wrap (((j + 1 : Nat) : Int) - 1) = (j : Int) := by rw [show ((j + 1 : Nat) : Int) - 1 = j by omega]; exact IntWalk.i64_in _ (by omega)
                      have hj2 : (j : Int) < (r.U.length : Int) := by omega
                      obtain ⟨b3, off3, hA3, hb3, d0, d1, d2, d3, d4, d5, d6⟩ := cur_at HA9.out.sU hjl
                      injection hA3 with hA3
                      injection hA3 with hA3 hA4 _
                      subst hA3; subst hA4
                      have HT1 : Hid (nameLe x.nm (r.U[j]'hjl).nm = true → curAtE r.U r.S.F.length (j + 1) = 1) := fun g => curAtE_two hlt (by rw [HX.out]; exact HE0.out) (by rw [HX.out]; exact g)
                      have HT2 : Hid (nameLe x.nm (r.U[j]'hjl).nm = false → curAtE r.U r.S.F.length (j + 1) = 0) := fun g => curAtE_ok hlt (by rw [HX.out]; exact HE0.out) (by rw [HX.out]; exact g)
                      generalize r.U[j] = y at *
                      clear d1 d2 d3 d4 d5 d6
                      cases hq : nameLe x.nm y.nm with
                      | true =>
                        have he1 := HT1.out hq
                        have HE := Lib.hid (HBAD.out (by rw [he1]; decide))
                        have HE1 := Lib.hid he1
                        have hq2 : (Op.bytesLess x.nm.toList y.nm.toList || x.nm.toList == y.nm.toList) = true := hq
                        clear he1 hq
                        go_wp2_with fail
                        (refine wp_region_kept w3 (by kernel_rfl) (by kernel_rfl) (by assumption) ?_; (repeat (go_big_quiet_step ((first | fail)))); refine wpQuiet_nil ?_; intro _ hw'; obtain ⟨x9, hw''⟩ := hw'; subst hw''; have hk9 := after_kept x9; generalize after x9 = w9 at *)
                        obtain ⟨hc8, hb8⟩ := hk9
                        go_wp2_with fail
                        go_ret
                        exact ⟨ret_int (by rw [HE.out, HE1.out]), below_step hbwm (below_step hbx9 hb8)⟩
                      | false =>
                        have HK2 := Lib.hid (firstE_go HK.out (HT2.out hq))
                        have hq2 : (Op.bytesLess x.nm.toList y.nm.toList || x.nm.toList == y.nm.toList) = false := hq
                        clear hq
                        go_wp2_with fail
                        (refine wp_region_kept w3 (by kernel_rfl) (by kernel_rfl) (by assumption) ?_; (repeat (go_big_quiet_step ((first | fail)))); refine wpQuiet_nil ?_; intro _ hw'; obtain ⟨x9, hw''⟩ := hw'; subst hw''; have hk9 := after_kept x9; generalize after x9 = w9 at *)
                        obtain ⟨hc8, hb8⟩ := hk9
                        go_wp2_with fail
                        go_roundw
                        case measure => simp [intOf]; omega
                        case rel => exact ⟨j + 1 + 1, by omega, by go_num, HK2, below_step hbx9 hb8⟩
                  · have he9 := HC0.out he
                    have HE := Lib.hid (HBAD.out (by rw [he9]; exact he))
                    have HE9 := Lib.hid he9
                    have hne : (curE x r.S.F.length != 0) = true := by simpa using he
                    clear he9
                    go_wp2_with fail
                    (refine wp_region_kept wr (by kernel_rfl) (by kernel_rfl) (by assumption) ?_; (repeat (go_big_quiet_step ((first | (go_at_call 34; exact kept_call (HCE.out _)))))); refine wpQuiet_nil ?_; intro _ hw'; obtain ⟨x9, hw''⟩ := hw'; subst hw''; have hk9 := after_kept x9; generalize after x9 = w9 at *)
                    obtain ⟨hc9, hb9⟩ := hk9
                    go_wp2_with fail
                    go_ret
                    exact ⟨ret_int (by rw [HE.out, HE9.out]), below_step hbwm (below_step hbx hb9)⟩
                · have hki : ¬ (k : Int) < (r.U.length : Int) := by omega
                  obtain rfl : k = r.U.length := by omega
                  have HE := Lib.hid (limE_done HS.out HZ.out HN.out HCC.out HU.out HK.out)
                  go_wp2_with fail
                  go_ret
                  exact ⟨ret_int HE.out.symm, below_step hbwm hbx⟩
  · have HE := Lib.hid (limE_site hs)
    have hne : (siteE r.S != 0) = true := by simpa using hs
    go_wp2_with fail
    go_ret
    exact ⟨ret_int HE.out.symm, hb01⟩

end Go.Proofs.YtmappmeojmdekaaGreatDoor

namespace Go.Proofs.YtmappmeojmdekaaGreatDoor
open Go.RowKit Go.Lib Go.Maps
attribute [local go_sem] after_cell
set_option linter.unusedVariables false

set_option maxRecDepth 100000 in
theorem limTime_any (t : Int) (w : World) : Calls Tryz.prog 35 #[.int .i64 t] w fun e w' => e = .returned (.bool (timeB t)) ∧ w = w' := by
  go_enter Tryz.func35, Tryz.ntmps35
  go_wp2
  all_goals go_ret
  all_goals exact ⟨ret_bool (by rw [Bool.eq_iff_iff, timeB_iff]; simp; omega), rfl⟩

/-- the error of At, and the caps -/
def atE (r : RulR) (t : Int) : Int := if limE r ≠ 0 then limE r else if timeB t = false then 2 else 0
noncomputable def atL (r : RulR) (t : Int) : List CapR := if atE r t = 0 then capsL r t else []
theorem atE_bad {r : RulR} {t : Int} (h : limE r ≠ 0) : atE r t = limE r := if_pos h
theorem atE_time {r : RulR} {t : Int} (h : limE r = 0) (g : timeB t = false) : atE r t = 2 := by unfold atE; rw [if_neg (by rw [h]; decide), if_pos g]
theorem atE_ok {r : RulR} {t : Int} (h : limE r = 0) (g : timeB t = true) : atE r t = 0 := by unfold atE; rw [if_neg (by rw [h]; decide), if_neg (by rw [g]; decide)]
theorem atL_none {r : RulR} {t : Int} (h : atE r t ≠ 0) : atL r t = [] := if_neg h
theorem atL_ok {r : RulR} {t : Int} (h : atE r t = 0) : atL r t = capsL r t := if_pos h
/-- what At hands back -/
def AtPost (w : World) (r : RulR) (t : Int) (e : Ending) (w' : World) : Prop := ∃ v, e = .returned (.tuple #[v, .int .i64 (atE r t)]) ∧ IsSl w' 4 v ((atL r t).map CapR.cells) ∧ Below w.heap.size w w'
theorem AtPost.mk {w : World} {r : RulR} {t c : Int} {L : List CapR} {v : Value} {w' : World} (h : atE r t = c) (hl : atL r t = L) (hs : IsSl w' 4 v (L.map CapR.cells)) (hb : Below w.heap.size w w') : AtPost w r t (.returned (.tuple #[v, .int .i64 c])) w' :=
  ⟨v, by rw [h], by rw [hl]; exact hs, hb⟩
/-- the first k caps are there -/
noncomputable def capsK (r : RulR) (t : Int) (k : Nat) : List CapR := (capsL r t).take k ++ List.replicate (r.S.F.length - k) zeroC
theorem capsK_len {r : RulR} {t : Int} {k : Nat} (h : k ≤ r.S.F.length) : (capsK r t k).length = r.S.F.length := by
  unfold capsK
  rw [List.length_append, List.length_take, capsL_len, List.length_replicate]; omega
theorem capsK_zero (r : RulR) (t : Int) : capsK r t 0 = List.replicate r.S.F.length zeroC := by unfold capsK; simp
theorem capsK_full (r : RulR) (t : Int) : capsK r t r.S.F.length = capsL r t := by
  unfold capsK
  rw [List.take_of_length_le (by rw [capsL_len]; exact Nat.le_refl _)]; simp
theorem capsK_at {r : RulR} {t : Int} {k : Nat} (h : k < r.S.F.length) : (capsK r t k)[k]? = some zeroC := by
  unfold capsK
  have hl : ((capsL r t).take k).length = k := by rw [List.length_take, capsL_len]; omega
  rw [List.getElem?_append_right (by omega), hl, Nat.sub_self, List.getElem?_replicate, if_pos (by omega)]
theorem capsK_set {r : RulR} {t : Int} {k : Nat} (h : k < r.S.F.length) : (capsK r t k).set k (capFd r t r.S.F[k] k) = capsK r t (k + 1) := by
  unfold capsK
  have hl : ((capsL r t).take k).length = k := by rw [List.length_take, capsL_len]; omega
  obtain ⟨m, hm⟩ : ∃ m, r.S.F.length - k = m + 1 := ⟨r.S.F.length - k - 1, by omega⟩
  have hm2 : r.S.F.length - (k + 1) = m := by omega
  rw [List.set_append_right _ _ (by omega), hl, Nat.sub_self, hm, List.replicate_succ, List.set_cons_zero, hm2, List.take_succ_eq_append_getElem (by rw [capsL_len]; exact h), capsL_at]
  simp
theorem capsK_step {r : RulR} {t : Int} {k : Nat} (h : k < r.S.F.length) : setAll ((capsK r t k).flatMap CapR.cells) (k * 4) (capFd r t r.S.F[k] k).cells = (capsK r t (k + 1)).flatMap CapR.cells := by
  rw [set_row CapR.cells_len (by omega) _ k (by rw [capsK_len (by omega)]; exact h), capsK_set h]

set_option maxRecDepth 100000 in
set_option maxHeartbeats 12800000 in
theorem limAt_any (r : RulR) (fv pv cv uv : Value) (t : Int) (w : World) (hv : LenV w) (hI : LimIn w r fv pv cv uv) :
    Calls Tryz.prog 14 #[.agg #[.string r.S.name, fv, pv, .int .i64 r.z.off, .bool r.z.sum, cv, uv], .int .i64 t] w (AtPost w r t) := by
  have HI := Lib.hid hI
  obtain ⟨A, B, C, D, a, b, c, d, rfl, rfl, rfl, rfl, hA⟩ := hI.ad
  obtain ⟨W0, hW0, hb0, hg0, hx0⟩ := box1 w #[.string r.S.name, .slice A r.S.F.length a, .slice B r.S.P.length b, .int .i64 r.z.off, .bool r.z.sum, .slice C r.C.length c, .slice D r.U.length d] 31
  have hfm := Nat.le_trans hA.lF.1 hA.lF.2
  unfold maxLen at hfm
  have HI0 := Lib.hid (HI.out.below hb0)
  have HV0 := Lib.hid (hv.below hb0)
  clear hA hI hv
  go_enter Tryz.func14, Tryz.ntmps14
  go_wp2_with fail
  rw [← hW0]
  clear hW0
  refine (limValid_any r _ _ _ _ W0 HI0.out).mono ?_
  rintro e w1 ⟨rfl, hb1⟩
  have y0 : ∀ j, w1.cell? ⟨w.heap.size, j, none⟩ = _ := fun j => (hb1.cell (p := ⟨w.heap.size, j, none⟩) hg0).trans (hx0 j)
  have y1 : w.heap.size < w1.heap.size := Nat.lt_of_lt_of_le hg0 hb1.size
  have HI1 := Lib.hid (HI0.out.below hb1)
  have HV1 := Lib.hid (HV0.out.below hb1)
  have hb01 := below_step hb0 hb1
  clear hx0 hg0 hb1 HI0 HV0
  by_cases he : limE r = 0
  · have HE := Lib.hid he
    have HOK := Lib.hid (LimOk.of he)
    rw [he]
    clear he
    cases ht : timeB t with
    | false =>
      have HAE := Lib.hid (atE_time HE.out ht)
      have HAL := Lib.hid (atL_none (r := r) (t := t) (by rw [HAE.out]; decide))
      have HT := Lib.hid ht
      clear ht
      go_wp2_with fail
      refine (limTime_any t _).mono ?_
      rintro e w2 ⟨rfl, rfl⟩
      rw [HT.out]
      go_wp2_with fail
      go_ret2
      exact AtPost.mk HAE.out HAL.out (IsSl.nil _ _) hb01
    | true =>
      have HAE := Lib.hid (atE_ok HE.out ht)
      have HAL := Lib.hid (atL_ok HAE.out)
      have HT := Lib.hid ht
      clear ht
      obtain ⟨i0, hi0, hz0, hz1, hz2⟩ := info_parts capInfo
      have hlen := HOK.out.lens.1
      have hmk := fun W => run_make_rowZ (P := Tryz.prog) 36 56 i0 _ Tryz.underlying36 hi0 hz0 .i64 .i64 r.S.F.length r.S.F.length (r.S.F.length : Int) (r.S.F.length : Int) rfl rfl (by omega) (by rw [hz2]; omega) (by omega) W
      rw [hz1] at hmk
      have HZC := Lib.hid (zero_cells r.S.F.length)
      generalize madeCells _ (r.S.F.length * 4) = ZC at hmk HZC
      have hb2 : Below w1.heap.size w1 (w1.alloc (.cells ZC 56)) := below_alloc (Below.refl _ _) _
      have z0 : ∀ j, (w1.alloc (.cells ZC 56)).cell? ⟨w.heap.size, j, none⟩ = _ := fun j => (hb2.cell (p := ⟨w.heap.size, j, none⟩) y1).trans (y0 j)
      have z1 : w.heap.size < (w1.alloc (.cells ZC 56)).heap.size := Nat.lt_of_lt_of_le y1 hb2.size
      have HB1 : Hid (Blk (w1.alloc (.cells ZC 56)) w1.heap.size 56 ((capsK r t 0).flatMap CapR.cells)) := by
        refine Blk.new' rfl _ _ ?_
        rw [HZC.out, capsK_zero]
      have hg2 : w1.heap.size < (w1.alloc (.cells ZC 56)).heap.size := by simp
      go_wp2_with fail
      refine (limTime_any t _).mono ?_
      rintro e w2 ⟨rfl, rfl⟩
      rw [HT.out]
      go_wp2_with fail
      generalize w1.alloc (.cells ZC 56) = W2 at *
      clear hmk HZC
      generalize hg : w1.heap.size = g at *
      go_loopw [24] (fun i wr => ∃ k : Nat, k ≤ r.S.F.length ∧ i = .int .i64 k ∧ Below g w1 wr ∧ g < wr.heap.size ∧ Hid (Blk wr g 56 ((capsK r t k).flatMap CapR.cells))) (fun i _ => r.S.F.length - (intOf i).toNat)
      case atStart => exact ⟨0, by omega, rfl, hb2, hg2, HB1⟩
      case round =>
        obtain ⟨k, hk, rfl, hbw, hgm, HB⟩ := hrel
        by_cases hlt : k < r.S.F.length
        · have hki : (k : Int) < (r.S.F.length : Int) := by omega
          have v0 : ∀ j, wr.cell? ⟨w.heap.size, j, none⟩ = _ := fun j => (hbw.cell (p := ⟨w.heap.size, j, none⟩) y1).trans (y0 j)
          have v1 : w.heap.size < wr.heap.size := by omega
          have hbw' : Below w1.heap.size w1 wr := by rw [hg]; exact hbw
          have HCA := Lib.hid (capAt_any r _ _ _ _ k t wr (HV1.out.below hbw') (HI1.out.below hbw') hlt HOK.out.rated)
          have HST := Lib.hid (capsK_step (t := t) hlt)
          have HAT := Lib.hid (fun j u hu => flat_at CapR.cells 4 CapR.cells_len (capsK r t k) k zeroC (capsK_at hlt) j u hu)
          generalize hx : r.S.F[k] = x at *
          clear hx
          go_wp2_with fail
          refine HCA.out.mono ?_
          rintro e w4 ⟨rfl, hb4⟩
          have HB4 := Lib.hid (HB.out.below hb4 hgm)
          have k0 := (HB4.out.cell (k * 4)).trans (HAT.out 0 _ rfl)
          have k1 := (HB4.out.cell (k * 4 + 1)).trans (HAT.out 1 _ rfl)
          have k2 := (HB4.out.cell (k * 4 + 2)).trans (HAT.out 2 _ rfl)
          have k3 := (HB4.out.cell (k * 4 + 3)).trans (HAT.out 3 _ rfl)
          have hf := fun j => HB4.out.free j
          have hg4 : g < w4.heap.size := Nat.lt_of_lt_of_le hgm hb4.size
          have hbw4 : Below g w1 w4 := hbw.trans (hb4.mono (Nat.le_of_lt hgm))
          generalize hcp : capF r.lim k t = cp at *
          go_wp2_with fail
          obtain ⟨w5, hw5⟩ : ∃ w5, w5 = storeRow w4 g (k * 4) [.int .i64 x.a, .int .i64 x.b, .int .i64 x.c, .int .i64 cp] := ⟨_, rfl⟩
          rw [show (((w4.setCell ⟨g, k * 4, none⟩ (.int .i64 x.a)).setCell ⟨g, k * 4 + 1, none⟩ (.int .i64 x.b)).setCell ⟨g, k * 4 + 2, none⟩ (.int .i64 x.c)).setCell ⟨g, k * 4 + 3, none⟩ (.int .i64 cp) = w5 from hw5.symm]
          have HB5 : Hid (Blk w5 g 56 ((capsK r t (k + 1)).flatMap CapR.cells)) := by
            rw [hw5]
            have := HB4.out.store [.int .i64 x.a, .int .i64 x.b, .int .i64 x.c, .int .i64 cp] (k * 4)
            rw [← HST.out]
            unfold capFd CapR.cells
            rw [hcp]
            exact this
          have hb5 : Below g w1 w5 := by rw [hw5]; exact storeRow_below (Nat.le_refl _) _ _ _ hbw4
          have hg5 : g < w5.heap.size := by rw [hw5, storeRow_size]; exact hg4
          go_roundw
          case measure => simp [intOf]; omega
          case rel => exact ⟨k + 1, by omega, by go_num, hb5, hg5, HB5⟩
        · have hki : ¬ (k : Int) < (r.S.F.length : Int) := by omega
          obtain rfl : k = r.S.F.length := by omega
          have HB2 := HB.out
          rw [capsK_full] at HB2
          have HB3 := Lib.hid HB2
          clear HB2
          go_wp2_with fail
          go_ret2
          exact AtPost.mk HAE.out HAL.out (Blk.isSl CapR.cells_len HB3.out (capsL_len r t) (by unfold maxLen; omega)) (below_step hb01 (by rw [hg]; exact hbw))
  · have HE := Lib.hid (atE_bad (t := t) he)
    have HL := Lib.hid (atL_none (r := r) (t := t) (by rw [HE.out]; exact he))
    have hne : (limE r != 0) = true := by simpa using he
    go_wp2_with fail
    go_ret2
    exact AtPost.mk HE.out HL.out (IsSl.nil _ _) hb01

end Go.Proofs.YtmappmeojmdekaaGreatDoor
