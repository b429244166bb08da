/-
  Walks: Valid of the reference of package site.
-/
import Derived.Test.YtkjggfhbnhpdnaaDoorWSite2
import Derived.Test.YtkjggfhbnhpdnaaDoorWIdent4
namespace Go.Proofs.YtkjggfhbnhpdnaaDoor
open Go.RowKit Go.Lib Go.Maps
set_option linter.unusedVariables false

theorem same_key {a b : ByteArray} : sameS a b = decide (keyN a = keyN b) := by unfold sameS keyN; rfl
theorem keysF_mem {F : List Feed} {k n : Nat} (hk : k < n) (hn : n ≤ F.length) : keyN (F[k]'(by omega)).name ∈ keysF (F.take n) := by
  unfold keysF
  refine List.mem_map.2 ⟨F[k]'(by omega), ?_, rfl⟩
  exact List.mem_take_iff_getElem.2 ⟨k, by omega, rfl⟩
theorem keysP_mem {P : List Pnt} {k n : Nat} (hk : k < n) (hn : n ≤ P.length) : keyN (P[k]'(by omega)).name ∈ keysP (P.take n) := by
  unfold keysP
  refine List.mem_map.2 ⟨P[k]'(by omega), ?_, rfl⟩
  exact List.mem_take_iff_getElem.2 ⟨k, by omega, rfl⟩

set_option maxRecDepth 100000 in
set_option maxHeartbeats 3200000 in
theorem known_any (s : ByteArray) (F : List Feed) (P : List Pnt) (fv pv : Value) (n m : Nat) (name : ByteArray) (w : World) (hF : IsSl w 5 fv (F.map Feed.cells)) (hP : IsSl w 5 pv (P.map Pnt.cells)) (hn : n ≤ F.length) (hm : m ≤ P.length) (hl1 : F.length ≤ 1000000) (hl2 : P.length ≤ 1000000)
    (hfF : ∀ f ∈ F, f.fits) (hfP : ∀ p ∈ P, p.fits) (hnm : name.size ≤ maxLen) :
    Calls Tryd.prog 36 #[.agg #[.string s, fv, pv], .int .i64 n, .int .i64 m, .string name] w
      fun e w' => e = .returned (.bool (decide (keyN name ∈ keysF (F.take n) ++ keysP (P.take m)))) ∧ Below w.heap.size w w' := by
  obtain ⟨A, c, rfl, hlc, hcm, hsl⟩ := islen' hF
  obtain ⟨B, d, rfl, hld, hdm, hsp⟩ := islen' hP
  obtain ⟨W0, hW0, hb0, hg0, hx0⟩ := box1 w #[.string s, .slice A F.length c, .slice B P.length d] 25
  have HSL := Lib.hid (hsl.below hb0)
  have HSP := Lib.hid (hsp.below hb0)
  have HFF := Lib.hid hfF
  have HFP := Lib.hid hfP
  clear hF hP hsl hsp hfF hfP hlc hld hcm hdm
  go_enter Tryd.func36, Tryd.ntmps36
  go_wp2_with fail
  rw [← hW0]
  clear hW0
  go_loopw [9] (fun i wr => ∃ k : Nat, k ≤ n ∧ i = .int .i64 k ∧ Below W0.heap.size W0 wr ∧ Hid (¬ keyN name ∈ keysF (F.take k))) (fun i _ => n - (intOf i).toNat)
  case atStart => exact ⟨0, by omega, rfl, Below.refl _ _, by show ¬ _; simp [keysF]⟩
  case round =>
    obtain ⟨k, hk, rfl, hbw, HM⟩ := hrel
    obtain ⟨hc, hf⟩ := bcell hbw
    by_cases hlt : k < n
    · have hki : (k : Int) < (n : Int) := by omega
      have hkF : k < F.length := by omega
      have hkF2 : (k : Int) < (F.length : Int) := by omega
      obtain ⟨b, off, rfl, hbb, c0, c1, c2, c3, c4⟩ := feed_at (HSL.out.below hbw) hkF
      have HKM := Lib.hid (keysF_mem hlt hn)
      have HKS := Lib.hid (keysF_step hkF)
      have hft := HFF.out _ (List.getElem_mem hkF)
      generalize F[k] = x at *
      go_wp2_with fail
      refine (refSame_any x.name name _ hft hnm).mono ?_
      rintro e w3 ⟨rfl, hb3⟩
      replace hbw := hbw.trans (hb3.mono hbw.size)
      cases hq : sameS x.name name with
      | true =>
        have hk2 : keyN x.name = keyN name := by rw [same_key] at hq; simpa using hq
        have HE : Hid (decide (keyN name ∈ keysF (F.take n) ++ keysP (P.take m)) = true) := by
          unfold Hid
          rw [← hk2]
          simpa using .inl HKM.out
        go_wp2_with fail
        go_ret
        exact ⟨ret_bool (by rw [HE.out]), below_step hb0 hbw⟩
      | false =>
        have hk2 : ¬ keyN x.name = keyN name := by rw [same_key] at hq; simpa using hq
        have HM2 : Hid (¬ keyN name ∈ keysF (F.take (k + 1))) := by
          unfold Hid
          rw [HKS.out]
          simp only [List.mem_append, List.mem_singleton, not_or]
          exact ⟨HM.out, fun h => hk2 h.symm⟩
        go_wp2_with fail
        go_roundw
        case measure => simp [intOf]; omega
        case rel => exact ⟨k + 1, by omega, by go_num, hbw, HM2⟩
    · have hkn : k = n := by omega
      subst hkn
      clear HSL hc hf
      go_wp2_with fail
      go_loopw [10] (fun i wr => ∃ q : Nat, q ≤ m ∧ i = .int .i64 q ∧ Below W0.heap.size W0 wr ∧ Hid (¬ keyN name ∈ keysP (P.take q))) (fun i _ => m - (intOf i).toNat)
      case atStart => exact ⟨0, by omega, rfl, hbw, by show ¬ _; simp [keysP]⟩
      case round =>
      clear hbw
      obtain ⟨q, hqm, rfl, hbw, HQ⟩ := hrel
      obtain ⟨hc, hf⟩ := bcell hbw
      by_cases hlt2 : q < m
      · have hki : (q : Int) < (m : Int) := by omega
        have hkP : q < P.length := by omega
        have hkP2 : (q : Int) < (P.length : Int) := by omega
        obtain ⟨b, off, rfl, hbb, c0, c1, c2, c3, c4⟩ := pnt_at (HSP.out.below hbw) hkP
        have HKM := Lib.hid (keysP_mem hlt2 hm)
        have HKS := Lib.hid (keysP_step hkP)
        have hft := HFP.out _ (List.getElem_mem hkP)
        generalize P[q] = x at *
        go_wp2_with fail
        refine (refSame_any x.name name _ hft hnm).mono ?_
        rintro e w3 ⟨rfl, hb3⟩
        replace hbw := hbw.trans (hb3.mono hbw.size)
        cases hq : sameS x.name name with
        | true =>
          have hk2 : keyN x.name = keyN name := by rw [same_key] at hq; simpa using hq
          have HE : Hid (decide (keyN name ∈ keysF (F.take k) ++ keysP (P.take m)) = true) := by
            unfold Hid
            rw [← hk2]
            simpa using .inr HKM.out
          go_wp2_with fail
          go_ret
          exact ⟨ret_bool (by rw [HE.out]), below_step hb0 hbw⟩
        | false =>
          have hk2 : ¬ keyN x.name = keyN name := by rw [same_key] at hq; simpa using hq
          have HQ2 : Hid (¬ keyN name ∈ keysP (P.take (q + 1))) := by
            unfold Hid
            rw [HKS.out]
            simp only [List.mem_append, List.mem_singleton, not_or]
            exact ⟨HQ.out, fun h => hk2 h.symm⟩
          go_wp2_with fail
          go_roundw
          case measure => simp [intOf]; omega
          case rel => exact ⟨q + 1, by omega, by go_num, hbw, HQ2⟩
      · have hqm2 : q = m := by omega
        subst hqm2
        have HE : Hid (decide (keyN name ∈ keysF (F.take k) ++ keysP (P.take q)) = false) := by
          unfold Hid
          simp only [decide_eq_false_iff_not, List.mem_append, not_or]
          exact ⟨HM.out, HQ.out⟩
        go_wp2_with fail
        go_ret
        exact ⟨ret_bool (by rw [HE.out]), below_step hb0 hbw⟩

end Go.Proofs.YtkjggfhbnhpdnaaDoor
