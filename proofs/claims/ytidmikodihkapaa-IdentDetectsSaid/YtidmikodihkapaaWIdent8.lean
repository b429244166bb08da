/-
  Walks: Parse of the reference.
-/
import Derived.Test.YtidmikodihkapaaWIdent7
import Derived.Deep.RegionWith
import Derived.Deep.DrawnRows
namespace Go.Proofs.Ytidmikodihkapaa
open Go.RowKit Go.Lib Go.Joins
set_option linter.unusedVariables false

theorem form_cap (s S : ByteArray) (hS : S.data.toList = capL s.data.toList) (h18 : s.size = 18) : formL s.data.toList =
    ((s.data.toList.getD 2 0 == 45) && ((s.data.toList.getD 6 0 == 45) && ((s.data.toList.getD 16 0 == 45) &&
    (alnumL (S.data.toList.take 2) 2 10 && (alnumL ((S.data.toList.drop 3).take 3) 3 0 && (alnumL ((S.data.toList.drop 7).take 9) 9 0 && alnumL ((S.data.toList.drop 17).take (s.size - 17)) 1 0)))))) := by
  rw [form_eq s h18, hS]
  simp only [← capL_drop, ← capL_take, alnumL_cap]

theorem capS_extract (s : ByteArray) (a b : Nat) : capS (s.extract a b) = (capS s).extract a b := by
  have h : (capS (s.extract a b)).data.toList = ((capS s).extract a b).data.toList := by
    rw [capS_data, Lib.extract_data, Lib.extract_data, capS_data, capL_take, capL_drop]
  have h1 := Lib.mk_data (capS (s.extract a b))
  have h2 := Lib.mk_data ((capS s).extract a b)
  rw [← h1, ← h2, h]

theorem capL_getD (l : List UInt8) (k : Nat) (h : k < l.length) : (capL l).getD k 0 = capU (l.getD k 0) := by
  simp [capL, List.getD_eq_getElem?_getD, List.getElem?_eq_getElem h]

theorem made_eq {s S : ByteArray} (hS : S.data.toList = capL s.data.toList) (hf : formL s.data.toList = true) :
    ((makeS (S.extract 0 2) (S.extract 3 6) (S.extract 7 16)).toList == S.toList) = sumOK s.data.toList := by
  have hf0 := hf
  obtain ⟨hE, hC0, hC1⟩ := form_check hf
  unfold formL at hf
  simp only [Bool.and_eq_true, decide_eq_true_eq, beq_iff_eq] at hf
  obtain ⟨hl, h2, h6, h16, a1, a2, a3, _⟩ := hf
  have hSl : (capL s.data.toList).length = 18 := by rw [capL_len]; exact hl
  have e45 : capU 45 = 45 := by decide
  obtain ⟨g1, g2⟩ := form_split hSl (by rw [capL_getD _ _ (by omega), h2, e45]) (by rw [capL_getD _ _ (by omega), h6, e45]) (by rw [capL_getD _ _ (by omega), h16, e45])
  have x1 : (S.extract 0 2).data.toList = (capL s.data.toList).take 2 := by rw [Lib.extract_data, hS]; rfl
  have x2 : (S.extract 3 6).data.toList = ((capL s.data.toList).drop 3).take 3 := by rw [Lib.extract_data, hS]
  have x3 : (S.extract 7 16).data.toList = ((capL s.data.toList).drop 7).take 9 := by rw [Lib.extract_data, hS]
  have hok : makeOK (S.extract 0 2) (S.extract 3 6) (S.extract 7 16) = true := by
    unfold makeOK
    rw [x1, x2, x3]
    simp only [← capL_drop, ← capL_take, alnumL_cap, a1, a2, a3, Bool.and_self]
  have hj : (joinS (S.extract 0 2) (S.extract 3 6) (S.extract 7 16)).data.toList = capL (s.data.toList.take 16) := by
    rw [joinS_data, x1, x2, x3, ← g1, capL_take]
  have hm : (makeS (S.extract 0 2) (S.extract 3 6) (S.extract 7 16)).data.toList = capL (s.data.toList.take 16) ++ [45] ++ [UInt8.ofNat (checkC (s.data.toList.take 16)).toNat] := by
    unfold makeS
    rw [if_pos hok]
    unfold makeGood
    simp only [data_append, capS_data, hj, capL_capL, checkC_cap]
  rw [str_eq, hm, hS]
  have hS2 : capL s.data.toList = capL (s.data.toList.take 16) ++ [45] ++ [capU (s.data.toList.getD 17 0)] := by
    rw [g2, ← capL_take, capL_getD _ _ (by omega)]
  rw [hS2]
  unfold sumOK
  have hcap := capU_capI (s.data.toList.getD 17 0)
  have hlt := (capU (s.data.toList.getD 17 0)).toNat_lt
  generalize checkC (s.data.toList.take 16) = x at *
  generalize capU (s.data.toList.getD 17 0) = y at *
  rw [← hcap]
  by_cases h : x = (y.toNat : Int)
  · have : UInt8.ofNat x.toNat = y := by apply UInt8.toNat_inj.1; simp; omega
    rw [this, h]; simp
  · have : ¬ UInt8.ofNat x.toNat = y := by
      intro e
      apply h
      have := congrArg UInt8.toNat e
      simp at this; omega
    have h' : (x == (y.toNat : Int)) = false := by simpa using h
    rw [h']
    simp [this]

set_option maxHeartbeats 1600000 in
theorem refParse_good (s : ByteArray) (w : World) (hlo : 18 ≤ s.size) (hhi : s.size ≤ 18)
    (b2 : ((s[2].toNat : Int) != 45) = false) (b6 : ((s[6].toNat : Int) != 45) = false) (b16 : ((s[16].toNat : Int) != 45) = false)
    (HS : Hid (∀ S, S = capS s → formL s.data.toList = (alnumL (S.data.toList.take 2) 2 10 && (alnumL ((S.data.toList.drop 3).take 3) 3 0 && (alnumL ((S.data.toList.drop 7).take 9) 9 0 && alnumL ((S.data.toList.drop 17).take (S.size - 17)) 1 0))))) :
    Calls Try.prog 17 #[.string s] w fun e w' => e = .returned (.tuple #[.string (parse1 s), .string (parse2 s), .string (parse3 s), .int .i64 (parseE s.data.toList)]) ∧ Below w.heap.size w w' := by
  have hbw := Below.refl w.heap.size w
  have hne : ((s.size : Int) != 18) = false := by simp; omega
  have hsc := size_cap s
  have hs1 : 18 ≤ (capS s).size := by omega
  have hs2 : (capS s).size ≤ 18 := by omega
  have HSS : Hid (∀ S, S = capS s → S.data.toList = capL s.data.toList) := fun S h => by rw [h]; exact capS_data s
  have HCC : Hid (∀ S, S = capS s → capS s = S) := fun S h => h.symm
  clear hsc
  go_enter Try.func17, Try.ntmps17
  go_wp2_with fail
  refine (refCapitals_any s _ (by unfold maxLen; omega)).mono ?_
  rintro e w1 ⟨rfl, hb⟩
  replace hbw := hbw.trans (hb.mono hbw.size)
  clear hb
  have HF := HS.out _ rfl
  have HD := HSS.out _ rfl
  clear HS HSS HCC
  generalize hSs : capS s = S at *
  have HC := Lib.hid hSs
  clear hSs
  replace HF := Lib.hid HF
  replace HD := Lib.hid HD
  go_wp2_with (first
    | (go_at_call 25; refine (consists_any _ _ _ _ (size_extract_le S _ _ hs2)).mono ?_; rintro e w' ⟨rfl, hb⟩; replace hbw := hbw.trans ((drewN_below hb).mono hbw.size); clear hb))
  all_goals try (
    have hff : formL s.data.toList = false := by first | exact HF.out.trans (and_f1 ‹_›) | exact HF.out.trans (and_f2 ‹_›) | exact HF.out.trans (and_f3 ‹_›) | exact HF.out.trans (and_f4 ‹_›)
    refine bodyPost_ret (results_tmp4 rfl _ _ _) rfl ?_
    exact ⟨ret_parse (parse_form hff), hbw⟩)
  have hft : formL s.data.toList = true := HF.out.trans (and_t ‹_› ‹_› ‹_› ‹_›)
  have hme := made_eq HD.out hft
  have HFT := Lib.hid hft
  clear hft
  have i2 : (2 : Int) ≤ (S.size : Int) := by omega
  have i6 : (6 : Int) ≤ (S.size : Int) := by omega
  have i16 : (16 : Int) ≤ (S.size : Int) := by omega
  go_region_with (go_at_call 15; refine (refMake_any _ _ _ _ (size_extract_le S _ _ hs2) (size_extract_le S _ _ hs2) (size_extract_le S _ _ hs2)).mono ?_; rintro e w' ⟨rfl, hb⟩; replace hbw := hbw.drew.trans (hb.mono hbw.size); clear hb)
  cases hs : sumOK s.data.toList with
  | false =>
    have HP := Lib.hid (parse_sum HFT.out hs)
    rw [hs] at hme
    clear hs
    go_wp2
    refine bodyPost_ret (results_tmp4 rfl _ _ _) rfl ?_
    exact ⟨ret_parse HP.out, hbw⟩
  | true =>
    have hpg := parse_good HFT.out hs
    rw [capS_extract, capS_extract, capS_extract, HC.out] at hpg
    have HP := Lib.hid hpg
    rw [hs] at hme
    clear hs hpg
    go_wp2
    go_region
    all_goals go_wp2
    all_goals refine bodyPost_ret (results_tmp4 rfl _ _ _) rfl ?_
    all_goals exact ⟨ret_parse HP.out, hbw.drew⟩

set_option maxHeartbeats 1600000 in
theorem refParse_any (s : ByteArray) (w : World) (hsz : s.size ≤ maxLen) :
    Calls Try.prog 17 #[.string s] w fun e w' => e = .returned (.tuple #[.string (parse1 s), .string (parse2 s), .string (parse3 s), .int .i64 (parseE s.data.toList)]) ∧ Below w.heap.size w w' := by
  unfold maxLen at hsz
  by_cases h18 : s.size = 18
  · have hlo : 18 ≤ s.size := by omega
    have hhi : s.size ≤ 18 := by omega
    have hne : ((s.size : Int) != 18) = false := by simp; omega
    have hf := form_eq s h18
    have hfc := fun S hS => form_cap s S hS h18
    clear h18
    have b2 := byte_eq (s := s) (k := 2) (by omega)
    have b6 := byte_eq (s := s) (k := 6) (by omega)
    have b16 := byte_eq (s := s) (k := 16) (by omega)
    cases c2 : (s.data.toList.getD 2 0 == 45) with
    | false =>
      rw [c2] at b2 hf
      simp only [Bool.not_false, Bool.false_and] at b2 hf
      have HP := Lib.hid (parse_form hf)
      clear hf c2 b6 b16 hfc
      go_enter Try.func17, Try.ntmps17
      go_wp2
      refine bodyPost_ret (results_tmp4 rfl _ _ _) rfl ?_
      exact ⟨ret_parse HP.out, Below.refl _ _⟩
    | true =>
    cases c6 : (s.data.toList.getD 6 0 == 45) with
    | false =>
      rw [c2] at b2 hf
      rw [c6] at b6 hf
      simp only [Bool.not_true, Bool.not_false, Bool.true_and, Bool.false_and] at b2 b6 hf
      have HP := Lib.hid (parse_form hf)
      clear hf c2 c6 b16 hfc
      go_enter Try.func17, Try.ntmps17
      go_wp2
      refine bodyPost_ret (results_tmp4 rfl _ _ _) rfl ?_
      exact ⟨ret_parse HP.out, Below.refl _ _⟩
    | true =>
    cases c16 : (s.data.toList.getD 16 0 == 45) with
    | false =>
      rw [c2] at b2 hf
      rw [c6] at b6 hf
      rw [c16] at b16 hf
      simp only [Bool.not_true, Bool.not_false, Bool.true_and, Bool.false_and] at b2 b6 b16 hf
      have HP := Lib.hid (parse_form hf)
      clear hf c2 c6 c16 hfc
      go_enter Try.func17, Try.ntmps17
      go_wp2
      refine bodyPost_ret (results_tmp4 rfl _ _ _) rfl ?_
      exact ⟨ret_parse HP.out, Below.refl _ _⟩
    | true =>
      rw [c2] at b2
      rw [c6] at b6
      rw [c16] at b16
      refine refParse_good s w hlo hhi b2 b6 b16 (fun S hS => ?_)
      have e := hfc S (by rw [hS]; exact capS_data s)
      rw [c2, c6, c16] at e
      rw [e, show S.size = s.size by rw [hS]; exact size_cap s]
      rfl
  · have hf : formL s.data.toList = false := by
      have hl : ¬ s.data.toList.length = 18 := by simpa using h18
      unfold formL; rw [decide_eq_false hl]; rfl
    have hne : ((s.size : Int) != 18) = true := by simp; omega
    have HP := Lib.hid (parse_form hf)
    clear hf h18
    go_enter Try.func17, Try.ntmps17
    go_wp2
    refine bodyPost_ret (results_tmp4 rfl _ _ _) rfl ?_
    exact ⟨ret_parse HP.out, Below.refl _ _⟩

end Go.Proofs.Ytidmikodihkapaa
