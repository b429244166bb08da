/-
  Walks: Parse of the reference.
-/
import Derived.Test.YtidmikodihkapaaDoorWIdent7
import Derived.Deep.RegionWith
import Derived.Deep.DrawnRows
namespace Go.Proofs.YtidmikodihkapaaDoor
open Go.RowKit Go.Lib Go.Joins
set_option linter.unusedVariables false

theorem form_cap (s S : ByteArray) (hS : S.data.toList = capL s.data.toList) (h18 : s.size = 18) : formL s.data.toList =
    ((s.data.toList.getD 2 0 == 45) && ((s.data.toList.getD 6 0 == 45) && ((s.data.toList.getD 16 0 == 45) &&
    (alnumL (S.data.toList.take 2) 2 10 && (alnumL ((S.data.toList.drop 3).take 3) 3 0 && (alnumL ((S.data.toList.drop 7).take 9) 9 0 && alnumL ((S.data.toList.drop 17).take (s.size - 17)) 1 0)))))) := by
  rw [form_eq s h18, hS]
  simp only [← capL_drop, ← capL_take, alnumL_cap]

theorem capS_extract (s : ByteArray) (a b : Nat) : capS (s.extract a b) = (capS s).extract a b := by
  have h : (capS (s.extract a b)).data.toList = ((capS s).extract a b).data.toList := by
    rw [capS_data, Lib.extract_data, Lib.extract_data, capS_data, capL_take, capL_drop]
  have h1 := Lib.mk_data (capS (s.extract a b))
  have h2 := Lib.mk_data ((capS s).extract a b)
  rw [← h1, ← h2, h]

theorem capL_getD (l : List UInt8) (k : Nat) (h : k < l.length) : (capL l).getD k 0 = capU (l.getD k 0) := by
  simp [capL, List.getD_eq_getElem?_getD, List.getElem?_eq_getElem h]

theorem made_eq {s S : ByteArray} (hS : S.data.toList = capL s.data.toList) (hf : formL s.data.toList = true) :
    ((makeS (S.extract 0 2) (S.extract 3 6) (S.extract 7 16)).toList == S.toList) = sumOK s.data.toList := by
  have hf0 := hf
  obtain ⟨hE, hC0, hC1⟩ := form_check hf
  unfold formL at hf
  simp only [Bool.and_eq_true, decide_eq_true_eq, beq_iff_eq] at hf
  obtain ⟨hl, h2, h6, h16, a1, a2, a3, _⟩ := hf
  have hSl : (capL s.data.toList).length = 18 := by rw [capL_len]; exact hl
  have e45 : capU 45 = 45 := by decide
  obtain ⟨g1, g2⟩ := form_split hSl (by rw [capL_getD _ _ (by omega), h2, e45]) (by rw [capL_getD _ _ (by omega), h6, e45]) (by rw [capL_getD _ _ (by omega), h16, e45])
  have x1 : (S.extract 0 2).data.toList = (capL s.data.toList).take 2 := by rw [Lib.extract_data, hS]; rfl
  have x2 : (S.extract 3 6).data.toList = ((capL s.data.toList).drop 3).take 3 := by rw [Lib.extract_data, hS]
  have x3 : (S.extract 7 16).data.toList = ((capL s.data.toList).drop 7).take 9 := by rw [Lib.extract_data, hS]
  have hok : makeOK (S.extract 0 2) (S.extract 3 6) (S.extract 7 16) = true := by
    unfold makeOK
    rw [x1, x2, x3]
    simp only [← capL_drop, ← capL_take, alnumL_cap, a1, a2, a3, Bool.and_self]
  have hj : (joinS (S.extract 0 2) (S.extract 3 6) (S.extract 7 16)).data.toList = capL (s.data.toList.take 16) := by
    rw [joinS_data, x1, x2, x3, ← g1, capL_take]
  have hm : (makeS (S.extract 0 2) (S.extract 3 6) (S.extract 7 16)).data.toList = capL (s.data.toList.take 16) ++ [45] ++ [UInt8.ofNat (checkC (s.data.toList.take 16)).toNat] := by
    unfold makeS
    rw [if_pos hok]
    unfold makeGood
    simp only [data_append, capS_data, hj, capL_capL, checkC_cap]
  rw [str_eq, hm, hS]
  have hS2 : capL s.data.toList = capL (s.data.toList.take 16) ++ [45] ++ [capU (s.data.toList.getD 17 0)] := by
    rw [g2, ← capL_take, capL_getD _ _ (by omega)]
  rw [hS2]
  unfold sumOK
  have hcap := capU_capI (s.data.toList.getD 17 0)
  have hlt := (capU (s.data.toList.getD 17 0)).toNat_lt
  generalize checkC (s.data.toList.take 16) = x at *
  generalize capU (s.data.toList.getD 17 0) = y at *
  rw [← hcap]
  by_cases h : x = (y.toNat : Int)
  · have : UInt8.ofNat x.toNat = y := by apply UInt8.toNat_inj.1; simp; omega
    rw [this, h]; simp
  · have : ¬ UInt8.ofNat x.toNat = y := by
      intro e
      apply h
      have := congrArg UInt8.toNat e
      simp at this; omega
    have h' : (x == (y.toNat : Int)) = false := by simpa using h
    rw [h']
    simp [this]

end Go.Proofs.YtidmikodihkapaaDoor
