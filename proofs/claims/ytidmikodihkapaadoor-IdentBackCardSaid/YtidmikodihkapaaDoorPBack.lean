/-
  Plain facts: Parse inverts Make.
-/
import Derived.Test.YtidmikodihkapaaDoorWIdent11
import Derived.Test.YtidmikodihkapaaDoorAsc
namespace Go.Proofs.YtidmikodihkapaaDoor
open Go.RowKit Go.Lib Go.Joins
set_option linter.unusedVariables false

theorem same_data {a b : ByteArray} (h : a.data.toList = b.data.toList) : a = b := by
  rw [← Lib.mk_data a, ← Lib.mk_data b, h]

theorem make_data {c p i : ByteArray} (h : makeOK c p i = true) :
    ∃ X, (makeS c p i).data.toList = joinL (capL c.data.toList) (capL p.data.toList) (capL i.data.toList) ++ [45] ++ [X] := by
  have hl := capS_data (joinS c p i)
  rw [joinS_data] at hl
  have hj : capL (joinL c.data.toList p.data.toList i.data.toList) = joinL (capL c.data.toList) (capL p.data.toList) (capL i.data.toList) := by
    unfold joinL; simp only [capL_append]; rfl
  refine ⟨UInt8.ofNat (checkC (capS (joinS c p i)).data.toList).toNat, ?_⟩
  unfold makeS makeGood
  rw [if_pos h]
  simp only [data_append, hl, hj]

theorem make_parts {c p i : ByteArray} (h : makeOK c p i = true) :
    (makeS c p i).extract 0 2 = capS c ∧ (makeS c p i).extract 3 6 = capS p ∧ (makeS c p i).extract 7 16 = capS i := by
  obtain ⟨X, hX⟩ := make_data h
  simp only [makeOK, Bool.and_eq_true] at h
  have e1 := (alnum_of h.1).1
  have e2 := (alnum_of h.2.1).1
  have e3 := (alnum_of h.2.2).1
  have q1 := capL_len c.data.toList
  have q2 := capL_len p.data.toList
  have q3 := capL_len i.data.toList
  have l1 : (capL c.data.toList).length = 2 := by omega
  have l2 : (capL p.data.toList).length = 3 := by omega
  have l3 : (capL i.data.toList).length = 9 := by omega
  refine ⟨same_data ?_, same_data ?_, same_data ?_⟩ <;> rw [Lib.extract_data, hX, capS_data] <;> clear hX e1 e2 e3 q1 q2 q3 h <;>
    generalize capL c.data.toList = C at * <;> generalize capL p.data.toList = P at * <;> generalize capL i.data.toList = I at *
  all_goals
    match C, l1, P, l2, I, l3 with
    | [_, _], _, [_, _, _], _, [_, _, _, _, _, _, _, _, _], _ => rfl

theorem back_parse {S x : ByteArray} (hf : formL S.data.toList = true) (hs : sumOK S.data.toList = true) (hx : capL x.data.toList = S.data.toList) :
    parseE x.data.toList = 0 ∧ parse1 x = S.extract 0 2 ∧ parse2 x = S.extract 3 6 ∧ parse3 x = S.extract 7 16 := by
  have he : parseE x.data.toList = 0 := by
    rw [← parseE_cap, hx]
    simp [parseE, hf, hs]
  have hok : parseOK x.data.toList = true := by
    unfold parseE at he
    unfold parseOK
    cases h1 : formL x.data.toList <;> cases h2 : sumOK x.data.toList <;> simp_all
  have hc : capS x = S := same_data (by rw [capS_data, hx])
  refine ⟨he, ?_, ?_, ?_⟩
  · unfold parse1; rw [if_pos hok, capS_extract, hc]
  · unfold parse2; rw [if_pos hok, capS_extract, hc]
  · unfold parse3; rw [if_pos hok, capS_extract, hc]

/-- what the law asks of both strings -/
theorem back_both {c p i x : ByteArray} (h : makeOK c p i = true) (hx : capL x.data.toList = (makeS c p i).data.toList) :
    parseE x.data.toList = 0 ∧ parse1 x = capS c ∧ parse2 x = capS p ∧ parse3 x = capS i := by
  obtain ⟨h1, h2, h3⟩ := make_form h
  obtain ⟨g1, g2, g3⟩ := make_parts h
  obtain ⟨e0, e1, e2, e3⟩ := back_parse h1 h2 hx
  exact ⟨e0, e1.trans g1, e2.trans g2, e3.trans g3⟩
theorem back_self {c p i : ByteArray} (h : makeOK c p i = true) : parseE (makeS c p i).data.toList = 0 ∧ parse1 (makeS c p i) = capS c ∧ parse2 (makeS c p i) = capS p ∧ parse3 (makeS c p i) = capS i :=
  back_both h (make_form h).2.2
theorem back_low {c p i : ByteArray} (h : makeOK c p i = true) : parseE (lowS (makeS c p i)).data.toList = 0 ∧ parse1 (lowS (makeS c p i)) = capS c ∧ parse2 (lowS (makeS c p i)) = capS p ∧ parse3 (lowS (makeS c p i)) = capS i :=
  back_both h (by rw [cap_low]; exact (make_form h).2.2)

theorem make_ascii {c p i : ByteArray} (h : makeOK c p i = true) : asciiL (makeS c p i).data.toList = true ∧ validL (makeS c p i).data.toList = true ∧ (makeS c p i).size = 18 := by
  obtain ⟨h1, h2, h3⟩ := make_form h
  have hl := (form_dash h1).1
  have hv : validL (makeS c p i).data.toList = true := by
    unfold validL
    simp only [Bool.and_eq_true, decide_eq_true_eq, List.all_eq_true]
    refine ⟨⟨by omega, by omega⟩, fun b hb => ?_⟩
    obtain ⟨k, hk, rfl⟩ := List.mem_iff_getElem.1 hb
    have hg : (makeS c p i).data.toList.getD k 0 = (makeS c p i).data.toList[k] := by simp [List.getD_eq_getElem?_getD, List.getElem?_eq_getElem hk]
    rw [← hg]
    obtain ⟨_, d2, d6, d16⟩ := form_dash h1
    by_cases k2 : k = 2
    · subst k2; rw [d2]; decide
    by_cases k6 : k = 6
    · subst k6; rw [d6]; decide
    by_cases k16 : k = 16
    · subst k16; rw [d16]; decide
    have := form_value h1 k (by omega) k2 k6 k16
    rw [okC_iff']
    exact .inl this
  exact ⟨valid_asc hv, hv, by simpa using hl⟩

end Go.Proofs.YtidmikodihkapaaDoor
