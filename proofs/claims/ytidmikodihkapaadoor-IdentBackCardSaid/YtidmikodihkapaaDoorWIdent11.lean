/-
  Walks: the statement that a wrong character is detected.
-/
import Derived.Test.YtidmikodihkapaaDoorWIdent10
import Derived.Test.YtidmikodihkapaaDoorPIdent3
namespace Go.Proofs.YtidmikodihkapaaDoor
open Go.RowKit Go.Lib Go.Joins
set_option linter.unusedVariables false

theorem make_le (c p i : ByteArray) : (makeS c p i).size ≤ 36 := by
  unfold makeS
  split
  · rename_i h
    simp only [makeOK, Bool.and_eq_true] at h
    have hsz := size_join c p i
    have z1 := alnum_size h.1
    have z2 := alnum_size h.2.1
    have z3 := alnum_size h.2.2
    have hszc := size_cap (joinS c p i)
    have e : (makeGood c p i).data.toList.length = (capS (joinS c p i)).data.toList.length + 1 + 1 := by
      unfold makeGood; simp
    have e1 : (makeGood c p i).data.toList.length = (makeGood c p i).size := by simp
    have e2 : (capS (joinS c p i)).data.toList.length = (capS (joinS c p i)).size := by simp
    omega
  · exact Nat.zero_le _

/-- what Make makes has a good form and a right sum, and is its own capitals -/
theorem make_form {c p i : ByteArray} (h : makeOK c p i = true) :
    formL (makeS c p i).data.toList = true ∧ sumOK (makeS c p i).data.toList = true ∧ capL (makeS c p i).data.toList = (makeS c p i).data.toList := by
  have h0 := h
  simp only [makeOK, Bool.and_eq_true] at h
  obtain ⟨h1, h2, h3⟩ := h
  obtain ⟨hE, hc0, hc1⟩ := joinS_check h1 h2 h3
  have hl := capS_data (joinS c p i)
  rw [joinS_data] at hl
  have hm : (makeS c p i).data.toList = capL (joinL c.data.toList p.data.toList i.data.toList) ++ [45] ++ [UInt8.ofNat (checkC (joinL c.data.toList p.data.toList i.data.toList)).toNat] := by
    unfold makeS makeGood
    rw [if_pos h0]
    simp only [data_append, hl, checkC_cap]
  rw [hm]
  rw [hl, checkC_cap] at hc0 hc1
  have e1 := (alnum_of h1).1
  have e2 := (alnum_of h2).1
  have e3 := (alnum_of h3).1
  rw [← alnumL_cap] at h1 h2 h3
  obtain ⟨C, hC⟩ : ∃ C, C = capL c.data.toList := ⟨_, rfl⟩
  obtain ⟨P, hP⟩ : ∃ P, P = capL p.data.toList := ⟨_, rfl⟩
  obtain ⟨I, hI⟩ : ∃ I, I = capL i.data.toList := ⟨_, rfl⟩
  have hj : capL (joinL c.data.toList p.data.toList i.data.toList) = joinL C P I := by
    rw [hC, hP, hI]; unfold joinL; simp only [capL_append]; rfl
  have hx : checkC (joinL c.data.toList p.data.toList i.data.toList) = checkC (joinL C P I) := by rw [← hj, checkC_cap]
  have hcc : capL C = C ∧ capL P = P ∧ capL I = I := by rw [hC, hP, hI]; exact ⟨capL_capL _, capL_capL _, capL_capL _⟩
  rw [← hC] at h1
  rw [← hP] at h2
  rw [← hI] at h3
  have l1 : C.length = 2 := by rw [hC, capL_len]; omega
  have l2 : P.length = 3 := by rw [hP, capL_len]; omega
  have l3 : I.length = 9 := by rw [hI, capL_len]; omega
  rw [hx] at hc0 hc1
  rw [hj, hx]
  clear hm hl hj hx hC hP hI hE
  generalize hX : checkC (joinL C P I) = X at *
  obtain ⟨g1, g2, g3⟩ := hcc
  have t16 : (joinL C P I ++ [45] ++ [UInt8.ofNat X.toNat]).take 16 = joinL C P I := by
    have : (joinL C P I).length = 16 := by simp [joinL, l1, l2, l3]
    rw [List.append_assoc, List.take_append_of_le_length (by omega), List.take_of_length_le (by omega)]
  have d17 : (joinL C P I ++ [45] ++ [UInt8.ofNat X.toNat]).getD 17 0 = UInt8.ofNat X.toNat := by
    match C, l1, P, l2, I, l3 with
    | [_, _], _, [_, _, _], _, [_, _, _, _, _, _, _, _, _], _ => rfl
  have hu : ((UInt8.ofNat X.toNat).toNat : Int) = X := by simp; omega
  have hxr : X < 58 ∨ 65 ≤ X := by
    have := check_formula (l := joinL C P I) (join_check h1 h2 h3).1
    rw [hX] at this
    unfold chrI at this
    split at this <;> omega
  refine ⟨?_, ?_, ?_⟩
  · have hv : alnumL [UInt8.ofNat X.toNat] 1 0 = true := by
      unfold alnumL
      simp only [List.length_cons, List.length_nil, List.all_cons, List.all_nil, hu]
      unfold valI
      (repeat' split) <;> simp <;> omega
    match C, l1, P, l2, I, l3 with
    | [b0, b1], _, [b2, b3, b4], _, [b5, b6, b7, b8, b9, b10, b11, b12, b13], _ =>
      unfold formL
      simp only [Bool.and_eq_true, decide_eq_true_eq, beq_iff_eq]
      exact ⟨rfl, rfl, rfl, rfl, h1, h2, h3, hv⟩
  · unfold sumOK
    rw [t16, d17, hX, hu]
    simp only [beq_iff_eq]
    unfold capI; split <;> omega
  · have hc : capU (UInt8.ofNat X.toNat) = UInt8.ofNat X.toNat := by
      apply UInt8.toNat_inj.1
      have := capU_capI (UInt8.ofNat X.toNat)
      rw [hu] at this
      unfold capI at this
      split at this <;> omega
    have e45 : capL [45] = [45] := by decide
    have eu : capL [UInt8.ofNat X.toNat] = [UInt8.ofNat X.toNat] := by simp [capL, hc]
    unfold joinL
    simp only [capL_append, g1, g2, g3, e45, eu]

theorem set_data (s : ByteArray) (k : Nat) (c : UInt8) (hk : k < s.size) : (s.extract 0 k ++ ⟨#[c]⟩ ++ s.extract (k + 1) s.size).data.toList = s.data.toList.set k c := by
  rw [data_append, data_append, Lib.extract_data, Lib.extract_data]
  have h : k < s.data.toList.length := by simpa using hk
  rw [List.set_eq_take_append_cons_drop, if_pos h]
  have e : (s.data.toList.drop (k + 1)).take (s.size - (k + 1)) = s.data.toList.drop (k + 1) := List.take_of_length_le (by simp)
  rw [e]
  simp

theorem parse_none {s : ByteArray} (h : parseE s.data.toList ≠ 0) : parse1 s = ⟨#[]⟩ ∧ parse2 s = ⟨#[]⟩ ∧ parse3 s = ⟨#[]⟩ := by
  have hok : parseOK s.data.toList = false := by
    unfold parseE at h
    unfold parseOK
    cases hf : formL s.data.toList <;> cases hs : sumOK s.data.toList <;> simp_all
  simp [parse1, parse2, parse3, hok]

/-- what the law asks of the changed identifier -/
theorem detect_law {s : ByteArray} (hf : formL s.data.toList = true) (hs : sumOK s.data.toList = true) (hc : capL s.data.toList = s.data.toList) (k : Nat) (hk : k < s.size) (hd : (s.data.toList.getD k 0 == 45) = false) (c : UInt8) :
    let x := s.extract 0 k ++ ⟨#[c]⟩ ++ s.extract (k + 1) s.size
    (sameS x s = true → parseE x.data.toList = 0) ∧ (sameS x s = false → parseE x.data.toList ≠ 0) := by
  intro x
  have hx : x.data.toList = s.data.toList.set k c := set_data s k c hk
  have hl := (form_dash hf).1
  constructor
  · intro h
    unfold sameS at h
    simp only [decide_eq_true_eq] at h
    rw [← parseE_cap, h, hc]
    simp [parseE, hf, hs]
  · intro h
    unfold sameS at h
    simp only [decide_eq_false_iff_not] at h
    rw [hx] at h ⊢
    exact detects hf hs k (by simp at hl; omega) (by simpa using hd) c h

end Go.Proofs.YtidmikodihkapaaDoor
