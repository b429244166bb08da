/-
  Plain facts: SimpleFold, applied again and again, comes back within four steps, whatever the rune. No program is named here.
-/
import Derived.Test.YtcaicdjlfgpbfaaDoorPOrb
namespace Go.Proofs.YtcaicdjlfgpbfaaDoor
open Go.Lib
set_option linter.unusedVariables false

theorem back_self {r : Int} (h : foldR r = r) : backB r = true := by
  unfold backB itF itF
  rw [h]
  simp
theorem take_all {α : Type} {p : α → Bool} {l : List α} {a n : Nat} (h : ((l.drop a).take n).all p = true) {i : Nat} (hi : i < l.length) (h1 : a ≤ i) (h2 : i < a + n) : p l[i] = true := by
  rw [List.all_eq_true] at h
  apply h
  rw [List.mem_iff_getElem]
  refine ⟨i - a, by rw [List.length_take, List.length_drop]; omega, ?_⟩
  rw [List.getElem_take, List.getElem_drop]
  congr 1; omega
theorem back_rows {i : Nat} (hi : i < caseT.length) : rowB caseT[i] = true := by
  have hl : caseT.length = 336 := by kernel_rfl
  have : i / 20 < 17 := by omega
  rcases (by omega : i / 20 = 0 ∨ i / 20 = 1 ∨ i / 20 = 2 ∨ i / 20 = 3 ∨ i / 20 = 4 ∨ i / 20 = 5 ∨ i / 20 = 6 ∨ i / 20 = 7 ∨ i / 20 = 8 ∨ i / 20 = 9 ∨ i / 20 = 10 ∨ i / 20 = 11 ∨ i / 20 = 12 ∨ i / 20 = 13 ∨ i / 20 = 14 ∨ i / 20 = 15 ∨ i / 20 = 16) with h | h | h | h | h | h | h | h | h | h | h | h | h | h | h | h | h
  · exact take_all back_rows0 hi (by omega) (by omega)
  · exact take_all back_rows1 hi (by omega) (by omega)
  · exact take_all back_rows2 hi (by omega) (by omega)
  · exact take_all back_rows3 hi (by omega) (by omega)
  · exact take_all back_rows4 hi (by omega) (by omega)
  · exact take_all back_rows5 hi (by omega) (by omega)
  · exact take_all back_rows6 hi (by omega) (by omega)
  · exact take_all back_rows7 hi (by omega) (by omega)
  · exact take_all back_rows8 hi (by omega) (by omega)
  · exact take_all back_rows9 hi (by omega) (by omega)
  · exact take_all back_rows10 hi (by omega) (by omega)
  · exact take_all back_rows11 hi (by omega) (by omega)
  · exact take_all back_rows12 hi (by omega) (by omega)
  · exact take_all back_rows13 hi (by omega) (by omega)
  · exact take_all back_rows14 hi (by omega) (by omega)
  · exact take_all back_rows15 hi (by omega) (by omega)
  · exact take_all back_rows16 hi (by omega) (by omega)
theorem back_row {i : Nat} {r : Int} (hi : i < caseA.size) (h1 : ((caseA.getD i (0, 0, 0, 0, 0)).1 : Int) ≤ r) (h2 : r ≤ ((caseA.getD i (0, 0, 0, 0, 0)).2.1 : Int)) : backB r = true := by
  have hi' : i < caseT.length := by simpa [caseA] using hi
  have e : caseA.getD i (0, 0, 0, 0, 0) = caseT[i] := by simp [caseA, Array.getD, hi']
  rw [e] at h1 h2
  have h := back_rows hi'
  unfold rowB at h
  rw [List.all_eq_true] at h
  have := h (r.toNat - caseT[i].1) (by rw [List.mem_range]; omega)
  rwa [show ((caseT[i].1 + (r.toNat - caseT[i].1) : Nat) : Int) = r by omega] at this
/-- every rune comes back within four steps -/
theorem back_all (r : Int) : backB r = true := by
  by_cases h0 : r < 0 ∨ 1114111 < r
  · exact back_self (by unfold foldR; rw [if_pos h0])
  by_cases h1 : r < 128
  · have := back_ascii
    rw [List.all_eq_true] at this
    have := this r.toNat (by rw [List.mem_range]; omega)
    rwa [show ((r.toNat : Nat) : Int) = r by omega] at this
  cases ho : orbF r with
  | some t =>
    unfold orbF at ho
    rw [Option.map_eq_some_iff] at ho
    obtain ⟨p, hp, _⟩ := ho
    have hm := List.mem_of_find?_eq_some hp
    have he := List.find?_some hp
    have := back_orbit
    rw [List.all_eq_true] at this
    have := this p hm
    rwa [show (p.1 : Int) = r by simpa using he] at this
  | none =>
    cases hl : lookupIdx caseA r (caseA.size + 1) 0 caseA.size with
    | some i =>
      obtain ⟨a, b, c⟩ := lookupIdx_some caseA r _ _ _ i hl
      exact back_row a b c
    | none =>
      refine back_self ?_
      unfold foldR
      rw [if_neg h0, if_neg h1, ho]
      unfold toW
      rw [hl]
      simp
/-- r's first return -/
theorem back_some (r : Int) : ∃ k, 1 ≤ k ∧ k ≤ 4 ∧ itF k r = r := by
  have h := back_all r
  unfold backB at h
  rcases Bool.or_eq_true_iff.1 h with h | h
  · exact ⟨1, by omega, by omega, by simpa using h⟩
  rcases Bool.or_eq_true_iff.1 h with h | h
  · exact ⟨2, by omega, by omega, by simpa using h⟩
  rcases Bool.or_eq_true_iff.1 h with h | h
  · exact ⟨3, by omega, by omega, by simpa using h⟩
  · exact ⟨4, by omega, by omega, by simpa using h⟩
theorem itF_succ : ∀ (n : Nat) (r : Int), itF (n + 1) r = foldR (itF n r)
  | 0, r => rfl
  | n + 1, r => by
    show itF (n + 1) (foldR r) = _
    rw [itF_succ n (foldR r)]; rfl
/-- the table of orbits, as the binary search reads it -/
def orbA (i : Nat) : Nat := (orbL.getD i (0, 0)).1
theorem orb_len : orbL.length = 94 := by decide +kernel
theorem orb_asc : ∀ i, i < 93 → orbA i < orbA (i + 1) := by
  have : ((List.range 93).all fun i => decide (orbA i < orbA (i + 1))) = true := by decide +kernel
  rw [List.all_eq_true] at this
  intro i hi
  simpa using this i (by rw [List.mem_range]; exact hi)
theorem orb_mono : ∀ (d i : Nat), i + d < 94 → orbA i ≤ orbA (i + d)
  | 0, i, _ => by simp
  | d + 1, i, h => by
    have h1 := orb_mono d i (by omega)
    have h2 := orb_asc (i + d) (by omega)
    rw [show i + (d + 1) = i + d + 1 by omega]
    omega
theorem orb_le {i j : Nat} (h : i ≤ j) (hj : j < 94) : orbA i ≤ orbA j := by
  have := orb_mono (j - i) i (by omega)
  rwa [show i + (j - i) = j by omega] at this
theorem orb_lt {i j : Nat} (h : i < j) (hj : j < 94) : orbA i < orbA j := by
  have := orb_asc i (by omega)
  have := orb_le (show i + 1 ≤ j by omega) hj
  omega
theorem orb_found {r : Int} {k : Nat} (hk : k < 94) (h : (orbA k : Int) = r) : orbF r = some ((orbL.getD k (0, 0)).2 : Int) := by
  have : ((List.range 94).all fun i => decide (orbF (orbA i : Int) = some ((orbL.getD i (0, 0)).2 : Int))) = true := by decide +kernel
  rw [List.all_eq_true] at this
  have := this k (by rw [List.mem_range]; exact hk)
  rw [← h]
  simpa using this
theorem orb_none {r : Int} {k : Nat} (h1 : ∀ i, i < k → i < 94 → (orbA i : Int) < r) (h2 : ∀ i, k ≤ i → i < 94 → r ≤ (orbA i : Int)) (h3 : k < 94 → (orbA k : Int) ≠ r) : orbF r = none := by
  unfold orbF
  rw [Option.map_eq_none_iff, List.find?_eq_none]
  intro p hp
  obtain ⟨i, hi, e⟩ := List.mem_iff_getElem.1 hp
  rw [orb_len] at hi
  have ep : p.1 = orbA i := by unfold orbA; rw [List.getD_eq_getElem?_getD, List.getElem?_eq_getElem (by rw [orb_len]; exact hi), e]; rfl
  rw [ep]
  simp only [beq_iff_eq]
  intro e2
  by_cases hlt : i < k
  · have := h1 i hlt hi; omega
  by_cases heq : i = k
  · subst heq; exact h3 hi e2
  · have a := h2 k (Nat.le_refl _) (by omega)
    have b := orb_lt (show k < i by omega) hi
    omega

end Go.Proofs.YtcaicdjlfgpbfaaDoor
