/-
  Plain facts: what was put is found until it is dropped.
-/
import Derived.Test.YtcaicdjlfgpbfaaDoorWToken12
import Derived.Test.YtcaicdjlfgpbfaaDoorAsc
namespace Go.Proofs.YtcaicdjlfgpbfaaDoor
open Go.RowKit Go.Lib Go.Joins
set_option linter.unusedVariables false

theorem idx_same {l : List Tok} {a b : ByteArray} (h : capL a.data.toList = capL b.data.toList) : idxT l a = idxT l b := by
  have : (fun x : Tok => sameStr x.id a) = fun x => sameStr x.id b := by funext x; unfold sameStr; rw [h]
  unfold idxT; rw [this]

theorem sorted_inj {l : List Tok} (h : SortedT l) {i j : Nat} (hi : i < l.length) (hj : j < l.length) (hk : keyT l[i] = keyT l[j]) : i = j := by
  unfold SortedT at h
  rw [List.pairwise_iff_getElem] at h
  rcases Nat.lt_trichotomy i j with hij | hij | hij
  · have := h i j hi hj hij
    unfold lessT at this
    rw [hk, less_irrefl] at this
    simp at this
  · exact hij
  · have := h j i hj hi hij
    unfold lessT at this
    rw [hk, less_irrefl] at this
    simp at this

theorem put_mem {l : List Tok} {t : Tok} (h : putTE l t = 0) : t ∈ putTL l t := by
  unfold putTL
  rw [if_neg (by simp [h])]
  cases hi : idxT l t.id with
  | some i =>
    simp only []
    obtain ⟨hil, _⟩ := idx_some hi
    exact List.mem_iff_getElem.2 ⟨i, by simpa using hil, by simp⟩
  | none => simp only []; exact insT_mem.2 (.inl rfl)

/-- where it stands -/
theorem put_at {l : List Tok} (hs : SortedT l) {t : Tok} (h : putTE l t = 0) {id : ByteArray} (hk : capL id.data.toList = capL t.id.data.toList) :
    ∃ i, ∃ hi : i < (putTL l t).length, idxT (putTL l t) id = some i ∧ (putTL l t)[i] = t := by
  have hm := put_mem h
  have hs' := hs.put t
  cases hi : idxT (putTL l t) id with
  | none => exact absurd hk.symm (by have := idx_none hi t hm; simpa [keyT] using this)
  | some i =>
    obtain ⟨hil, hki⟩ := idx_some hi
    obtain ⟨j, hj, hjt⟩ := List.mem_iff_getElem.1 hm
    have := sorted_inj hs' hil hj (by rw [hki, hk, hjt])
    subst this
    exact ⟨i, hil, rfl, hjt⟩

theorem put_found {l : List Tok} (hs : SortedT l) {t : Tok} (h : putTE l t = 0) {id : ByteArray} (hk : capL id.data.toList = capL t.id.data.toList) :
    findT (putTL l t) id = t ∧ foundT (putTL l t) id = true := by
  obtain ⟨i, hi, h1, h2⟩ := put_at hs h hk
  unfold findT foundT
  rw [h1]
  simp [List.getD_eq_getElem?_getD, List.getElem?_eq_getElem hi, h2]

theorem put_drop {l : List Tok} (hs : SortedT l) {t : Tok} (h : putTE l t = 0) {id : ByteArray} (hk : capL id.data.toList = capL t.id.data.toList) :
    dropTE (putTL l t) id = 0 ∧ (dropTL (putTL l t) id).length + 1 = (putTL l t).length ∧ foundT (dropTL (putTL l t) id) t.id = false := by
  obtain ⟨i, hi, h1, h2⟩ := put_at hs h hk
  refine ⟨?_, ?_, ?_⟩
  · unfold dropTE; rw [h1]; rfl
  · unfold dropTL; rw [h1]; simp only []; rw [List.length_eraseIdx_of_lt hi]; omega
  · unfold dropTL; rw [h1]; simp only []
    cases hf : idxT ((putTL l t).eraseIdx i) t.id with
    | none => unfold foundT; rw [hf]; rfl
    | some j =>
      exfalso
      obtain ⟨hj, hkj⟩ := idx_some hf
      have hm := List.getElem_mem hj
      rw [List.mem_eraseIdx_iff_getElem] at hm
      obtain ⟨k, hk1, hk2, hk3⟩ := hm
      apply hk2
      refine sorted_inj (hs.put t) hk1 hi ?_
      rw [hk3, hkj, h2]

theorem putTL_len1 (l : List Tok) (t : Tok) : (putTL l t).length ≤ l.length + 1 := by
  unfold putTL
  split
  · omega
  · split
    · rw [List.length_set]; omega
    · rw [insT_len]; omega
theorem playT_len (l : List OpT) : (playT l).length ≤ l.length := by
  have h : ∀ (l : List OpT) (a : List Tok), (l.foldl stepT a).length ≤ a.length + l.length := by
    intro l
    induction l with
    | nil => intro a; simp
    | cons o l ih =>
      intro a
      rw [List.foldl_cons]
      have := ih (stepT a o)
      have h1 : (stepT a o).length ≤ a.length + 1 := by
        unfold stepT
        split
        · have := dropTL_len a o.tok.id; omega
        · exact putTL_len1 _ _
      simp only [List.length_cons]
      omega
  have := h l []
  simpa [playT] using this

theorem put_err {l : List Tok} {t : Tok} (hl : l.length ≤ 100) (h : ¬ putTE l t = 0) : putTE l t = validT t ∧ putTL l t = l := by
  refine ⟨?_, by unfold putTL; rw [if_pos h]⟩
  unfold putTE at *
  by_cases hv : validT t = 0
  · exfalso
    apply h
    rw [if_neg (by simp [hv])]
    split
    · rfl
    · rw [if_neg (by omega)]
  · rw [if_pos hv]

theorem valid_id {t : Tok} (h : validT t = 0) : validL t.id.data.toList = true := by
  unfold validT at h
  split at h
  · simp at h
  · rename_i h1
    simp only [Bool.or_eq_true, Bool.not_eq_true', not_or, Bool.not_eq_false] at h1
    exact h1.1
theorem put_valid {l : List Tok} {t : Tok} (h : putTE l t = 0) : validT t = 0 := by
  unfold putTE at h
  split at h
  · exact h
  · rename_i h1; simpa using h1

end Go.Proofs.YtcaicdjlfgpbfaaDoor
