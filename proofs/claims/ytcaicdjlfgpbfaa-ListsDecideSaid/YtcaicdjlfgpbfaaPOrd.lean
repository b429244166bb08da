/-
  Plain facts: tokens that are put in any order come to the same list. No program is named here.
-/
import Derived.Test.YtcaicdjlfgpbfaaPToken
namespace Go.Proofs.Ytcaicdjlfgpbfaa
set_option linter.unusedVariables false

def putAll (l : List Tok) : List Tok := l.foldl putTL []
/-- no two of the valid ones belong to one key -/
def DistT (l : List Tok) : Prop := l.Pairwise (fun a b => validT a = 0 → validT b = 0 → keyT a ≠ keyT b)
theorem dist_perm {l m : List Tok} (h : l.Perm m) (hd : DistT l) : DistT m := by
  unfold DistT at *
  exact (h.pairwise_iff (fun {a b} hab hb ha e => hab ha hb e.symm)).1 hd
theorem put_new {l : List Tok} {t : Tok} (hv : validT t = 0) (hn : ∀ x ∈ l, keyT x ≠ keyT t) (hl : l.length < 128) : putTL l t = insT l t := by
  have hi : idxT l t.id = none := by
    cases h : idxT l t.id with
    | none => rfl
    | some i =>
      obtain ⟨hi, e⟩ := idx_some h
      exact absurd e (hn _ (List.getElem_mem hi))
  unfold putTL putTE
  rw [hv, hi]
  simp
  omega
theorem put_bad {l : List Tok} {t : Tok} (hv : validT t ≠ 0) : putTL l t = l := by
  unfold putTL putTE
  rw [if_pos hv, if_pos hv]
/-- what has been put -/
theorem putAll_is : ∀ (l acc : List Tok), SortedT acc → (∀ x ∈ acc, validT x = 0) → (∀ a ∈ acc, ∀ b ∈ l, validT b = 0 → keyT a ≠ keyT b) → DistT l → acc.length + l.length ≤ 128 →
    SortedT (l.foldl putTL acc) ∧ ∀ x, x ∈ l.foldl putTL acc ↔ x ∈ acc ∨ (x ∈ l ∧ validT x = 0)
  | [], acc, hs, _, _, _, _ => ⟨hs, fun x => by simp⟩
  | t :: l, acc, hs, hv, hk, hd, hl => by
    rw [List.foldl_cons]
    unfold DistT at hd
    obtain ⟨hd1, hd2⟩ := List.pairwise_cons.1 hd
    rw [List.length_cons] at hl
    by_cases ht : validT t = 0
    · have hn : ∀ x ∈ acc, keyT x ≠ keyT t := fun x hx => hk x hx t (by simp) ht
      rw [put_new ht hn (by omega)]
      obtain ⟨h1, h2⟩ := putAll_is l (insT acc t) (hs.ins hn) (fun x hx => by
        rcases insT_mem.1 hx with rfl | hx
        · exact ht
        · exact hv x hx) (fun a ha b hb hvb => by
        rcases insT_mem.1 ha with rfl | ha
        · exact hd1 b hb ht hvb
        · exact hk a ha b (by simp [hb]) hvb) hd2 (by rw [insT_len]; omega)
      refine ⟨h1, fun x => ?_⟩
      rw [h2, insT_mem]
      constructor
      · rintro ((rfl | h) | ⟨h, h'⟩)
        · exact .inr ⟨by simp, ht⟩
        · exact .inl h
        · exact .inr ⟨by simp [h], h'⟩
      · rintro (h | ⟨h, h'⟩)
        · exact .inl (.inr h)
        · rcases List.mem_cons.1 h with rfl | h
          · exact .inl (.inl rfl)
          · exact .inr ⟨h, h'⟩
    · rw [put_bad ht]
      obtain ⟨h1, h2⟩ := putAll_is l acc hs hv (fun a ha b hb => hk a ha b (by simp [hb])) hd2 (by omega)
      refine ⟨h1, fun x => ?_⟩
      rw [h2]
      constructor
      · rintro (h | ⟨h, h'⟩)
        · exact .inl h
        · exact .inr ⟨by simp [h], h'⟩
      · rintro (h | ⟨h, h'⟩)
        · exact .inl h
        · rcases List.mem_cons.1 h with rfl | h
          · exact absurd h' ht
          · exact .inr ⟨h, h'⟩
theorem less_asym {a b : Tok} (h : lessT a b = true) : lessT b a = false := by
  cases e : lessT b a with
  | false => rfl
  | true =>
    have := less_trans h e
    rw [less_irrefl] at this; cases this
theorem less_self (a : Tok) : lessT a a = false := less_irrefl _
/-- two ascending lists of the same tokens are one -/
theorem sorted_one : ∀ (l m : List Tok), SortedT l → SortedT m → (∀ x, x ∈ l ↔ x ∈ m) → l = m
  | [], [], _, _, _ => rfl
  | [], b :: m, _, _, h => by have := (h b).2 (by simp); simp at this
  | a :: l, [], _, _, h => by have := (h a).1 (by simp); simp at this
  | a :: l, b :: m, hl, hm, h => by
    obtain ⟨l1, l2⟩ := List.pairwise_cons.1 hl
    obtain ⟨m1, m2⟩ := List.pairwise_cons.1 hm
    have hab : a = b := by
      rcases List.mem_cons.1 ((h a).1 (by simp)) with e | ha
      · exact e
      · rcases List.mem_cons.1 ((h b).2 (by simp)) with e | hb
        · exact e.symm
        · have h1 := m1 a ha
          have h2 := l1 b hb
          rw [less_asym h1] at h2; cases h2
    subst hab
    have := sorted_one l m l2 m2 (fun x => by
      constructor
      · intro hx
        rcases List.mem_cons.1 ((h x).1 (by simp [hx])) with e | hx'
        · subst e
          have := l1 x hx
          rw [less_self] at this; cases this
        · exact hx'
      · intro hx
        rcases List.mem_cons.1 ((h x).2 (by simp [hx])) with e | hx'
        · subst e
          have := m1 x hx
          rw [less_self] at this; cases this
        · exact hx')
    rw [this]
/-- tokens put in any order -/
theorem put_order {l m : List Tok} (h : l.Perm m) (hd : DistT l) (hl : l.length ≤ 128) : putAll l = putAll m ∧ SortedT (putAll l) := by
  have h1 := putAll_is l [] .nil (fun x hx => by simp at hx) (fun a ha => by simp at ha) hd (by simpa using hl)
  have h2 := putAll_is m [] .nil (fun x hx => by simp at hx) (fun a ha => by simp at ha) (dist_perm h hd) (by rw [h.length_eq] at hl; simpa using hl)
  refine ⟨sorted_one _ _ h1.1 h2.1 fun x => ?_, h1.1⟩
  unfold putAll
  rw [h1.2, h2.2]
  simp [h.mem_iff]
/-- a swap -/
theorem swap_perm {l : List Tok} {i k : Nat} (hi : i < l.length) (hk : k < l.length) : ((l.set i l[k]).set k l[i]).Perm l := List.set_set_perm hi hk

end Go.Proofs.Ytcaicdjlfgpbfaa
