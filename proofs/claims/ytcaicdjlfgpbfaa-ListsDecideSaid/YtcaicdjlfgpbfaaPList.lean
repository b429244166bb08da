/-
  Plain facts: lists of tokens, their differences and changes. No program is named here.
-/
import Derived.Test.YtcaicdjlfgpbfaaPOrd
import Derived.Sort.Statements
namespace Go.Proofs.Ytcaicdjlfgpbfaa
set_option linter.unusedVariables false

/-- a list as the central system holds it -/
structure GoodL (L : List Tok) : Prop where
  sorted : SortedT L
  valid : ∀ x ∈ L, validT x = 0
  fits : ∀ x ∈ L, x.fits
  len : L.length ≤ 100
theorem GoodL.nil : GoodL [] := ⟨.nil, by simp, by simp, by simp⟩
/-- each key of A is one of B's -/
def KeySub (A B : List Tok) : Prop := ∀ x ∈ A, ∃ y ∈ B, keyT y = keyT x
theorem KeySub.refl (A : List Tok) : KeySub A A := fun x hx => ⟨x, hx, rfl⟩
theorem KeySub.trans {A B C : List Tok} (h : KeySub A B) (h2 : KeySub B C) : KeySub A C := fun x hx => by
  obtain ⟨y, hy, e⟩ := h x hx
  obtain ⟨z, hz, e2⟩ := h2 y hy
  exact ⟨z, hz, e2.trans e⟩
theorem put_sub (l : List Tok) (t : Tok) : KeySub l (putTL l t) := fun x hx => by
  unfold putTL
  split
  · exact ⟨x, hx, rfl⟩
  · split
    · rename_i i hi
      obtain ⟨hl, e⟩ := idx_some hi
      obtain ⟨j, hj, ej⟩ := List.mem_iff_getElem.1 hx
      by_cases q : j = i
      · subst q
        exact ⟨t, List.mem_set hl t, by rw [← ej]; exact e.symm⟩
      · refine ⟨x, ?_, rfl⟩
        rw [List.mem_iff_getElem]
        exact ⟨j, by rw [List.length_set]; exact hj, by rw [List.getElem_set_ne (fun h => q h.symm)]; exact ej⟩
    · exact ⟨x, insT_mem.2 (.inr hx), rfl⟩
theorem putTE_valid {l : List Tok} {t : Tok} (h : putTE l t = 0) : validT t = 0 := by
  unfold putTE at h
  split at h
  · assumption
  · rename_i h1; simpa using h1
theorem put_from {l : List Tok} {t x : Tok} (h : x ∈ putTL l t) : (x = t ∧ putTE l t = 0) ∨ x ∈ l := by
  unfold putTL at h
  split at h
  · exact .inr h
  · rename_i h0
    have h0 : putTE l t = 0 := by simpa using h0
    split at h
    · rcases List.mem_or_eq_of_mem_set h with h | h
      · exact .inr h
      · exact .inl ⟨h, h0⟩
    · rcases insT_mem.1 h with h | h
      · exact .inl ⟨h, h0⟩
      · exact .inr h
theorem put_len1 (l : List Tok) (t : Tok) : (putTL l t).length ≤ l.length + 1 := by
  unfold putTL
  split
  · omega
  · split
    · rw [List.length_set]; omega
    · rw [insT_len]; exact Nat.le_refl _
theorem GoodL.put {L : List Tok} (h : GoodL L) {t : Tok} (ht : t.fits) (hl : L.length < 100) : GoodL (putTL L t) :=
  ⟨h.sorted.put t, fun x hx => by
    rcases put_from hx with ⟨rfl, h0⟩ | hx
    · exact putTE_valid h0
    · exact h.valid x hx, fun x hx => by
    rcases put_from hx with ⟨rfl, _⟩ | hx
    · exact ht
    · exact h.fits x hx, by have := put_len1 L t; omega⟩
/-- after several calls of Put -/
theorem puts_good : ∀ (l L : List Tok), GoodL L → (∀ x ∈ l, x.fits) → L.length + l.length ≤ 100 → GoodL (l.foldl putTL L) ∧ (l.foldl putTL L).length ≤ L.length + l.length ∧ KeySub L (l.foldl putTL L)
  | [], L, h, _, _ => ⟨h, by simp, KeySub.refl _⟩
  | x :: l, L, h, hl, hn => by
    rw [List.length_cons] at hn
    have h1 := put_len1 L x
    obtain ⟨a, b, c⟩ := puts_good l (putTL L x) (h.put (hl x (by simp)) (by omega)) (fun y hy => hl y (by simp [hy])) (by omega)
    exact ⟨a, by rw [List.foldl_cons, List.length_cons]; omega, (put_sub L x).trans c⟩
theorem puts_step {l : List Tok} {k : Nat} (hk : k < l.length) (a : List Tok) : (l.take (k + 1)).foldl putTL a = putTL ((l.take k).foldl putTL a) l[k] := by
  rw [List.take_succ_eq_append_getElem hk, List.foldl_append]; rfl
theorem puts_all {l : List Tok} {k : Nat} (hk : ¬ k < l.length) (a : List Tok) : (l.take k).foldl putTL a = l.foldl putTL a := by
  rw [List.take_of_length_le (by omega)]

def cmpK (a b : Tok) : Int := if lessT a b = true then -1 else if lessT b a = true then 1 else 0
theorem cmpK_lt (a b : Tok) : decide (cmpK a b < 0) = lessT a b := by
  unfold cmpK
  cases h : lessT a b with
  | true => simp
  | false =>
    simp only [Bool.false_eq_true, if_false]
    split <;> simp
theorem less_not {a b : Tok} (h : lessT a b = false) (hn : keyT a ≠ keyT b) : lessT b a = true := less_tri _ _ h hn
theorem less_key {a b : Tok} (h : lessT a b = true) : keyT a ≠ keyT b := fun e => by
  unfold lessT at h
  rw [e, less_irrefl] at h; cases h
theorem less_swo {α : Type} (f : α → Tok) : Sort.SWO (fun x y : α => lessT (f x) (f y)) where
  irrefl x := less_self _
  trans x y z h h2 := less_trans h h2
  ntrans x y z h h2 := by
    cases e : lessT (f x) (f z) with
    | false => rfl
    | true =>
      by_cases k1 : keyT (f x) = keyT (f y)
      · unfold lessT at e h2
        rw [k1] at e
        rw [e] at h2; cases h2
      · have a := less_not h k1
        have b := less_trans a e
        rw [show lessT (f y) (f z) = true from b] at h2; cases h2
theorem sorted_keys {L : List Tok} (h : SortedT L) : L.Pairwise (fun a b => keyT a ≠ keyT b) := List.Pairwise.imp (fun h => less_key h) h
theorem sorted_eq {L : List Tok} (h : SortedT L) {x y : Tok} (hx : x ∈ L) (hy : y ∈ L) (e : keyT x = keyT y) : x = y := by
  obtain ⟨i, hi, rfl⟩ := List.mem_iff_getElem.1 hx
  obtain ⟨j, hj, rfl⟩ := List.mem_iff_getElem.1 hy
  have hp := List.pairwise_iff_getElem.1 (sorted_keys h)
  rcases Nat.lt_trichotomy i j with q | q | q
  · exact absurd e (hp i j hi hj q)
  · subst q; rfl
  · exact absurd e.symm (hp j i hj hi q)
/-- what a sort makes of the tokens of an ascending list -/
theorem sort_unique {S R L : List Tok} (hL : SortedT L) (hp : S.Perm R) (hd : R.Pairwise (fun a b => keyT a ≠ keyT b)) (hm : ∀ x, x ∈ R ↔ x ∈ L) (hs : ∀ i j (hi : i < S.length) (hj : j < S.length), i < j → lessT S[j] S[i] = false) : S = L := by
  have hd2 : S.Pairwise (fun a b => keyT a ≠ keyT b) := (hp.pairwise_iff (fun {a b} h e => h e.symm)).2 hd
  refine sorted_one S L ?_ hL (fun x => by rw [hp.mem_iff, hm])
  unfold SortedT
  rw [List.pairwise_iff_getElem]
  intro i j hi hj hij
  exact less_not (hs i j hi hj hij) (fun e => List.pairwise_iff_getElem.1 hd2 i j hi hj hij e.symm)

instance tokDec : DecidableEq Tok := fun ⟨a, b, c, d, e, f⟩ ⟨a', b', c', d', e', f'⟩ => by rw [Tok.mk.injEq]; exact inferInstance
/-- what is new in B -/
def diffL (A B : List Tok) : List Tok := B.filter (fun t => decide (t ∉ A))
theorem diff_sorted {A B : List Tok} (h : SortedT B) : SortedT (diffL A B) := List.Pairwise.sublist List.filter_sublist h
theorem diff_mem {A B : List Tok} {x : Tok} : x ∈ diffL A B ↔ x ∈ B ∧ x ∉ A := by unfold diffL; rw [List.mem_filter]; simp
theorem diff_good {A B : List Tok} (h : GoodL B) : GoodL (diffL A B) :=
  ⟨diff_sorted h.sorted, fun x hx => h.valid x (diff_mem.1 hx).1, fun x hx => h.fits x (diff_mem.1 hx).1, Nat.le_trans (List.length_filter_le _ _) h.len⟩
/-- what of A is not changed by D -/
def restL (A D : List Tok) : List Tok := A.filter (fun t => decide (keyT t ∉ D.map keyT))
theorem rest_mem {A D : List Tok} {x : Tok} : x ∈ restL A D ↔ x ∈ A ∧ keyT x ∉ D.map keyT := by unfold restL; rw [List.mem_filter]; simp
theorem change_mem {A B : List Tok} (hA : GoodL A) (hB : GoodL B) (hk : KeySub A B) (x : Tok) : x ∈ restL A (diffL A B) ++ diffL A B ↔ x ∈ B := by
  rw [List.mem_append, rest_mem, diff_mem]
  constructor
  · rintro (⟨h1, h2⟩ | ⟨h1, _⟩)
    · obtain ⟨y, hy, e⟩ := hk x h1
      by_cases q : y ∈ A
      · have := sorted_eq hA.sorted q h1 e
        rw [← this]; exact hy
      · exact absurd (List.mem_map.2 ⟨y, diff_mem.2 ⟨hy, q⟩, e⟩) h2
    · exact h1
  · intro hx
    by_cases q : x ∈ A
    · refine .inl ⟨q, fun hm => ?_⟩
      obtain ⟨d, hd, e⟩ := List.mem_map.1 hm
      obtain ⟨h1, h2⟩ := diff_mem.1 hd
      have := sorted_eq hB.sorted h1 hx e
      rw [this] at h2; exact h2 q
    · exact .inr ⟨hx, q⟩
theorem change_keys {A D : List Tok} (hA : SortedT A) (hD : SortedT D) : (restL A D ++ D).Pairwise (fun a b => keyT a ≠ keyT b) := by
  rw [List.pairwise_append]
  refine ⟨List.Pairwise.sublist List.filter_sublist (sorted_keys hA), sorted_keys hD, fun a ha b hb e => ?_⟩
  exact (rest_mem.1 ha).2 (List.mem_map.2 ⟨b, hb, e.symm⟩)
theorem change_len {A D : List Tok} : (restL A D ++ D).length ≤ A.length + D.length := by
  rw [List.length_append]
  have := List.length_filter_le (fun t => decide (keyT t ∉ D.map keyT)) A
  unfold restL; omega
/-- a filter, step by step -/
theorem filter_step {α : Type} {p : α → Bool} {l : List α} {k : Nat} (hk : k < l.length) : (l.take (k + 1)).filter p = if p l[k] = true then (l.take k).filter p ++ [l[k]] else (l.take k).filter p := by
  rw [List.take_succ_eq_append_getElem hk, List.filter_append]
  split
  · rename_i h; simp [h]
  · rename_i h; simp [h]
/-- the token of a key -/
def findK (L : List Tok) (s : List UInt8) : Option Tok := L.find? (fun t => decide (keyT t = s))
theorem findK_mem {L : List Tok} (h : SortedT L) {t : Tok} (ht : t ∈ L) : findK L (keyT t) = some t := by
  unfold findK
  cases e : L.find? (fun x => decide (keyT x = keyT t)) with
  | none =>
    rw [List.find?_eq_none] at e
    have := e t ht
    simp at this
  | some y =>
    have h1 := List.mem_of_find?_eq_some e
    have h2 := List.find?_some e
    rw [sorted_eq h h1 ht (by simpa using h2)]
theorem findK_none {L : List Tok} {s : List UInt8} (h : s ∉ L.map keyT) : findK L s = none := by
  unfold findK
  rw [List.find?_eq_none]
  intro x hx
  simp only [decide_eq_true_eq]
  exact fun e => h (List.mem_map.2 ⟨x, hx, e⟩)

end Go.Proofs.Ytcaicdjlfgpbfaa
