/-
  Plain laws: a wrong character of a contract identifier is detected. No program is named here.
-/
import Derived.Test.YtidmikodihkapaaDoorPIdent2
namespace Go.Proofs.YtidmikodihkapaaDoor
set_option linter.unusedVariables false

theorem capU_dash (b : UInt8) : (capU b == 45) = (b == 45) := by
  have h := capU_capI b
  have hb := b.toNat_lt
  by_cases e : b = 45
  · subst e; decide
  · have h1 : (b == 45) = false := by simpa using e
    have h2 : ¬ b.toNat = 45 := fun x => e (UInt8.toNat_inj.1 (by rw [x]; rfl))
    have h3 : ¬ capU b = 45 := by
      intro x
      rw [x] at h
      have h4 : ((45 : UInt8).toNat : Int) = 45 := rfl
      rw [h4] at h
      unfold capI at h
      split at h <;> omega
    have h5 : (capU b == 45) = false := by simpa using h3
    rw [h1, h5]

theorem capL_getD' (l : List UInt8) (k : Nat) (h : k < l.length) : (capL l).getD k 0 = capU (l.getD k 0) := by
  simp [capL, List.getD_eq_getElem?_getD, List.getElem?_eq_getElem h]

theorem formL_cap (l : List UInt8) : formL (capL l) = formL l := by
  unfold formL
  rw [capL_len]
  by_cases hl : l.length = 18
  · rw [capL_getD' l 2 (by omega), capL_getD' l 6 (by omega), capL_getD' l 16 (by omega), capU_dash, capU_dash, capU_dash]
    simp only [← capL_drop, ← capL_take, alnumL_cap]
  · simp [hl]

theorem capI_cap (b : UInt8) : capI ((capU b).toNat : Int) = capI (b.toNat : Int) := by
  rw [capU_capI]; have := b.toNat_lt; unfold capI; (repeat' split) <;> omega

theorem sumOK_cap (l : List UInt8) (hl : l.length = 18) : sumOK (capL l) = sumOK l := by
  unfold sumOK
  rw [← capL_take, checkC_cap, capL_getD' l 17 (by omega), capI_cap]

theorem parseE_cap (l : List UInt8) : parseE (capL l) = parseE l := by
  unfold parseE
  rw [formL_cap]
  cases hf : formL l with
  | false => rfl
  | true =>
    have hl : l.length = 18 := by unfold formL at hf; simp only [Bool.and_eq_true, decide_eq_true_eq] at hf; exact hf.1
    rw [sumOK_cap l hl]

theorem sumStep_inj_v {p v v' : Int} (hp : 1 ≤ p ∧ p ≤ 36) (hv : 0 ≤ v ∧ v < 36) (hv' : 0 ≤ v' ∧ v' < 36) (h : sumStep p v = sumStep p v') : v = v' := by
  unfold sumStep at h
  (repeat' split at h) <;> omega
theorem sumStep_inj_p {p p' v : Int} (hp : 1 ≤ p ∧ p ≤ 36) (hp' : 1 ≤ p' ∧ p' ≤ 36) (hv : 0 ≤ v ∧ v < 36) (h : sumStep p v = sumStep p' v) : p = p' := by
  unfold sumStep at h
  (repeat' split at h) <;> omega

theorem sumL_cat (a b : List UInt8) (p n : Int) : sumL (a ++ b) p n = sumL b (sumL a p n).1 (sumL a p n).2 := by
  induction a generalizing p n with
  | nil => rfl
  | cons x a ih => simp only [List.cons_append, sumL]; split <;> exact ih _ _

theorem sumL_n (l : List UInt8) (p n n' : Int) : (sumL l p n).1 = (sumL l p n').1 := by
  induction l generalizing p n n' with
  | nil => rfl
  | cons x l ih => simp only [sumL]; split <;> exact ih _ _ _

theorem sumL_inj (l : List UInt8) {p p' : Int} (n : Int) (hp : 1 ≤ p ∧ p ≤ 36) (hp' : 1 ≤ p' ∧ p' ≤ 36) (h : (sumL l p n).1 = (sumL l p' n).1) : p = p' := by
  induction l generalizing p p' n with
  | nil => exact h
  | cons x l ih =>
    simp only [sumL] at h
    have hv := valI_lt (x.toNat : Int)
    split at h
    · exact ih n hp hp' h
    · have := ih (n + 1) (sumStep_range _ _) (sumStep_range _ _) h
      exact sumStep_inj_p hp hp' (by omega) this

theorem valI_inj {b c : UInt8} (hb : 0 ≤ valI (b.toNat : Int)) (h : valI (b.toNat : Int) = valI (c.toNat : Int)) : capU b = capU c := by
  apply UInt8.toNat_inj.1
  have h1 := capU_capI b
  have h2 := capU_capI c
  have : capI (b.toNat : Int) = capI (c.toNat : Int) := by
    have := b.toNat_lt
    have := c.toNat_lt
    unfold valI at hb h
    unfold capI
    (repeat' split at h) <;> (repeat' split) <;> omega
  omega

theorem check_formula {l : List UInt8} (h : checkE l = 0) : checkC l = chrI ((37 - (sumL l 36 0).1) % 36) := by
  unfold checkE at h
  unfold checkC
  split at h
  · rename_i hc; rw [if_pos hc]
  · omega

theorem chr_inj {a b : Int} (ha : 0 ≤ a ∧ a < 36) (hb : 0 ≤ b ∧ b < 36) (h : chrI a = chrI b) : a = b := by
  unfold chrI at h; (repeat' split at h) <;> omega

/-- one other character with another value: another check character -/
theorem check_differs {a b : List UInt8} {x y : UInt8} (h1 : checkE (a ++ [x] ++ b) = 0) (h2 : checkE (a ++ [y] ++ b) = 0) (hx : 0 ≤ valI (x.toNat : Int)) (hy : 0 ≤ valI (y.toNat : Int))
    (hne : capU x ≠ capU y) : checkC (a ++ [x] ++ b) ≠ checkC (a ++ [y] ++ b) := by
  intro h
  rw [check_formula h1, check_formula h2] at h
  have r1 := sumL_range (a ++ [x] ++ b) 36 0 (by omega)
  have r2 := sumL_range (a ++ [y] ++ b) 36 0 (by omega)
  have he := chr_inj (by omega) (by omega) h
  have hp : (sumL (a ++ [x] ++ b) 36 0).1 = (sumL (a ++ [y] ++ b) 36 0).1 := by omega
  have ra := sumL_range a 36 0 (by omega)
  have vx := valI_lt (x.toNat : Int)
  have vy := valI_lt (y.toNat : Int)
  rw [List.append_assoc, List.append_assoc, sumL_cat a, sumL_cat a, List.singleton_append, List.singleton_append, sumL, if_neg (by omega), sumL, if_neg (by omega)] at hp
  have hq := sumL_inj b _ (sumStep_range _ _) (sumStep_range _ _) hp
  have hv := sumStep_inj_v ra (by omega) (by omega) hq
  exact hne (valI_inj hx hv)

theorem alnum_at {l : List UInt8} {n m : Int} (h : alnumL l n m = true) (k : Nat) (hk : k < l.length) : m ≤ valI ((l.getD k 0).toNat : Int) := by
  refine (alnum_of h).2 _ ?_
  rw [List.getD_eq_getElem?_getD, List.getElem?_eq_getElem hk]
  simp

/-- in a good form each place but the dashes has a value -/
theorem form_value {l : List UInt8} (hf : formL l = true) (k : Nat) (hk : k < 18) (h2 : k ≠ 2) (h6 : k ≠ 6) (h16 : k ≠ 16) : 0 ≤ valI ((l.getD k 0).toNat : Int) := by
  unfold formL at hf
  simp only [Bool.and_eq_true, decide_eq_true_eq] at hf
  obtain ⟨hl, _, _, _, a1, a2, a3, a4⟩ := hf
  rcases Nat.lt_or_ge k 2 with h | h
  · have := alnum_at a1 k (by simp; omega)
    have e : (l.take 2).getD k 0 = l.getD k 0 := by simp [List.getD_eq_getElem?_getD, h]
    rw [e] at this; omega
  rcases Nat.lt_or_ge k 6 with h' | h'
  · have := alnum_at a2 (k - 3) (by simp; omega)
    have e : ((l.drop 3).take 3).getD (k - 3) 0 = l.getD k 0 := by
      simp only [List.getD_eq_getElem?_getD, List.getElem?_take, List.getElem?_drop]
      rw [if_pos (by omega), show 3 + (k - 3) = k by omega]
    rw [e] at this; omega
  rcases Nat.lt_or_ge k 16 with h'' | h''
  · have := alnum_at a3 (k - 7) (by simp; omega)
    have e : ((l.drop 7).take 9).getD (k - 7) 0 = l.getD k 0 := by
      simp only [List.getD_eq_getElem?_getD, List.getElem?_take, List.getElem?_drop]
      rw [if_pos (by omega), show 7 + (k - 7) = k by omega]
    rw [e] at this; omega
  · have := alnum_at a4 (k - 17) (by simp; omega)
    have e : (l.drop 17).getD (k - 17) 0 = l.getD k 0 := by
      simp only [List.getD_eq_getElem?_getD, List.getElem?_drop]
      rw [show 17 + (k - 17) = k by omega]
    rw [e] at this; omega

theorem form_dash {l : List UInt8} (hf : formL l = true) : l.length = 18 ∧ l.getD 2 0 = 45 ∧ l.getD 6 0 = 45 ∧ l.getD 16 0 = 45 := by
  unfold formL at hf
  simp only [Bool.and_eq_true, decide_eq_true_eq, beq_iff_eq] at hf
  exact ⟨hf.1, hf.2.1, hf.2.2.1, hf.2.2.2.1⟩

theorem form_check' {l : List UInt8} (h : formL l = true) : checkE (l.take 16) = 0 := by
  unfold formL at h
  simp only [Bool.and_eq_true, decide_eq_true_eq, beq_iff_eq] at h
  obtain ⟨hl, h2, h6, h16, a1, a2, a3, _⟩ := h
  rw [(form_split hl h2 h6 h16).1]
  exact (join_check a1 a2 a3).1

theorem set_take (l : List UInt8) (k : Nat) (c : UInt8) (hk : k < 16) (hl : l.length = 18) : (l.set k c).take 16 = (l.take 16).take k ++ [c] ++ (l.take 16).drop (k + 1) := by
  rw [List.take_set, List.set_eq_take_append_cons_drop, if_pos (by simp; omega)]
  simp
theorem take_self (l : List UInt8) (k : Nat) (hk : k < 16) (hl : l.length = 18) : l.take 16 = (l.take 16).take k ++ [l.getD k 0] ++ (l.take 16).drop (k + 1) := by
  have h : k < (l.take 16).length := by simp; omega
  have e : l.getD k 0 = (l.take 16)[k] := by
    rw [List.getElem_take, List.getD_eq_getElem?_getD, List.getElem?_eq_getElem (by omega)]; rfl
  rw [e]
  have := List.take_append_drop k (l.take 16)
  rw [List.drop_eq_getElem_cons h] at this
  simpa using this.symm

theorem detects {l : List UInt8} (hf : formL l = true) (hs : sumOK l = true) (k : Nat) (hk : k < 18) (hd : l.getD k 0 ≠ 45) (c : UInt8) (hne : capL (l.set k c) ≠ capL l) : parseE (l.set k c) ≠ 0 := by
  obtain ⟨hl, d2, d6, d16⟩ := form_dash hf
  have k2 : k ≠ 2 := fun e => hd (by rw [e]; exact d2)
  have k6 : k ≠ 6 := fun e => hd (by rw [e]; exact d6)
  have k16 : k ≠ 16 := fun e => hd (by rw [e]; exact d16)
  have hcne : capU c ≠ capU (l.getD k 0) := by
    intro e
    apply hne
    have hlk : k < l.length := by omega
    apply List.ext_getElem?
    intro i
    simp only [capL, List.getElem?_map, List.getElem?_set]
    by_cases hi : k = i
    · subst hi
      rw [if_pos rfl, if_pos hlk]
      rw [List.getD_eq_getElem?_getD, List.getElem?_eq_getElem hlk] at e
      simp only [Option.getD_some] at e
      rw [List.getElem?_eq_getElem hlk]
      simp [e]
    · rw [if_neg hi]
  unfold parseE
  cases hf' : formL (l.set k c) with
  | false => simp
  | true =>
    cases hs' : sumOK (l.set k c) with
    | false => simp
    | true =>
      exfalso
      have vk := form_value hf k hk k2 k6 k16
      have vc := form_value hf' k hk k2 k6 k16
      have ec : (l.set k c).getD k 0 = c := by
        rw [List.getD_eq_getElem?_getD, List.getElem?_set]; simp [show k < l.length by omega]
      rw [ec] at vc
      unfold sumOK at hs hs'
      simp only [beq_iff_eq] at hs hs'
      by_cases h16 : k < 16
      · have e17 : (l.set k c).getD 17 0 = l.getD 17 0 := by
          rw [List.getD_eq_getElem?_getD, List.getD_eq_getElem?_getD, List.getElem?_set, if_neg (by omega)]
        have g1 := form_check' hf
        have g2 := form_check' hf'
        rw [set_take l k c h16 hl] at g2 hs'
        rw [take_self l k h16 hl] at g1 hs
        rw [e17, ← hs] at hs'
        exact check_differs g2 g1 vc vk hcne hs'
      · have hk17 : k = 17 := by omega
        subst hk17
        have e : (l.set 17 c).take 16 = l.take 16 := by rw [List.take_set_of_le (by omega)]
        rw [e, ec, hs] at hs'
        apply hcne
        apply UInt8.toNat_inj.1
        have h1 := capU_capI c
        have h2 := capU_capI (l.getD 17 0)
        omega

end Go.Proofs.YtidmikodihkapaaDoor
