/-
  Plain facts: loads of parts of the wants, of lesser powers, in another order.
-/
import Derived.Test.YtkjggfhbnhpdnaaDoorPSite3
namespace Go.Proofs.YtkjggfhbnhpdnaaDoor
set_option linter.unusedVariables false

theorem zip_take' {α β : Type} : ∀ (a : List α) (b : List β) (k : Nat), (a.take k).zip (b.take k) = (a.zip b).take k
  | [], b, k => by simp
  | x :: a, [], k => by cases k <;> simp
  | x :: a, y :: b, 0 => by simp
  | x :: a, y :: b, k + 1 => by simp [zip_take' a b k]
theorem zip_drop' {α β : Type} : ∀ (a : List α) (b : List β) (k : Nat), (a.drop k).zip (b.drop k) = (a.zip b).drop k
  | [], b, k => by simp
  | x :: a, [], k => by cases k <;> simp
  | x :: a, y :: b, 0 => by simp
  | x :: a, y :: b, k + 1 => by simp [zip_drop' a b k]
theorem zip_app' {α β : Type} : ∀ (a : List α) (b : List β) (c : List α) (d : List β), a.length = b.length → (a ++ c).zip (b ++ d) = a.zip b ++ c.zip d
  | [], [], c, d, _ => by simp
  | x :: a, [], c, d, h => by simp at h
  | [], y :: b, c, d, h => by simp at h
  | x :: a, y :: b, c, d, h => by simp [zip_app' a b c d (by simpa using h)]

theorem all_take_drop {α : Type} {l : List α} {p : α → Bool} (h : l.all p = true) (k : Nat) : (l.take k).all p = true ∧ (l.drop k).all p = true := by
  rw [List.all_eq_true] at h
  exact ⟨List.all_eq_true.2 fun x hx => h x (List.mem_of_mem_take hx), List.all_eq_true.2 fun x hx => h x (List.mem_of_mem_drop hx)⟩

structure AddsOk (S : SiteR) (W : List WantR) (Z : List Int) (K : Nat) : Prop where
  ea : loadE S (W.take K) (Z.take K) = 0
  eb : loadE S (W.drop K) (Z.drop K) = 0
  la : loadsOf S (W.take K) (Z.take K) = loadL S.F S.P ((W.zip Z).take K)
  lb : loadsOf S (W.drop K) (Z.drop K) = loadL S.F S.P ((W.zip Z).drop K)
  l : loadsOf S W Z = loadL S.F S.P (W.zip Z)
theorem addsOk {S : SiteR} {W : List WantR} {Z : List Int} (h : loadE S W Z = 0) (K : Nat) : AddsOk S W Z K := by
  obtain ⟨h0, hl, hall⟩ := loadE_zero h
  obtain ⟨h1, h2⟩ := all_take_drop hall K
  have ea : loadE S (W.take K) (Z.take K) = 0 := loadE_ok h0 (by simp [hl]) (by rw [zip_take']; exact h1)
  have eb : loadE S (W.drop K) (Z.drop K) = 0 := loadE_ok h0 (by simp [hl]) (by rw [zip_drop']; exact h2)
  exact ⟨ea, eb, by rw [loadsOf_ok ea, zip_take'], by rw [loadsOf_ok eb, zip_drop'], loadsOf_ok h⟩
theorem capAt_split (F : List Feed) (P : List Pnt) (f : Nat) (l : List (WantR × Int)) (K : Nat) : capAt F P f l = plusC (capAt F P f (l.take K)) (capAt F P f (l.drop K)) := by
  rw [← capAt_append, List.take_append_drop]

/-- a feeder carries at least what each feeder below it carries -/
theorem capAt_up {S : SiteR} (hS : SiteOk S) {i p : Nat} (hi : i < S.F.length) (he : S.F[i].parent = (p : Int)) (l : List (WantR × Int)) (hl : ∀ x ∈ l, 0 ≤ x.2 ∧ x.2 ≤ 1048576) :
    (capAt S.F S.P i l).t ≤ (capAt S.F S.P p l).t ∧ (capAt S.F S.P i l).a ≤ (capAt S.F S.P p l).a := by
  induction l with
  | nil => exact ⟨Int.le_refl _, Int.le_refl _⟩
  | cons x l ih =>
    rw [capAt_cons, capAt_cons]
    obtain ⟨h1, h2⟩ := ih (fun y hy => hl y (by simp [hy]))
    obtain ⟨q0, q1⟩ := hl x (by simp)
    have hb := addC_bd (ph := x.1.phases) q0 q1
    have hc : (ctr S.F S.P i x).t ≤ (ctr S.F S.P p x).t ∧ (ctr S.F S.P i x).a ≤ (ctr S.F S.P p x).a := by
      unfold ctr
      by_cases hm : i ∈ wantPath S.F S.P x.1
      · have hm2 : p ∈ wantPath S.F S.P x.1 := by
          unfold wantPath at hm ⊢
          split at hm
          · exact path_up hS hi (Nat.le_refl _) he hm
          · simp at hm
        rw [if_pos hm, if_pos hm2]
        exact ⟨Int.le_refl _, Int.le_refl _⟩
      · rw [if_neg hm]
        split
        · have : zeroC.t = 0 := rfl
          have : zeroC.a = 0 := rfl
          omega
        · exact ⟨Int.le_refl _, Int.le_refl _⟩
    simp only [plusC]
    omega

/-- the order of the wants does not matter -/
theorem loadE_turn {S : SiteR} {W : List WantR} {Z : List Int} (hl : W.length = Z.length) (K : Nat) : loadE S (W.drop K ++ W.take K) (Z.drop K ++ Z.take K) = loadE S W Z ∧ loadsOf S (W.drop K ++ W.take K) (Z.drop K ++ Z.take K) = loadsOf S W Z := by
  have hz : (W.drop K ++ W.take K).zip (Z.drop K ++ Z.take K) = (W.zip Z).drop K ++ (W.zip Z).take K := by
    rw [zip_app' _ _ _ _ (by simp [hl]), zip_drop', zip_take']
  have ha : ((W.zip Z).drop K ++ (W.zip Z).take K).all (wantB S.P) = (W.zip Z).all (wantB S.P) := by
    rw [List.all_append, Bool.and_comm, ← List.all_append, List.take_append_drop]
  have hl2 : (W.drop K ++ W.take K).length = (Z.drop K ++ Z.take K).length := by simp [hl]
  have he : loadE S (W.drop K ++ W.take K) (Z.drop K ++ Z.take K) = loadE S W Z := by
    unfold loadE
    rw [hz, ha, if_neg (c := (W.drop K ++ W.take K).length ≠ _) (by simp [hl2]), if_neg (c := W.length ≠ Z.length) (by simp [hl])]
  refine ⟨he, ?_⟩
  unfold loadsOf
  rw [he, hz, loadL_turn, List.take_append_drop]

/-- lesser powers fit -/
def lessC (x y : CapR) : Prop := x.a ≤ y.a ∧ x.b ≤ y.b ∧ x.c ≤ y.c ∧ x.t ≤ y.t
theorem lessC.refl (x : CapR) : lessC x x := ⟨Int.le_refl _, Int.le_refl _, Int.le_refl _, Int.le_refl _⟩
theorem lessC.plus {x y x' y' : CapR} (h : lessC x y) (h' : lessC x' y') : lessC (plusC x x') (plusC y y') := by
  obtain ⟨a, b, c, d⟩ := h
  obtain ⟨a', b', c', d'⟩ := h'
  refine ⟨?_, ?_, ?_, ?_⟩ <;> simp only [plusC] <;> omega
theorem addC_less {ph p q : Int} (h : p ≤ q) : lessC (addC zeroC ph p) (addC zeroC ph q) := by
  have e : ∀ b : Int, b % 2 = 0 ∨ b % 2 = 1 := by omega
  refine ⟨?_, ?_, ?_, ?_⟩ <;> simp only [addC, zeroC] <;> rcases e ph with h1 | h1 <;> rcases e (ph / 2) with h2 | h2 <;> rcases e (ph / 4) with h3 | h3 <;> simp only [h1, h2, h3] <;> omega
theorem ctr_less {F : List Feed} {P : List Pnt} {f : Nat} {x : WantR} {p q : Int} (h : p ≤ q) : lessC (ctr F P f (x, p)) (ctr F P f (x, q)) := by
  unfold ctr
  simp only
  split
  · exact addC_less h
  · exact lessC.refl _
theorem capAt_less {F : List Feed} {P : List Pnt} {f : Nat} : ∀ (W : List WantR) (Z Y : List Int), (∀ j (h1 : j < Y.length) (h2 : j < Z.length), Y[j] ≤ Z[j]) → Y.length = Z.length → lessC (capAt F P f (W.zip Y)) (capAt F P f (W.zip Z))
  | [], Z, Y, _, _ => by simp; exact lessC.refl _
  | x :: W, [], [], _, _ => lessC.refl _
  | x :: W, [], _ :: _, _, h => by simp at h
  | x :: W, _ :: _, [], _, h => by simp at h
  | x :: W, z :: Z, y :: Y, h, hl => by
    rw [List.zip_cons_cons, List.zip_cons_cons, capAt_cons, capAt_cons]
    refine (ctr_less (h 0 (by simp) (by simp))).plus (capAt_less W Z Y (fun j h1 h2 => ?_) (by simpa using hl))
    have := h (j + 1) (by simp; omega) (by simp; omega)
    simpa using this

theorem fitsB_iff {S : SiteR} {C : List CapR} {W : List WantR} {pw : List Int} : fitsB S C W pw = true ↔ loadE S W pw = 0 ∧ C.length = S.F.length ∧ (overL C (loadsOf S W pw)).length = 0 ∧ (W.zip pw).any (highB S.P) = false := by
  unfold fitsB
  simp only [Bool.and_eq_true, decide_eq_true_eq, Bool.not_eq_true']

theorem fits_less {S : SiteR} {C : List CapR} {W : List WantR} {Z Y : List Int} (h : fitsB S C W Z = true) (hl : Y.length = Z.length) (h0 : ∀ y ∈ Y, 0 ≤ y) (hle : ∀ j (h1 : j < Y.length) (h2 : j < Z.length), Y[j] ≤ Z[j]) : fitsB S C W Y = true := by
  obtain ⟨hE, hC, hO, hH⟩ := fitsB_iff.1 h
  obtain ⟨hs, hWZ, hall⟩ := loadE_zero hE
  have hall2 : (W.zip Y).all (wantB S.P) = true := by
    rw [List.all_eq_true]
    intro x hx
    obtain ⟨j, hj, rfl⟩ := List.mem_iff_getElem.1 hx
    have hj1 : j < W.length := by simp at hj; omega
    have hj2 : j < Y.length := by simp at hj; omega
    have hj3 : j < Z.length := by omega
    rw [List.getElem_zip]
    have hz := wantB_iff.1 (List.all_eq_true.1 hall (W[j], Z[j]) (List.mem_iff_getElem.2 ⟨j, by simp; omega, by simp⟩))
    have hyz := hle j hj2 hj3
    exact wantB_iff.2 ⟨hz.p0, hz.p1, hz.h1, hz.h7, hz.mask, h0 _ (List.getElem_mem hj2), Int.le_trans hyz hz.w1⟩
  have hE2 : loadE S W Y = 0 := loadE_ok hs (by omega) hall2
  refine fitsB_iff.2 ⟨hE2, hC, ?_, ?_⟩
  · rw [loadsOf_ok hE] at hO
    rw [loadsOf_ok hE2]
    have hnil := List.eq_nil_of_length_eq_zero hO
    have : overL C (loadL S.F S.P (W.zip Y)) = [] := by
      unfold overL at hnil ⊢
      rw [List.filter_eq_nil_iff] at hnil ⊢
      intro i hi
      rw [loadL_len] at hi hnil
      have hn := hnil i hi
      have hiF : i < S.F.length := by rw [List.mem_range] at hi; omega
      have hiC : i < C.length := by omega
      rw [List.getElem?_eq_getElem hiC, loadL_get hiF] at hn ⊢
      simp only at hn ⊢
      obtain ⟨a, b, c, d⟩ := capAt_less (F := S.F) (P := S.P) (f := i) W Z Y hle hl
      unfold overB at hn ⊢
      simp only [Bool.or_eq_true, decide_eq_true_eq] at hn ⊢
      omega
    rw [this]; rfl
  · rw [List.any_eq_false] at hH ⊢
    intro x hx
    obtain ⟨j, hj, rfl⟩ := List.mem_iff_getElem.1 hx
    have hj1 : j < W.length := by simp at hj; omega
    have hj2 : j < Y.length := by simp at hj; omega
    have hj3 : j < Z.length := by omega
    rw [List.getElem_zip]
    have hz := hH (W[j], Z[j]) (List.mem_iff_getElem.2 ⟨j, by simp; omega, by simp⟩)
    have hyz := hle j hj2 hj3
    unfold highB at hz ⊢
    simp only at hz ⊢
    split
    · rename_i p hp
      rw [hp] at hz
      simp only [Bool.or_eq_true, decide_eq_true_eq] at hz ⊢
      omega
    · simp

end Go.Proofs.YtkjggfhbnhpdnaaDoor
