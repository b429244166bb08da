/-
  Plain functions of series: valid ones; the energy of a span. No program is named here.
-/
import Derived.Test.YtpknjblgbpndlaaDoorPCov
namespace Go.Proofs.YtpknjblgbpndlaaDoor
set_option linter.unusedVariables false

def valB (v : Int) : Bool := decide (-1099511627776 ≤ v) && decide (v ≤ 1099511627776)
theorem valB_iff {v : Int} : valB v = true ↔ -1099511627776 ≤ v ∧ v ≤ 1099511627776 := by unfold valB; simp
/-- the first k steps of a series are in order -/
def OkTo (L : List (Int × Int)) (k : Nat) : Prop := (∀ p ∈ L.take k, timeB p.1 = true ∧ valB p.2 = true) ∧ (L.take k).Pairwise (fun p q => p.1 < q.1)
theorem OkTo.zero (L : List (Int × Int)) : OkTo L 0 := ⟨fun p h => by simp at h, by simp⟩
theorem OkTo.part {L : List (Int × Int)} {k j : Nat} (h : OkTo L k) (hj : j ≤ k) : OkTo L j := by
  have e : L.take j = (L.take k).take j := by rw [List.take_take, Nat.min_eq_left hj]
  refine ⟨fun p hp => h.1 p ?_, ?_⟩
  · rw [e] at hp; exact List.mem_of_mem_take hp
  · rw [e]; exact h.2.take
theorem OkTo.at {L : List (Int × Int)} {k j : Nat} (h : OkTo L k) (hj : j < k) (hl : j < L.length) : timeB L[j].1 = true ∧ valB L[j].2 = true :=
  h.1 _ (List.mem_take_iff_getElem.2 ⟨j, by omega, rfl⟩)
theorem OkTo.gap {L : List (Int × Int)} {k j : Nat} (h : OkTo L k) (hj : j + 1 < k) (hl : j + 1 < L.length) : L[j].1 < L[j + 1].1 := by
  have := (List.pairwise_iff_getElem.1 h.2) j (j + 1) (by simp; omega) (by simp; omega) (by omega)
  simpa using this
theorem OkTo.first {L : List (Int × Int)} (h : 0 < L.length) (h1 : timeB L[0].1 = true) (h2 : valB L[0].2 = true) : OkTo L (0 + 1) := by
  constructor
  · intro p hp
    rw [List.take_succ_eq_append_getElem h] at hp
    simp at hp; rw [hp]; exact ⟨h1, h2⟩
  · rw [List.take_succ_eq_append_getElem h]; simp
theorem OkTo.step {L : List (Int × Int)} {k : Nat} (h : OkTo L (k + 1)) (hl : k + 1 < L.length) (h1 : timeB L[k + 1].1 = true) (h2 : valB L[k + 1].2 = true) (h3 : L[k].1 < L[k + 1].1) : OkTo L (k + 1 + 1) := by
  constructor
  · intro p hp
    rw [List.take_succ_eq_append_getElem hl] at hp
    rcases List.mem_append.1 hp with e | e
    · exact h.1 p e
    · simp at e; rw [e]; exact ⟨h1, h2⟩
  · rw [List.take_succ_eq_append_getElem hl, List.pairwise_append]
    refine ⟨h.2, by simp, fun p hp q hq => ?_⟩
    simp at hq; rw [hq]
    rw [List.take_succ_eq_append_getElem (show k < L.length by omega)] at hp
    rcases List.mem_append.1 hp with e | e
    · have hk := h.2
      rw [List.take_succ_eq_append_getElem (show k < L.length by omega), List.pairwise_append] at hk
      have := hk.2.2 p e L[k] (by simp)
      omega
    · simp at e; rw [e]; exact h3
def serOk (L : List (Int × Int)) : Prop := L.length ≤ 512 ∧ OkTo L L.length

/-- the minutes of a step within a span -/
def segF (L : List (Int × Int)) (a b : Int) (j : Nat) : Int :=
  match L[j]? with
  | none => 0
  | some x => max 0 ((match L[j + 1]? with | none => b | some y => min b y.1) - max x.1 a)
def valF (L : List (Int × Int)) (j : Nat) : Int := match L[j]? with | none => 0 | some x => x.2
def sumN (f : Nat → Int) : Nat → Int
  | 0 => 0
  | n + 1 => sumN f n + f n
theorem sumN_add (f g : Nat → Int) : ∀ n, sumN (fun j => f j + g j) n = sumN f n + sumN g n
  | 0 => rfl
  | n + 1 => by simp only [sumN]; rw [sumN_add f g n]; omega
theorem sumN_mul (f : Nat → Int) (c : Int) : ∀ n, sumN (fun j => f j * c) n = sumN f n * c
  | 0 => by simp [sumN]
  | n + 1 => by simp only [sumN]; rw [sumN_mul f c n, Int.add_mul]
theorem sumN_congr {f g : Nat → Int} : ∀ n, (∀ j, j < n → f j = g j) → sumN f n = sumN g n
  | 0, _ => rfl
  | n + 1, h => by simp only [sumN]; rw [sumN_congr n (fun j hj => h j (by omega)), h n (by omega)]
theorem sumN_zero : ∀ n, sumN (fun _ => 0) n = 0
  | 0 => rfl
  | n + 1 => by simp only [sumN]; rw [sumN_zero n]; rfl
theorem sumN_le {f : Nat → Int} {c : Int} : ∀ n, (∀ j, j < n → -c ≤ f j ∧ f j ≤ c) → -((n : Int) * c) ≤ sumN f n ∧ sumN f n ≤ (n : Int) * c
  | 0, _ => by simp [sumN]
  | n + 1, h => by
    have h1 := sumN_le n (fun j hj => h j (by omega))
    have h2 := h n (by omega)
    simp only [sumN]
    have e : ((n + 1 : Nat) : Int) * c = (n : Int) * c + c := by rw [Int.natCast_add]; simp [Int.add_mul]
    rw [e]
    omega
def enF (L : List (Int × Int)) (a b : Int) : Int := sumN (fun j => valF L j * segF L a b j) L.length
def hiF (L : List (Int × Int)) (a b : Int) (k : Nat) : Int := sumN (fun j => valF L j / 1048576 * segF L a b j) k
def loF (L : List (Int × Int)) (a b : Int) (k : Nat) : Int := sumN (fun j => valF L j % 1048576 * segF L a b j) k
theorem seg_rng (L : List (Int × Int)) {a b : Int} (h : a ≤ b) (j : Nat) : 0 ≤ segF L a b j ∧ segF L a b j ≤ b - a := by
  unfold segF
  cases L[j]? with
  | none => simp only; omega
  | some x => cases L[j + 1]? <;> simp only <;> omega
theorem seg_add (L : List (Int × Int)) {a b c : Int} (h1 : a ≤ b) (h2 : b ≤ c) (j : Nat) : segF L a b j + segF L b c j = segF L a c j := by
  unfold segF
  cases L[j]? with
  | none => simp only; omega
  | some x => cases L[j + 1]? <;> simp only <;> omega
theorem seg_none (L : List (Int × Int)) (a : Int) (j : Nat) : segF L a a j = 0 := by
  unfold segF
  cases L[j]? with
  | none => rfl
  | some x => cases L[j + 1]? <;> simp only <;> omega
theorem en_add (L : List (Int × Int)) {a b c : Int} (h1 : a ≤ b) (h2 : b ≤ c) : enF L a b + enF L b c = enF L a c := by
  unfold enF
  rw [← sumN_add]
  refine sumN_congr _ fun j _ => ?_
  rw [← seg_add L h1 h2 j, Int.mul_add]
theorem en_none (L : List (Int × Int)) (a : Int) : enF L a a = 0 := by
  unfold enF
  rw [← sumN_zero L.length]
  refine sumN_congr _ fun j _ => ?_
  rw [seg_none, Int.mul_zero]
theorem mul_rng {x y X Y : Int} (h1 : -X ≤ x) (h2 : x ≤ X) (h3 : 0 ≤ y) (h4 : y ≤ Y) (hX : 0 ≤ X) : -(X * Y) ≤ x * y ∧ x * y ≤ X * Y := by
  have a1 := Int.mul_le_mul_of_nonneg_right h2 h3
  have a2 := Int.mul_le_mul_of_nonneg_left h4 hX
  have a3 := Int.mul_le_mul_of_nonneg_right h1 h3
  rw [Int.neg_mul] at a3
  constructor <;> omega
theorem val_rng {L : List (Int × Int)} (h : serOk L) (j : Nat) : -1099511627776 ≤ valF L j ∧ valF L j ≤ 1099511627776 := by
  unfold valF
  split
  · omega
  · rename_i x hx
    obtain ⟨hl, e⟩ := List.getElem?_eq_some_iff.1 hx
    have := (h.2.at (j := j) hl hl).2
    rw [e] at this
    exact valB_iff.1 this
theorem en_rng {L : List (Int × Int)} (h : serOk L) (hl : L.length ≤ 40) {a b : Int} (h1 : a ≤ b) (h2 : b - a ≤ 5000) : -219902325555200000 ≤ enF L a b ∧ enF L a b ≤ 219902325555200000 := by
  have := sumN_le (f := fun j => valF L j * segF L a b j) (c := 1099511627776 * 5000) L.length (fun j _ => by
    have v := val_rng h j
    have s := seg_rng L h1 j
    exact mul_rng v.1 v.2 s.1 (by omega) (by omega))
  unfold enF
  omega
theorem hi_rng {L : List (Int × Int)} (h : serOk L) {a b : Int} (h1 : a ≤ b) (h2 : b - a ≤ 5000) {k : Nat} (hk : k ≤ 40) : -209715200000 ≤ hiF L a b k ∧ hiF L a b k ≤ 209715200000 := by
  have := sumN_le (f := fun j => valF L j / 1048576 * segF L a b j) (c := 1048576 * 5000) k (fun j _ => by
    have v := val_rng h j
    have s := seg_rng L h1 j
    exact mul_rng (by omega) (by omega) s.1 (by omega) (by omega))
  unfold hiF
  omega
theorem lo_rng {L : List (Int × Int)} {a b : Int} (h1 : a ≤ b) (h2 : b - a ≤ 5000) {k : Nat} (hk : k ≤ 40) : -209715200000 ≤ loF L a b k ∧ loF L a b k ≤ 209715200000 := by
  have := sumN_le (f := fun j => valF L j % 1048576 * segF L a b j) (c := 1048576 * 5000) k (fun j _ => by
    have s := seg_rng L h1 j
    exact mul_rng (by omega) (by omega) s.1 (by omega) (by omega))
  unfold loF
  omega
theorem lo_pos {L : List (Int × Int)} {a b : Int} (h1 : a ≤ b) : ∀ k, 0 ≤ loF L a b k
  | 0 => by simp [loF, sumN]
  | k + 1 => by
    have := lo_pos (L := L) h1 k
    have s := seg_rng L h1 k
    have : 0 ≤ valF L k % 1048576 * segF L a b k := Int.mul_nonneg (by omega) s.1
    unfold loF at *
    simp only [sumN]
    omega
theorem en_split (L : List (Int × Int)) (a b : Int) : enF L a b = hiF L a b L.length * 1048576 + loF L a b L.length := by
  unfold enF hiF loF
  rw [← sumN_mul, ← sumN_add]
  refine sumN_congr _ fun j _ => ?_
  have : valF L j = valF L j / 1048576 * 1048576 + valF L j % 1048576 := by omega
  conv => lhs; rw [this]
  rw [Int.add_mul, Int.mul_right_comm]
theorem hi_step (L : List (Int × Int)) (a b : Int) (k : Nat) : hiF L a b (k + 1) = hiF L a b k + valF L k / 1048576 * segF L a b k := rfl
theorem lo_step (L : List (Int × Int)) (a b : Int) (k : Nat) : loF L a b (k + 1) = loF L a b k + valF L k % 1048576 * segF L a b k := rfl
/-- the end of a step within a span -/
def toEnd (L : List (Int × Int)) (b : Int) (j : Nat) : Int := match L[j + 1]? with | none => b | some y => min b y.1
theorem seg_eq {L : List (Int × Int)} {j : Nat} (h : j < L.length) (a b : Int) : segF L a b j = max 0 (toEnd L b j - max L[j].1 a) := by
  unfold segF toEnd
  rw [List.getElem?_eq_getElem h]
theorem val_eq {L : List (Int × Int)} {j : Nat} (h : j < L.length) : valF L j = L[j].2 := by
  unfold valF
  rw [List.getElem?_eq_getElem h]
theorem toEnd_last {L : List (Int × Int)} {j : Nat} (h : ¬ j + 1 < L.length) (b : Int) : toEnd L b j = b := by
  unfold toEnd
  rw [List.getElem?_eq_none (by omega)]
theorem toEnd_mid {L : List (Int × Int)} {j : Nat} (h : j + 1 < L.length) (b : Int) : toEnd L b j = min b L[j + 1].1 := by
  unfold toEnd
  rw [List.getElem?_eq_getElem h]

/-- where the spans before k end -/
def prevF (a : Int) (l : List (Int × Int)) : Nat → Int
  | 0 => a
  | k + 1 => match l[k]? with | some p => p.2 | none => a
theorem prevF_succ {a : Int} {l : List (Int × Int)} {k : Nat} (h : k < l.length) : prevF a l (k + 1) = l[k].2 := by
  show (match l[k]? with | some p => p.2 | none => a) = l[k].2
  rw [List.getElem?_eq_getElem h]
structure DivOk (H : Int → Bool) (a b at' : Int) (p : Int × Int) : Prop where
  lo : a ≤ at'
  gap : at' ≤ p.1
  len : p.1 ≤ p.2
  hi : p.2 ≤ b
  on : ∀ t, p.1 ≤ t → t < p.2 → H t = true
theorem div_ok {H : Int → Bool} {a b : Int} {l : List (Int × Int)} (hab : a ≤ b) (h : CovTo H a b l) {k : Nat} (hk : k < (l ++ [(b, b)]).length) : DivOk H a b (prevF a (l ++ [(b, b)]) k) (l ++ [(b, b)])[k] := by
  have hprev : ∀ j, j < l.length → prevF a (l ++ [(b, b)]) (j + 1) = (l[j]?.getD (b, b)).2 := fun j hj => by
    rw [prevF_succ (by simp; omega), List.getElem_append_left hj, List.getElem?_eq_getElem hj]; rfl
  by_cases hl : k < l.length
  · rw [List.getElem_append_left hl]
    have hm := h.mem l[k] (List.getElem_mem hl)
    have hon := h.on l[k] (List.getElem_mem hl)
    cases k with
    | zero => exact ⟨Int.le_refl _, hm.1, by omega, hm.2.2, hon⟩
    | succ j =>
      have hj : j < l.length := by omega
      have hm2 := h.mem l[j] (List.getElem_mem hj)
      have hg := (List.pairwise_iff_getElem.1 h.asc) j (j + 1) hj hl (by omega)
      rw [hprev j hj, List.getElem?_eq_getElem hj]
      exact ⟨by simp; omega, by simp; omega, by omega, hm.2.2, hon⟩
  · have hkl : k = l.length := by simp at hk; omega
    have e : (l ++ [(b, b)])[k] = (b, b) := by rw [List.getElem_append_right (by omega)]; simp [hkl]
    rw [e]
    cases k with
    | zero => exact ⟨Int.le_refl _, hab, Int.le_refl _, Int.le_refl _, fun t h1 h2 => by simp at h1 h2; omega⟩
    | succ j =>
      have hj : j < l.length := by omega
      have hm2 := h.mem l[j] (List.getElem_mem hj)
      rw [hprev j hj, List.getElem?_eq_getElem hj]
      exact ⟨by simp; omega, by simp; omega, Int.le_refl _, Int.le_refl _, fun t h1 h2 => by simp at h1 h2; omega⟩
theorem div_end {a b : Int} (l : List (Int × Int)) : prevF a (l ++ [(b, b)]) (l ++ [(b, b)]).length = b := by
  rw [show (l ++ [(b, b)]).length = l.length + 1 by simp, prevF_succ (by simp)]
  simp
theorem cov_len {H : Int → Bool} {a b : Int} {l : List (Int × Int)} (hab : a ≤ b) (h : CovTo H a b l) : (l.length : Int) ≤ b - a := by
  have key : ∀ k (hk : k < l.length), a + k ≤ l[k].1 := by
    intro k
    induction k with
    | zero => intro hk; have := h.mem l[0] (List.getElem_mem hk); simp; omega
    | succ k ih =>
      intro hk
      have := ih (by omega)
      have h1 := h.mem l[k] (List.getElem_mem (by omega))
      have h2 := (List.pairwise_iff_getElem.1 h.asc) k (k + 1) (by omega) hk (by omega)
      push_cast
      omega
  rcases Nat.eq_zero_or_pos l.length with e | e
  · rw [e]; simp; omega
  · have h1 := key (l.length - 1) (by omega)
    have h2 := h.mem l[l.length - 1] (List.getElem_mem (by omega))
    omega

end Go.Proofs.YtpknjblgbpndlaaDoor
